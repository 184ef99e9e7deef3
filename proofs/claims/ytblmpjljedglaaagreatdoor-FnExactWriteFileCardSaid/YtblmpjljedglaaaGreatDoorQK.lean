/- joined -/
import Derived.Test.YtblmpjljedglaaaGreatDoorQJ
set_option linter.unusedSimpArgs false
set_option linter.unusedVariables false
section
namespace Go.My
open Go.Eng Go.Proofs
variable {G:GInv}
def suA(c:BC)(s:Bs):AV:= .box 0 [nds c.ns,.int .i64 c.ind,.sl true 0 2 Ru ruA s.rules,.sl true 0 5 Ch chA s.chunks,.sl true 0 3 Sn snA s.spans,.sl true 0 2 Ti tiA s.ties,.str s.text,.bool (!c.rd)]
theorem MW{r fr n m:Int}{sp:Bool}{s:Bs}(h:min n 40=min m 40):AU r fr sp n s=AU r fr sp m s:=by unfold AU;rw[h]
def BQ:Sig:= {X:=BC×List Ru×List Ch×List Sn×List Ti×List UInt8×List UInt8,args:=fun x=>[suA x.1 (xC x),.str x.2.2.2.2.2.2],pre:=fun x=>(xC x).text.length+x.2.2.2.2.2.2.length≤2^62,Y:=BT,post:=fun x y=>isB (Am x.2.2.2.2.2.2 (xC x)) (yBW y),res:=fun x y=> .tup [],outs:=fun x y=>[suA x.1 (yBW y),.top],keep:=true}
theorem MX:Ah G Tryz.prog 50 BQ:=
 vcFun_okP [] [] false (fun x=>[]) Tryz.func50 rfl (by decide) trivial (fun(x:BC×List Ru×List Ch×List Sn×List Ti×List UInt8×List UInt8)=>True∧(↑(List.length (xC x).text+List.length x.2.2.2.2.2.2):Int)≤IntKind.max IntKind.i64∧rA BQ x [.tup [],.box 0 [nds x.1.ns,.int .i64 x.1.ind,AV.sl true 0 2 Ru ruA (xC x).rules,AV.sl true 0 5 Ch chA (xC x).chunks,AV.sl true 0 3 Sn snA (xC x).spans,AV.sl true 0 2 Ti tiA (xC x).ties,.str ((xC x).text++x.2.2.2.2.2.2),.bool !x.1.rd],.top]) (fun x=>by kernel_rfl) fun(x:BC×List Ru×List Ch×List Sn×List Ti×List UInt8×List UInt8) (hx:(xC x).text.length+x.2.2.2.2.2.2.length≤2^62)=>(by
 dsimp only[Bl,Bg,nds,rA,Bj,BQ,Bm,suA,Bn,Aq,Aw]
 obtain⟨b,r,c,s,t,u,l⟩:=x;dsimp only[xC] at hx ⊢
 (repeat' first|(with_reducible first|rfl|exact True.intro|apply AG|apply And.intro|((first|apply Au|apply AE|apply Av|apply AF)<;>intro _))|(apply As<;>intro _)|apply AD|refine Af () ?_ ?_|((first|apply AK|apply AJ|apply AI|apply AH|apply AC|apply AB|apply AA|apply Az|apply Ax)<;>try dsimp only)|apply Af|(refine Prod.forall.2 ?_;intro _;try dsimp only)|(intro _;try dsimp only))
 all_goals first
  |rfl
  |exact(show isB _ _ from rfl)
  |((try simp only[Ai]);omega)
  |skip)
def DU:Sig:= {X:=BC×List Ru×List Ch×List Sn×List Ti×List UInt8×Int×Int,args:=fun x=>[suA x.1 (xC x),.int .i64 x.2.2.2.2.2.2.1,.int .i64 x.2.2.2.2.2.2.2],pre:=fun x=>bB (xC x),Y:=BT,post:=fun x y=>yBW y=Be x.1.rd x.2.2.2.2.2.2.1 x.2.2.2.2.2.2.2 (xC x),res:=fun x y=> .int .i64 (AM x.1.rd (xC x)),outs:=fun x y=>[suA x.1 (yBW y),.top,.top],keep:=true}
theorem OT:Ah G Tryz.prog 48 DU:=
 vcFun_okP [] [(27,⟨Ru,ruA⟩)] false (fun x=>[]) Tryz.func48 rfl (by decide) trivial (fun(x:BC×List Ru×List Ch×List Sn×List Ti×List UInt8×Int×Int)=>True∧Ab (!x.1.rd) (rA DU x [.int .i64 (-1:Int),.box 0 [nds x.1.ns,.int .i64 x.1.ind,AV.sl true 0 2 Ru ruA (xC x).rules,AV.sl true 0 5 Ch chA (xC x).chunks,AV.sl true 0 3 Sn snA (xC x).spans,AV.sl true 0 2 Ti tiA (xC x).ties,.str (xC x).text,.bool !x.1.rd],.top,.top]) (Ab (decide ((↑(List.length (xC x).rules):Int)≥(8:Int))) (rA DU x [.int .i64 (-1:Int),.box 0 [nds x.1.ns,.int .i64 x.1.ind,AV.sl true 0 2 Ru ruA (xC x).rules,AV.sl true 0 5 Ch chA (xC x).chunks,AV.sl true 0 3 Sn snA (xC x).spans,AV.sl true 0 2 Ti tiA (xC x).ties,.str (xC x).text,.bool !x.1.rd],.top,.top]) (∃(x_1:Ru),x.2.2.2.2.2.2.1=x_1.vals∧x.2.2.2.2.2.2.2=x_1.cost∧∃(zs:List Ru),AV.sl true 0 2 Ru ruA [x_1]=AV.sl true 0 2 Ru ruA zs∧BH ruA∧Bb (List.length (xC x).rules+List.length zs) (16:Nat)∧inR IntKind.i64 ((↑(List.length ((xC x).rules++zs)):Int)-(1:Int))∧∃(y:BT),yBW y=Be x.1.rd x.2.2.2.2.2.2.1 x.2.2.2.2.2.2.2 (xC x)∧(↑(List.length ((xC x).rules++zs)):Int)-(1:Int)=AM x.1.rd (xC x)∧nds x.1.ns=nds x.1.ns∧x.1.ind=x.1.ind∧AV.sl true 0 2 Ru ruA ((xC x).rules++zs)=AV.sl true 0 2 Ru ruA (yBW y).rules∧AV.sl true 0 5 Ch chA (xC x).chunks=AV.sl true 0 5 Ch chA (yBW y).chunks∧AV.sl true 0 3 Sn snA (xC x).spans=AV.sl true 0 3 Sn snA (yBW y).spans∧AV.sl true 0 2 Ti tiA (xC x).ties=AV.sl true 0 2 Ti tiA (yBW y).ties∧(xC x).text=(yBW y).text∧(!x.1.rd)= !x.1.rd∧True))) (fun x=>by kernel_rfl) fun(x:BC×List Ru×List Ch×List Sn×List Ti×List UInt8×Int×Int) (hx:bB (xC x))=>(by
 dsimp only[Bl,Bg,nds,rA,Bj,DU,Bm,suA,Bn,Aq,Aw]
 obtain⟨b,r,c,s,t,u,e,f⟩:=x;dsimp only[xC] at hx ⊢
 have hx:bB ⟨r,c,s,t,u⟩:=hx
 have h1:=hx.ok.ru;dsimp only at h1
 (repeat' first|refine a4w ?_|(with_reducible first|rfl|exact True.intro|apply AG|apply And.intro|((first|apply Au|apply AE|apply Av|apply AF)<;>intro _))|(apply As<;>intro _)|apply AD|refine Af () ?_ ?_|((first|apply AK|apply AJ|apply AI|apply AH|apply AC|apply AB|apply AA|apply Az|apply Ax)<;>try dsimp only)|apply Af|(refine Prod.forall.2 ?_;intro _;try dsimp only)|(intro _;try dsimp only))
 all_goals try(first|(have hF:= @RY b.rd e f ⟨r,c,s,t,u⟩ (.inl ‹_›))|(have hF:= @RY b.rd e f ⟨r,c,s,t,u⟩ (.inr ‹_›))|(have hF:= @a4z b.rd e f ⟨r,c,s,t,u⟩ ‹_› ‹_›))
 all_goals first
  |rfl
  |(simp only[hF];done)
  |(simp only[hF,List.length_append,List.length_cons,List.length_nil];omega)
  |((try simp only[Ai,Bb,List.length_append,List.length_cons,List.length_nil]);omega)
  |skip)
def OU(t:List UInt8)(r f:Int)(sp:Bool)(n:Int):Ch:=⟨t,r,f,sp,n⟩
theorem b5D{r fr nest m:Int}{sp:Bool}{s:Bs}(h:¬r<0)(h2:¬(s.chunks.length:Int)≥79)(hm:min nest 40=m):AU r fr sp nest s=⟨s.rules,s.chunks++[OU s.text r fr sp m],s.spans,s.ties,[]⟩:=by rw[AU,if_pos ⟨by omega,by omega⟩,hm];rfl
theorem a5n{r fr nest:Int}{sp:Bool}{s t:Bs}(ht:isB (Am [32] s) t)(h:r<0∨(s.chunks.length:Int)≥79)(h2:sp=true):AU r fr sp nest s=t:=by rw[AU,if_neg (by omega),if_pos h2];exact ht.symm
theorem a5o{r fr nest:Int}{sp:Bool}{s:Bs}(h:r<0∨(s.chunks.length:Int)≥79)(h2:sp=false):AU r fr sp nest s=s:=by rw[AU,if_neg (by omega),if_neg (by simp [h2])]
theorem b5E{r fr nest m:Int}{sp:Bool}{s:Bs}(h:(¬r<0∧¬(s.chunks.length:Int)≥79)∧min nest 40=m):isB (AU r fr sp nest s) ⟨s.rules,s.chunks++[OU s.text r fr sp m],s.spans,s.ties,[]⟩:=(b5D h.1.1 h.1.2 h.2).symm
def Dt:Sig:= {X:=BC×List Ru×List Ch×List Sn×List Ti×List UInt8×Int×Int×Bool×Int,args:=fun x=>[suA x.1 (xC x),.int .i64 x.2.2.2.2.2.2.1,.int .i64 x.2.2.2.2.2.2.2.1,.bool x.2.2.2.2.2.2.2.2.1,.int .i64 x.2.2.2.2.2.2.2.2.2],pre:=fun x=>bB (xC x),Y:=BT,post:=fun x y=>isB (AU x.2.2.2.2.2.2.1 x.2.2.2.2.2.2.2.1 x.2.2.2.2.2.2.2.2.1 x.2.2.2.2.2.2.2.2.2 (xC x)) (yBW y),res:=fun x y=> .tup [],outs:=fun x y=>[suA x.1 (yBW y),.top,.top,.top,.top],keep:=true}
def b5F(x:BC×List Ru×List Ch×List Sn×List Ti×List UInt8×Int×Int×Bool×Int):LS:= {ι:=Int×Unit,inv:=fun m=>(¬x.2.2.2.2.2.2.1<0∧¬((xC x).chunks.length:Int)≥79)∧min x.2.2.2.2.2.2.2.2.2 40=m.1,regs:=fun m=>[(0,suA x.1 ⟨(xC x).rules,(xC x).chunks++[OU (xC x).text x.2.2.2.2.2.2.1 x.2.2.2.2.2.2.2.1 x.2.2.2.2.2.2.2.2.1 m.1],(xC x).spans,(xC x).ties,(xC x).text⟩)],als:=[],meas:=fun _=>0}
def Sy(x:BC×List Ru×List Ch×List Sn×List Ti×List UInt8×Int×Int×Bool×Int):LS:= {ι:=Int×Unit,inv:=fun m=>(¬x.2.2.2.2.2.2.1<0∧¬((xC x).chunks.length:Int)≥79)∧min x.2.2.2.2.2.2.2.2.2 40=m.1,regs:=fun m=>[(0,suA x.1 (xC x)),(1,.int .i64 x.2.2.2.2.2.2.1),(2,.int .i64 x.2.2.2.2.2.2.2.1),(3,.bool x.2.2.2.2.2.2.2.2.1),(4,.int .i64 m.1)],als:=[],meas:=fun _=>0}
def Hk(x:BC×List Ru×List Ch×List Sn×List Ti×List UInt8×Int×Int×Bool×Int)(i:Int×Unit):Prop:=∃(x_1:Ch),(xC x).text=x_1.text∧x.2.2.2.2.2.2.1=x_1.rule∧x.2.2.2.2.2.2.2.1=x_1.fr∧x.2.2.2.2.2.2.2.2.1=x_1.space∧i.1=x_1.nest∧(∃(zs:List Ch),AV.sl true 0 5 Ch chA [x_1]=AV.sl true 0 5 Ch chA zs∧(BH chA∧(Bb (List.length (xC x).chunks+List.length zs) (48:Nat)∧(true=true∧(∃(i:Int×Unit),((¬x.2.2.2.2.2.2.1<(0:Int)∧¬(↑(List.length (xC x).chunks):Int)≥(79:Int))∧min x.2.2.2.2.2.2.2.2.2 (40:Int)=i.1)∧((nds x.1.ns=nds x.1.ns∧x.1.ind=x.1.ind∧AV.sl true 0 2 Ru ruA (xC x).rules=AV.sl true 0 2 Ru ruA (xC x).rules∧AV.sl true 0 5 Ch chA ((xC x).chunks++zs)=AV.sl true 0 5 Ch chA ((xC x).chunks++[OU (xC x).text x.2.2.2.2.2.2.1 x.2.2.2.2.2.2.2.1 x.2.2.2.2.2.2.2.2.1 i.1])∧AV.sl true 0 3 Sn snA (xC x).spans=AV.sl true 0 3 Sn snA (xC x).spans∧AV.sl true 0 2 Ti tiA (xC x).ties=AV.sl true 0 2 Ti tiA (xC x).ties∧(xC x).text=(xC x).text∧(!x.1.rd)= !x.1.rd∧True)∧True))))))
def XJ(x:BC×List Ru×List Ch×List Sn×List Ti×List UInt8×Int×Int×Bool×Int):Prop:=Ab x.2.2.2.2.2.2.2.2.1 (cA BQ [.box 0 [nds x.1.ns,.int .i64 x.1.ind,AV.sl true 0 2 Ru ruA (xC x).rules,AV.sl true 0 5 Ch chA (xC x).chunks,AV.sl true 0 3 Sn snA (xC x).spans,AV.sl true 0 2 Ti tiA (xC x).ties,.str (xC x).text,.bool !x.1.rd],.str #[(32:UInt8)].toList] fun x_1 y=>rA Dt x [.tup [],.box 0 [nds x_1.1.ns,.int .i64 x_1.1.ind,AV.sl true 0 2 Ru ruA (yBW y).rules,AV.sl true 0 5 Ch chA (yBW y).chunks,AV.sl true 0 3 Sn snA (yBW y).spans,AV.sl true 0 2 Ti tiA (yBW y).ties,.str (yBW y).text,.bool !x_1.1.rd],.top,.top,.top,.top]) (rA Dt x [.tup [],.box 0 [nds x.1.ns,.int .i64 x.1.ind,AV.sl true 0 2 Ru ruA (xC x).rules,AV.sl true 0 5 Ch chA (xC x).chunks,AV.sl true 0 3 Sn snA (xC x).spans,AV.sl true 0 2 Ti tiA (xC x).ties,.str (xC x).text,.bool !x.1.rd],.top,.top,.top,.top])
theorem OV:Ah G Tryz.prog 47 Dt:=
 vcFun_okP [(50,0,BQ)] [(28,⟨Ch,chA⟩)] false (fun x=>[(100005,b5F x),(200005,Sy x)]) Tryz.func47 rfl (by decide) ⟨MX,trivial⟩ (fun(x:BC×List Ru×List Ch×List Sn×List Ti×List UInt8×Int×Int×Bool×Int)=>True∧Ab (decide (x.2.2.2.2.2.2.1<(0:Int))) (XJ x) (Ab (decide ((↑(List.length (xC x).chunks):Int)≥(79:Int))) (XJ x) (Ab (decide (x.2.2.2.2.2.2.2.2.2>(40:Int))) (eA (Sy x) [.box 0 [nds x.1.ns,.int .i64 x.1.ind,AV.sl true 0 2 Ru ruA (xC x).rules,AV.sl true 0 5 Ch chA (xC x).chunks,AV.sl true 0 3 Sn snA (xC x).spans,AV.sl true 0 2 Ti tiA (xC x).ties,.str (xC x).text,.bool !x.1.rd],.int .i64 x.2.2.2.2.2.2.1,.int .i64 x.2.2.2.2.2.2.2.1,.bool x.2.2.2.2.2.2.2.2.1,.int .i64 (40:Int)]) (eA (Sy x) [.box 0 [nds x.1.ns,.int .i64 x.1.ind,AV.sl true 0 2 Ru ruA (xC x).rules,AV.sl true 0 5 Ch chA (xC x).chunks,AV.sl true 0 3 Sn snA (xC x).spans,AV.sl true 0 2 Ti tiA (xC x).ties,.str (xC x).text,.bool !x.1.rd],.int .i64 x.2.2.2.2.2.2.1,.int .i64 x.2.2.2.2.2.2.2.1,.bool x.2.2.2.2.2.2.2.2.1,.int .i64 x.2.2.2.2.2.2.2.2.2])∧∀(i:Int×Unit),(¬x.2.2.2.2.2.2.1<(0:Int)∧¬(↑(List.length (xC x).chunks):Int)≥(79:Int))∧min x.2.2.2.2.2.2.2.2.2 (40:Int)=i.1→true=true∧(((Hk x i)∧(Hk x i))∧((Hk x i)∧((Hk x i)∧((Hk x i)∧(Hk x i))))∧((Hk x i)∧((Hk x i)∧((Hk x i)∧(Hk x i)))))∧∀(i:Int×Unit),(¬x.2.2.2.2.2.2.1<(0:Int)∧¬(↑(List.length (xC x).chunks):Int)≥(79:Int))∧min x.2.2.2.2.2.2.2.2.2 (40:Int)=i.1→rA Dt x [.tup [],.box 0 [nds x.1.ns,.int .i64 x.1.ind,AV.sl true 0 2 Ru ruA (xC x).rules,AV.sl true 0 5 Ch chA ((xC x).chunks++[OU (xC x).text x.2.2.2.2.2.2.1 x.2.2.2.2.2.2.2.1 x.2.2.2.2.2.2.2.2.1 i.1]),AV.sl true 0 3 Sn snA (xC x).spans,AV.sl true 0 2 Ti tiA (xC x).ties,.str #[].toList,.bool !x.1.rd],.top,.top,.top,.top]))) (fun x=>by kernel_rfl) fun(x:BC×List Ru×List Ch×List Sn×List Ti×List UInt8×Int×Int×Bool×Int) (hx:bB (xC x))=>(by
 dsimp only[XJ,Hk,cA,Bl,eA,Sy,Bg,nds,rA,Bj,BQ,Dt,Bm,suA,Bn,Aq,Aw,mvL,lnL,mvE,lnE,mvG,mvH,lnG,lnH,AZ]
 obtain⟨b,r,c,s,t,u,e,f,g,h⟩:=x;dsimp only[xC] at hx ⊢
 have hx:bB ⟨r,c,s,t,u⟩:=hx
 have h1:=hx.ok.ch;have h2:=Hi hx;dsimp only at h1 h2
 (repeat' first|refine RX ?_|(with_reducible first|rfl|exact True.intro|apply AG|apply And.intro|((first|apply Au|apply AE|apply Av|apply AF)<;>intro _))|(apply As<;>intro _)|apply AD|refine Af () ?_ ?_|((first|apply AK|apply AJ|apply AI|apply AH|apply AC|apply AB|apply AA|apply Az|apply Ax)<;>try dsimp only)|apply Af|(refine Prod.forall.2 ?_;intro _;try dsimp only)|(intro _;try dsimp only))
 all_goals(try dsimp only[yBW,xC] at*)
 all_goals first
  |with_reducible rfl
  |omega
  |exact(a5n ‹_› (.inl ‹_›) ‹_›).symm
  |exact(a5n ‹_› (.inr ‹_›) ‹_›).symm
  |exact(a5o (.inl ‹_›) ‹_›).symm
  |exact(a5o (.inr ‹_›) ‹_›).symm
  |(rename(¬_∧¬_)∧_=>hq;exact b5E (s:=⟨r,c,s,t,u⟩) hq)
  |(rename(¬_∧¬_)∧_=>hq;rw[hq.2];rfl)
  |(rename(¬_∧¬_)∧_=>hq;first|exact hq.1.1|exact hq.1.2|exact hq.2|exact hq.1.1 ‹_› |exact hq.1.2 ‹_›)
  |((try simp only[Ai,Bb,List.length_append,List.length_cons,List.length_nil]);omega)
  |exact()
  |rfl
  |skip)
theorem b5G{n:Nat}{u:Int}{s:Bs}(h:u≥0)(h1:(s.rules.length:Int)>n)(h2:(s.ties.length:Int)<20):isB (CI (DB n s) u s) ⟨s.rules,s.chunks,s.spans,s.ties++[⟨n,u⟩],s.text⟩:=by
 rw[isB,DB,if_pos (by omega),CI,if_pos (by omega)]
theorem XK{n:Nat}{u:Int}{s:Bs}(h:(¬u≥0∨¬(s.rules.length:Int)>n)∨¬(s.ties.length:Int)<20):isB (CI (DB n s) u s) s:=by
 rw[isB,DB]
 split
 ·rw[CI,if_neg (by omega)]
 ·rw[CI,if_neg (by omega)]
def IG:Sig:= {X:=BC×List Ru×List Ch×List Sn×List Ti×List UInt8×Nat×Int,args:=fun x=>[suA x.1 (xC x),.int .i64 x.2.2.2.2.2.2.1,.int .i64 x.2.2.2.2.2.2.2],pre:=fun x=>bB (xC x),Y:=BT,post:=fun x y=>isB (CI (DB x.2.2.2.2.2.2.1 (xC x)) x.2.2.2.2.2.2.2 (xC x)) (yBW y),res:=fun x y=> .tup [],outs:=fun x y=>[suA x.1 (yBW y),.top,.top],keep:=true}
def Sz(x:BC×List Ru×List Ch×List Sn×List Ti×List UInt8×Nat×Int):Prop:=rA IG x [.tup [],.box 0 [nds x.1.ns,.int .i64 x.1.ind,AV.sl true 0 2 Ru ruA (xC x).rules,AV.sl true 0 5 Ch chA (xC x).chunks,AV.sl true 0 3 Sn snA (xC x).spans,AV.sl true 0 2 Ti tiA (xC x).ties,.str (xC x).text,.bool !x.1.rd],.top,.top]
theorem a5p:Ah G Tryz.prog 120 IG:=
 vcFun_okP [] [(30,⟨Ti,tiA⟩)] false (fun x=>[]) Tryz.func120 rfl (by decide) trivial (fun(x:BC×List Ru×List Ch×List Sn×List Ti×List UInt8×Nat×Int)=>True∧Ab (decide (x.2.2.2.2.2.2.2≥(0:Int))) (Ab (decide ((↑(List.length (xC x).rules):Int)>(↑x.2.2.2.2.2.2.1:Int))) (Ab (decide ((↑(List.length (xC x).ties):Int)<(20:Int))) (∃(x_1:Ti),(↑x.2.2.2.2.2.2.1:Int)=x_1.kid∧x.2.2.2.2.2.2.2=x_1.up∧∃(zs:List Ti),AV.sl true 0 2 Ti tiA [x_1]=AV.sl true 0 2 Ti tiA zs∧BH tiA∧Bb (List.length (xC x).ties+List.length zs) (16:Nat)∧∃(y:BT),isB (CI (DB x.2.2.2.2.2.2.1 (xC x)) x.2.2.2.2.2.2.2 (xC x)) (yBW y)∧nds x.1.ns=nds x.1.ns∧x.1.ind=x.1.ind∧AV.sl true 0 2 Ru ruA (xC x).rules=AV.sl true 0 2 Ru ruA (yBW y).rules∧AV.sl true 0 5 Ch chA (xC x).chunks=AV.sl true 0 5 Ch chA (yBW y).chunks∧AV.sl true 0 3 Sn snA (xC x).spans=AV.sl true 0 3 Sn snA (yBW y).spans∧AV.sl true 0 2 Ti tiA ((xC x).ties++zs)=AV.sl true 0 2 Ti tiA (yBW y).ties∧(xC x).text=(yBW y).text∧(!x.1.rd)= !x.1.rd∧True) (Sz x)) (Sz x)) (Sz x)) (fun x=>by kernel_rfl) fun(x:BC×List Ru×List Ch×List Sn×List Ti×List UInt8×Nat×Int) (hx:bB (xC x))=>(by
 dsimp only[Sz,Bl,Bg,nds,rA,Bj,IG,Bm,suA,Bn,Aq,Aw]
 obtain⟨b,r,c,s,t,u,e,f⟩:=x;dsimp only[xC] at hx ⊢
 have hx:bB ⟨r,c,s,t,u⟩:=hx
 have h1:=hx.ok.ti;dsimp only at h1
 (repeat' first|refine a4x ?_|(with_reducible first|rfl|exact True.intro|apply AG|apply And.intro|((first|apply Au|apply AE|apply Av|apply AF)<;>intro _))|(apply As<;>intro _)|apply AD|refine Af () ?_ ?_|((first|apply AK|apply AJ|apply AI|apply AH|apply AC|apply AB|apply AA|apply Az|apply Ax)<;>try dsimp only)|apply Af|(refine Prod.forall.2 ?_;intro _;try dsimp only)|(intro _;try dsimp only))
 all_goals(try dsimp only[yBW,xC] at*)
 all_goals first
  |with_reducible rfl
  |exact b5G (s:=⟨r,c,s,t,u⟩) ‹_› ‹_› ‹_›
  |exact XK (s:=⟨r,c,s,t,u⟩) (.inl (.inl ‹_›))
  |exact XK (s:=⟨r,c,s,t,u⟩) (.inl (.inr ‹_›))
  |exact XK (s:=⟨r,c,s,t,u⟩) (.inr ‹_›)
  |((try simp only[Ai,Bb,List.length_append,List.length_cons,List.length_nil]);omega)
  |rfl
  |skip)
end Go.My
end
section
namespace Go.My
open Go.Eng Go.Proofs
variable {G:GInv}
structure vsP (ns:List Nd) (n:Nat) (s:Bs) (k a:Int):Prop where
 up:Bv ns k
 lt:k<n
 vl:AX (Al ns k)=true
 rm:bR (tW ns n k) s
 ar:0≤a∧a+4*k≤2^40
def vsQ(c:BC)(n:Nat)(s:Bs)(k a:Int)(t:Bs):Prop:=t=bV c.ns c.rd n k (min a 40) s
def BR(n:Nat):Sig:= {X:=BC×List Ru×List Ch×List Sn×List Ti×List UInt8×Int×Int,args:=fun x=>[suA x.1 (xC x),.int .i64 x.2.2.2.2.2.2.1,.int .i64 x.2.2.2.2.2.2.2],pre:=fun x=>vsP x.1.ns n (xC x) x.2.2.2.2.2.2.1 x.2.2.2.2.2.2.2,Y:=BT,post:=fun x y=>vsQ x.1 n (xC x) x.2.2.2.2.2.2.1 x.2.2.2.2.2.2.2 (yBW y),res:=fun x y=> .tup [],outs:=fun x y=>[suA x.1 (yBW y),.top,.top],keep:=true}
def inA(a:Int)(ks:List Int):Prop:=(0≤a∧a≤2^40)∧∀d∈ks,a+4+4*d≤2^40
theorem m40{a:Int}(h:0≤a):min (min a 40+4) 40=min (a+4) 40:=by omega
theorem XL{ns:List Nd}{n:Nat}{s:Bs}{k a:Int}(h:vlP ns n s k (min (min a 40+4) 40))(ha:0≤a)(hk:a+4+4*k≤2^40):vsP ns n s k (a+4):=⟨h.up,h.lt,h.vl,h.rm,by omega,hk⟩
theorem XM{c:BC}{n:Nat}{s t:Bs}{k a:Int}(h:vsQ c n s k (a+4) t)(ha:0≤a):BK c n s k (min (min a 40+4) 40) (GF c.rd (Aa c.ns k) s) t:=⟨by rw[m40 ha];exact h,rfl⟩
theorem XN{r fr a:Int}{sp:Bool}{s t:Bs}(h:isB (AU r fr sp (a+4) s) t)(ha:0≤a):t=AU r fr sp (min (min a 40+4) 40) s:=by
 rw[h];exact MW (by omega)
theorem a5q{r fr a:Int}{sp:Bool}{s t:Bs}(h:isB (AU r fr sp a s) t):t=AU r fr sp (min a 40) s:=by
 rw[h];exact MW (by omega)
structure lsP (c:BC) (n:Nat) (s:Bs) (op:List UInt8) (ks:List Int) (en:List UInt8) (a:Int):Prop where
 li:liP c n s op ks en (min a 40)
 ar:inA a ks
theorem XO{c:BC}{n:Nat}{s:Bs}{op:List UInt8}{ks:List Int}{en:List UInt8}{a i k:Int}(h:lsP c n s op ks en a)(hc:ks[i.toNat]? =some k):a+4+4*k≤2^40:=h.ar.2 k (AY hc)
theorem b5H{c:BC}{n:Nat}{s w t u:Bs}{op:List UInt8}{ks:List Int}{en:List UInt8}{a:Int}(hu:isB (AU (AM c.rd (Am op s)) 1 false (a+4) t) u)(ht:t=Be c.rd (min (ks.length:Int) 2+1) 1 (Am op s))(h:lsP c n s op ks en a):liI c n s op ks (min a 40) 0 u:=a4F h.li (XN hu h.ar.1.1) ht
theorem b5I{c:BC}{n:Nat}{s t:Bs}{op:List UInt8}{ks:List Int}{en:List UInt8}{a i k:Int}(h:liI c n s op ks (min a 40) i t)(hx:lsP c n s op ks en a)(hc:ks[i.toNat]? =some k):vsP c.ns n t k (a+4):=XL (a4H h hx.li hc) hx.ar.1.1 (XO hx hc)
theorem b5J{c:BC}{n:Nat}{s t w u:Bs}{op:List UInt8}{ks:List Int}{en:List UInt8}{a i k:Int}(hu:isB (AU (AM c.rd (Am op s)) (min (ks.length:Int) 2) true (a+4) w) u)(hw:isB (Am [44] t) w)(h:liI c n s op ks (min a 40) i t)(hx:lsP c n s op ks en a)(hc:ks[i.toNat]? =some k):vsP c.ns n u k (a+4):=by
 rw[hw] at hu
 exact XL (a4I h (XN hu hx.ar.1.1) hx.li hc) hx.ar.1.1 (XO hx hc)
theorem b5K{c:BC}{n:Nat}{s t u:Bs}{op:List UInt8}{ks:List Int}{en:List UInt8}{a i k:Int}(h:liI c n s op ks (min a 40) i t)(hc:ks[i.toNat]? =some k)(hu:vsQ c n t k (a+4) u)(hx:lsP c n s op ks en a)(hi:¬i>0):liI c n s op ks (min a 40) (i+1) u:=a4J (XM hu hx.ar.1.1) h hx.li hc hi
theorem b5L{c:BC}{n:Nat}{s t w u v:Bs}{op:List UInt8}{ks:List Int}{en:List UInt8}{a i k:Int}(h:liI c n s op ks (min a 40) i t)(hc:ks[i.toNat]? =some k)(hv:vsQ c n u k (a+4) v)(hu:isB (AU (AM c.rd (Am op s)) (min (ks.length:Int) 2) true (a+4) w) u)(hw:isB (Am [44] t) w)(hx:lsP c n s op ks en a)(hi:i>0):liI c n s op ks (min a 40) (i+1) v:=by
 rw[hw] at hu
 exact a4K h (XM hv hx.ar.1.1) (XN hu hx.ar.1.1) hx.li hc hi
theorem b5M{c:BC}{n:Nat}{s t w:Bs}{op:List UInt8}{ks:List Int}{a i k:Int}(hw:isB (Am [44] t) w)(h:liI c n s op ks a i t)(hc:ks[i.toNat]? =some k):bB w:=by rw[hw];exact a4G h hc
theorem a5r{c:BC}{n:Nat}{s t:Bs}{op:List UInt8}{ks:List Int}{a i:Int}(h:liI c n s op ks a i t)(hi:i<ks.length):∃k,ks[i.toNat]? =some k:=by
 have:=Xp h
 exact⟨_,List.getElem?_eq_getElem (by omega)⟩
theorem b5N{c:BC}{n:Nat}{s t:Bs}{op:List UInt8}{ks:List Int}{a i:Int}(h:liI c n s op ks a i t)(hi:i<ks.length):t.text.length≤2^61:=by
 obtain⟨k,hk⟩:=a5r h hi
 exact Xq h hk
theorem b5O{c:BC}{n:Nat}{s t w:Bs}{op:List UInt8}{ks:List Int}{a i:Int}(hw:isB (Am [44] t) w)(h:liI c n s op ks a i t)(hi:i<ks.length):bB w:=by
 obtain⟨k,hk⟩:=a5r h hi
 exact b5M hw h hk
theorem b5P{s t:Bs}{op:List UInt8}(h:isB (Am op s) t):((t.rules=(Am op s).rules∧t.chunks=(Am op s).chunks)∧t.spans=(Am op s).spans∧t.ties=(Am op s).ties)∧t.text=(Am op s).text:=by rw[h];exact⟨⟨⟨rfl,rfl⟩,rfl,rfl⟩,rfl⟩
theorem a5s{s t:Bs}{op:List UInt8}(h:isB (Am op s) t):t.text.length=s.text.length+op.length:=by rw[h];simp [Am]
theorem b5Q{c:BC}{n:Nat}{s t u:Bs}{op:List UInt8}{ks:List Int}{en:List UInt8}{a i:Int}(hu:isB (AU (AM c.rd (Am op s)) 1 false a t) u)(h:liI c n s op ks (min a 40) i t)(hx:lsP c n s op ks en a)(hi:¬i<ks.length):u.text.length≤2^61:=a4M (a5q hu) h hx.li hi
theorem b5R{c:BC}{n:Nat}{s t u v:Bs}{op:List UInt8}{ks:List Int}{en:List UInt8}{a i:Int}(hv:isB (Am en u) v)(hu:isB (AU (AM c.rd (Am op s)) 1 false a t) u)(h:liI c n s op ks (min a 40) i t)(hx:lsP c n s op ks en a)(hi:¬i<ks.length)(hk:¬(ks.length:Int)=0):isB (Ee c.rd (bV c.ns c.rd n) op ks en (min a 40) s) v:=by
 have:=a4N (a5q hu) h hx.li hi (by omega)
 rw[hv];exact this
theorem b5S{c:BC}{n:Nat}{s u v:Bs}{op:List UInt8}{ks:List Int}{en:List UInt8}{a:Int}(hv:isB (Am en u) v)(hu:isB (Am op s) u)(hk:(ks.length:Int)=0):isB (Ee c.rd (bV c.ns c.rd n) op ks en a s) v:=by
 have:=a4O (c:=c) (n:=n) (s:=s) (op:=op) (ks:=ks) (en:=en) (a:=a) (by omega)
 rw[hv,hu];exact this
attribute [local irreducible] liI
def lsJ(n:Nat)(x:BC×List Ru×List Ch×List Sn×List Ti×List UInt8×List UInt8×List Int×List UInt8×Int):LS:= {ι:=Unit,inv:=fun _=>¬(x.2.2.2.2.2.2.2.1.length:Int)=0,regs:=fun _=>[(0,suA x.1 (Am x.2.2.2.2.2.2.1 (xC x))),(2,Ad x.2.2.2.2.2.2.2.1),(3,.str x.2.2.2.2.2.2.2.2.1),(4,.int .i64 x.2.2.2.2.2.2.2.2.2),(10,.int .i64 (min (x.2.2.2.2.2.2.2.1.length:Int) 2))],als:=[],meas:=fun _=>0}
def lsL(n:Nat)(x:BC×List Ru×List Ch×List Sn×List Ti×List UInt8×List UInt8×List Int×List UInt8×Int):LS:= {ι:=List Ru×List Ch×List Sn×List Ti×List UInt8×Int,inv:=fun i=>liI x.1 n (xC x) x.2.2.2.2.2.2.1 x.2.2.2.2.2.2.2.1 (min x.2.2.2.2.2.2.2.2.2 40) (zI i) (zBW i),regs:=fun i=>[(0,suA x.1 (zBW i)),(2,Ad x.2.2.2.2.2.2.2.1),(3,.str x.2.2.2.2.2.2.2.2.1),(4,.int .i64 x.2.2.2.2.2.2.2.2.2),(10,.int .i64 (min (x.2.2.2.2.2.2.2.1.length:Int) 2)),(11,.int .i64 (AM x.1.rd (Am x.2.2.2.2.2.2.1 (xC x)))),(12,.int .i64 (zI i))],als:=[],meas:=fun i=>x.2.2.2.2.2.2.2.1.length-(zI i).toNat}
def JG(n:Nat):Sig:= {X:=BC×List Ru×List Ch×List Sn×List Ti×List UInt8×List UInt8×List Int×List UInt8×Int,args:=fun x=>[suA x.1 (xC x),.str x.2.2.2.2.2.2.1,Ad x.2.2.2.2.2.2.2.1,.str x.2.2.2.2.2.2.2.2.1,.int .i64 x.2.2.2.2.2.2.2.2.2],pre:=fun x=>lsP x.1 n (xC x) x.2.2.2.2.2.2.1 x.2.2.2.2.2.2.2.1 x.2.2.2.2.2.2.2.2.1 x.2.2.2.2.2.2.2.2.2,Y:=BT,post:=fun x y=>isB (Ee x.1.rd (bV x.1.ns x.1.rd n) x.2.2.2.2.2.2.1 x.2.2.2.2.2.2.2.1 x.2.2.2.2.2.2.2.2.1 (min x.2.2.2.2.2.2.2.2.2 40) (xC x)) (yBW y),res:=fun x y=> .tup [],outs:=fun x y=>[suA x.1 (yBW y),.top,.top,.top,.top],keep:=true}
theorem b5T(n:Nat)(hc:Ah G Go.Proofs.Tryz.prog 49 (BR n)):Ah G Tryz.prog 86 (JG n):=
 vcFun_okP [(50,0,BQ),(48,0,DU),(47,0,Dt),(49,0,(BR n))] [] false (fun x=>[(9,lsL n x),(200006,lsJ n x)]) Tryz.func86 rfl (by decide) ⟨MX,OT,OV,hc,trivial⟩ (fun(x:BC×List Ru×List Ch×List Sn×List Ti×List UInt8×List UInt8×List Int×List UInt8×Int)=>True∧cA BQ [.box 0 [nds x.1.ns,.int .i64 x.1.ind,AV.sl true 0 2 Ru ruA (xC x).rules,AV.sl true 0 5 Ch chA (xC x).chunks,AV.sl true 0 3 Sn snA (xC x).spans,AV.sl true 0 2 Ti tiA (xC x).ties,.str (xC x).text,.bool !x.1.rd],.str x.2.2.2.2.2.2.1] fun x_1 y=>Ab ((↑(List.length x.2.2.2.2.2.2.2.1):Int)==(0:Int)) (cA BQ [.box 0 [nds x_1.1.ns,.int .i64 x_1.1.ind,AV.sl true 0 2 Ru ruA (yBW y).rules,AV.sl true 0 5 Ch chA (yBW y).chunks,AV.sl true 0 3 Sn snA (yBW y).spans,AV.sl true 0 2 Ti tiA (yBW y).ties,.str (yBW y).text,.bool !x_1.1.rd],.str x.2.2.2.2.2.2.2.2.1] fun x_2 y=>rA (JG n) x [.tup [],.box 0 [nds x_2.1.ns,.int .i64 x_2.1.ind,AV.sl true 0 2 Ru ruA (yBW y).rules,AV.sl true 0 5 Ch chA (yBW y).chunks,AV.sl true 0 3 Sn snA (yBW y).spans,AV.sl true 0 2 Ti tiA (yBW y).ties,.str (yBW y).text,.bool !x_2.1.rd],.top,.top,.top,.top]) (Ab ((↑(List.length x.2.2.2.2.2.2.2.1):Int)==(1:Int)) (eA (lsJ n x) [.box 0 [nds x_1.1.ns,.int .i64 x_1.1.ind,AV.sl true 0 2 Ru ruA (yBW y).rules,AV.sl true 0 5 Ch chA (yBW y).chunks,AV.sl true 0 3 Sn snA (yBW y).spans,AV.sl true 0 2 Ti tiA (yBW y).ties,.str (yBW y).text,.bool !x_1.1.rd],Ad x.2.2.2.2.2.2.2.1,.str x.2.2.2.2.2.2.2.2.1,.int .i64 x.2.2.2.2.2.2.2.2.2,.int .i64 (1:Int)]) (eA (lsJ n x) [.box 0 [nds x_1.1.ns,.int .i64 x_1.1.ind,AV.sl true 0 2 Ru ruA (yBW y).rules,AV.sl true 0 5 Ch chA (yBW y).chunks,AV.sl true 0 3 Sn snA (yBW y).spans,AV.sl true 0 2 Ti tiA (yBW y).ties,.str (yBW y).text,.bool !x_1.1.rd],Ad x.2.2.2.2.2.2.2.1,.str x.2.2.2.2.2.2.2.2.1,.int .i64 x.2.2.2.2.2.2.2.2.2,.int .i64 (2:Int)])∧∀(i:Unit),¬(↑(List.length x.2.2.2.2.2.2.2.1):Int)=(0:Int)→inR IntKind.i64 (min (↑(List.length x.2.2.2.2.2.2.2.1):Int) (2:Int)+(1:Int))∧cA DU [.box 0 [nds x.1.ns,.int .i64 x.1.ind,AV.sl true 0 2 Ru ruA (Am x.2.2.2.2.2.2.1 (xC x)).rules,AV.sl true 0 5 Ch chA (Am x.2.2.2.2.2.2.1 (xC x)).chunks,AV.sl true 0 3 Sn snA (Am x.2.2.2.2.2.2.1 (xC x)).spans,AV.sl true 0 2 Ti tiA (Am x.2.2.2.2.2.2.1 (xC x)).ties,.str (Am x.2.2.2.2.2.2.1 (xC x)).text,.bool !x.1.rd],.int .i64 (min (↑(List.length x.2.2.2.2.2.2.2.1):Int) (2:Int)+(1:Int)),.int .i64 (1:Int)] fun x_2 y=>inR IntKind.i64 (x.2.2.2.2.2.2.2.2.2+(4:Int))∧cA Dt [.box 0 [nds x_2.1.ns,.int .i64 x_2.1.ind,AV.sl true 0 2 Ru ruA (yBW y).rules,AV.sl true 0 5 Ch chA (yBW y).chunks,AV.sl true 0 3 Sn snA (yBW y).spans,AV.sl true 0 2 Ti tiA (yBW y).ties,.str (yBW y).text,.bool !x_2.1.rd],.int .i64 (AM x_2.1.rd (xC x_2)),.int .i64 (1:Int),.bool false,.int .i64 (x.2.2.2.2.2.2.2.2.2+(4:Int))] fun x_3 y=>eA (lsL n x) [.box 0 [nds x_3.1.ns,.int .i64 x_3.1.ind,AV.sl true 0 2 Ru ruA (yBW y).rules,AV.sl true 0 5 Ch chA (yBW y).chunks,AV.sl true 0 3 Sn snA (yBW y).spans,AV.sl true 0 2 Ti tiA (yBW y).ties,.str (yBW y).text,.bool !x_3.1.rd],Ad x.2.2.2.2.2.2.2.1,.str x.2.2.2.2.2.2.2.2.1,.int .i64 x.2.2.2.2.2.2.2.2.2,.int .i64 (min (↑(List.length x.2.2.2.2.2.2.2.1):Int) (2:Int)),.int .i64 (AM x_2.1.rd (xC x_2)),.int .i64 (0:Int)]∧∀(i:List Ru×List Ch×List Sn×List Ti×List UInt8×Int),liI x.1 n (xC x) x.2.2.2.2.2.2.1 x.2.2.2.2.2.2.2.1 (min x.2.2.2.2.2.2.2.2.2 (40:Int)) (zI i) (zBW i)→Ab (decide (zI i<(↑(List.length x.2.2.2.2.2.2.2.1):Int))) (Ab (decide (zI i>(0:Int))) (cA BQ [.box 0 [nds x.1.ns,.int .i64 x.1.ind,AV.sl true 0 2 Ru ruA (zBW i).rules,AV.sl true 0 5 Ch chA (zBW i).chunks,AV.sl true 0 3 Sn snA (zBW i).spans,AV.sl true 0 2 Ti tiA (zBW i).ties,.str (zBW i).text,.bool !x.1.rd],.str #[(44:UInt8)].toList] fun x_4 y=>inR IntKind.i64 (x.2.2.2.2.2.2.2.2.2+(4:Int))∧cA Dt [.box 0 [nds x_4.1.ns,.int .i64 x_4.1.ind,AV.sl true 0 2 Ru ruA (yBW y).rules,AV.sl true 0 5 Ch chA (yBW y).chunks,AV.sl true 0 3 Sn snA (yBW y).spans,AV.sl true 0 2 Ti tiA (yBW y).ties,.str (yBW y).text,.bool !x_4.1.rd],.int .i64 (AM x.1.rd (Am x.2.2.2.2.2.2.1 (xC x))),.int .i64 (min (↑(List.length x.2.2.2.2.2.2.2.1):Int) (2:Int)),.bool true,.int .i64 (x.2.2.2.2.2.2.2.2.2+(4:Int))] fun x_5 y=>((0:Int)≤zI i∧zI i<(↑(List.length x.2.2.2.2.2.2.2.1):Int))∧∀(e:Int),x.2.2.2.2.2.2.2.1[Int.toNat (zI i)]? =some e→inR IntKind.i64 (x.2.2.2.2.2.2.2.2.2+(4:Int))∧cA (BR n) [.box 0 [nds x_5.1.ns,.int .i64 x_5.1.ind,AV.sl true 0 2 Ru ruA (yBW y).rules,AV.sl true 0 5 Ch chA (yBW y).chunks,AV.sl true 0 3 Sn snA (yBW y).spans,AV.sl true 0 2 Ti tiA (yBW y).ties,.str (yBW y).text,.bool !x_5.1.rd],.int .i64 e,.int .i64 (x.2.2.2.2.2.2.2.2.2+(4:Int))] fun x_6 y=>inR IntKind.i64 (zI i+(1:Int))∧eN (lsL n x) i [.box 0 [nds x_6.1.ns,.int .i64 x_6.1.ind,AV.sl true 0 2 Ru ruA (yBW y).rules,AV.sl true 0 5 Ch chA (yBW y).chunks,AV.sl true 0 3 Sn snA (yBW y).spans,AV.sl true 0 2 Ti tiA (yBW y).ties,.str (yBW y).text,.bool !x_6.1.rd],Ad x.2.2.2.2.2.2.2.1,.str x.2.2.2.2.2.2.2.2.1,.int .i64 x.2.2.2.2.2.2.2.2.2,.int .i64 (min (↑(List.length x.2.2.2.2.2.2.2.1):Int) (2:Int)),.int .i64 (AM x.1.rd (Am x.2.2.2.2.2.2.1 (xC x))),.int .i64 (zI i+(1:Int))]) (((0:Int)≤zI i∧zI i<(↑(List.length x.2.2.2.2.2.2.2.1):Int))∧∀(e:Int),x.2.2.2.2.2.2.2.1[Int.toNat (zI i)]? =some e→inR IntKind.i64 (x.2.2.2.2.2.2.2.2.2+(4:Int))∧cA (BR n) [.box 0 [nds x.1.ns,.int .i64 x.1.ind,AV.sl true 0 2 Ru ruA (zBW i).rules,AV.sl true 0 5 Ch chA (zBW i).chunks,AV.sl true 0 3 Sn snA (zBW i).spans,AV.sl true 0 2 Ti tiA (zBW i).ties,.str (zBW i).text,.bool !x.1.rd],.int .i64 e,.int .i64 (x.2.2.2.2.2.2.2.2.2+(4:Int))] fun x_4 y=>inR IntKind.i64 (zI i+(1:Int))∧eN (lsL n x) i [.box 0 [nds x_4.1.ns,.int .i64 x_4.1.ind,AV.sl true 0 2 Ru ruA (yBW y).rules,AV.sl true 0 5 Ch chA (yBW y).chunks,AV.sl true 0 3 Sn snA (yBW y).spans,AV.sl true 0 2 Ti tiA (yBW y).ties,.str (yBW y).text,.bool !x_4.1.rd],Ad x.2.2.2.2.2.2.2.1,.str x.2.2.2.2.2.2.2.2.1,.int .i64 x.2.2.2.2.2.2.2.2.2,.int .i64 (min (↑(List.length x.2.2.2.2.2.2.2.1):Int) (2:Int)),.int .i64 (AM x.1.rd (Am x.2.2.2.2.2.2.1 (xC x))),.int .i64 (zI i+(1:Int))])) (cA Dt [.box 0 [nds x.1.ns,.int .i64 x.1.ind,AV.sl true 0 2 Ru ruA (zBW i).rules,AV.sl true 0 5 Ch chA (zBW i).chunks,AV.sl true 0 3 Sn snA (zBW i).spans,AV.sl true 0 2 Ti tiA (zBW i).ties,.str (zBW i).text,.bool !x.1.rd],.int .i64 (AM x.1.rd (Am x.2.2.2.2.2.2.1 (xC x))),.int .i64 (1:Int),.bool false,.int .i64 x.2.2.2.2.2.2.2.2.2] fun x_4 y=>cA BQ [.box 0 [nds x_4.1.ns,.int .i64 x_4.1.ind,AV.sl true 0 2 Ru ruA (yBW y).rules,AV.sl true 0 5 Ch chA (yBW y).chunks,AV.sl true 0 3 Sn snA (yBW y).spans,AV.sl true 0 2 Ti tiA (yBW y).ties,.str (yBW y).text,.bool !x_4.1.rd],.str x.2.2.2.2.2.2.2.2.1] fun x_5 y=>rA (JG n) x [.tup [],.box 0 [nds x_5.1.ns,.int .i64 x_5.1.ind,AV.sl true 0 2 Ru ruA (yBW y).rules,AV.sl true 0 5 Ch chA (yBW y).chunks,AV.sl true 0 3 Sn snA (yBW y).spans,AV.sl true 0 2 Ti tiA (yBW y).ties,.str (yBW y).text,.bool !x_5.1.rd],.top,.top,.top,.top]))) (fun x=>by kernel_rfl) fun(x:BC×List Ru×List Ch×List Sn×List Ti×List UInt8×List UInt8×List Int×List UInt8×Int) (hx:lsP x.1 n (xC x) x.2.2.2.2.2.2.1 x.2.2.2.2.2.2.2.1 x.2.2.2.2.2.2.2.2.1 x.2.2.2.2.2.2.2.2.2)=>(by
 dsimp only[cA,Bl,eA,eN,Ad,lsJ,lsL,Bg,nds,rA,Bj,JG,BQ,DU,Dt,BR,Bm,suA,Bn,Aq,Aw,mvL,lnL,mvE,lnE,mvG,mvH,lnG,lnH,AZ]
 obtain⟨b,r,c,s,t,u,op,ks,en,a⟩:=x;dsimp only[xC] at hx ⊢
 have hx:lsP b n ⟨r,c,s,t,u⟩ op ks en a:=hx
 have h1:=hx.ar.1;have h2:=hx.li.kl;have h3:=hx.li.ol;have h4:=hx.li.el;have hb0:=Hi (CY hx.li.rm);dsimp only at hb0
 (repeat' first|(with_reducible first|rfl|exact True.intro|apply AG|apply And.intro|((first|apply Au|apply AE|apply Av|apply AF)<;>intro _))|(apply As<;>intro _)|apply AD|refine Af () ?_ ?_|((first|apply AK|apply AJ|apply AI|apply AH|apply AC|apply AB|apply AA|apply Az|apply Ax)<;>try dsimp only)|apply Af|(refine Prod.forall.2 ?_;intro _;try dsimp only)|(intro _;try dsimp only))
 all_goals(try dsimp only[yBW,xC,zBW,zI] at*)
 all_goals first
  |with_reducible rfl
  |with_reducible assumption
  |omega
  |exact Si hx.li
  |exact a4E hx.li ‹_›
  |exact b5H (w:=⟨r,c,s,t,u⟩) ‹_› ‹_› hx
  |exact b5J ‹_› ‹_› ‹_› hx ‹_›
  |exact b5I ‹_› hx ‹_›
  |exact b5L ‹_› ‹_› ‹_› ‹_› ‹_› hx ‹_›
  |exact b5K ‹_› ‹_› ‹_› hx ‹_›
  |exact b5O ‹_› ‹_› ‹_›
  |(have hq:=b5P (show isB (Am op _) _ by assumption);first|exact hq.1.1.1|exact hq.1.1.2|exact hq.1.2.1|exact hq.1.2.2|exact hq.2)
  |(have hq:=a5s (show isB (Am op _) _ by assumption);dsimp only at hq;omega)
  |(have hq:=b5N (show liI _ _ _ _ _ _ _ _ by assumption) ‹_›;dsimp only at hq;(try simp only[Ai,List.length_cons,List.length_nil]);omega)
  |exact a4L ‹_› hx.li ‹_›
  |exact b5R ‹_› ‹_› ‹_› hx ‹_› ‹_›
  |exact b5S ‹_› ‹_› ‹_›
  |(have hq:=Xp (show liI _ _ _ _ _ _ _ _ by assumption);(try have hk:=XO hx ‹_›);(try simp only[Ai]);omega)
  |(have hq:=Xq (show liI _ _ _ _ _ _ _ _ by assumption) ‹_›;dsimp only at hq;(try simp only[Ai,List.length_cons,List.length_nil]);omega)
  |(have hq:=Hi (Si hx.li);(try simp only[Ai,List.length_append,Am] at*);omega)
  |(have hq:=b5Q ‹_› ‹_› hx ‹_›;dsimp only at hq;(try simp only[Ai] at*);omega)
  |rfl
  |skip)
theorem XP{ns:List Nd}{n:Nat}{s:Bs}{k a:Int}(h:vlP ns n s k (min (a+4) 40))(ha:0≤a)(hk:a+4+4*k≤2^40):vsP ns n s k (a+4):=⟨h.up,h.lt,h.vl,h.rm,by omega,hk⟩
theorem Lm{c:BC}{n:Nat}{s t:Bs}{k a:Int}(h:vsQ c n s k (a+4) t):BK c n s k (min (a+4) 40) (GF c.rd (Aa c.ns k) s) t:=⟨h,rfl⟩
end Go.My
end
section
set_option maxHeartbeats 4000000
namespace Go.My
open Go.Eng Go.Proofs
variable {G:GInv}
structure cqP (c:BC) (n:Nat) (s:Bs) (x:Nd) (a:Int):Prop where
 cn:cnP c n s x (min (a+4) 40)
 ar:inA a x.kids
theorem a5t{c:BC}{n:Nat}{s:Bs}{x:Nd}{a i k:Int}(h:cqP c n s x a)(hc:x.kids[i.toNat]? =some k):a+4+4*k≤2^40:=h.ar.2 k (AY hc)
theorem SA{c:BC}{n:Nat}{s t:Bs}{x:Nd}{a i:Int}(h:Cj c n s x a i t)(hi:i<x.kids.length):∃k,x.kids[i.toNat]? =some k:=by
 have:=OO h
 exact⟨_,List.getElem?_eq_getElem (by omega)⟩
theorem b5U{c:BC}{n:Nat}{s t:Bs}{x:Nd}{a i:Int}(h:Cj c n s x a i t)(hi:i<x.kids.length):t.text.length+6≤2^61:=by
 obtain⟨k,hk⟩:=SA h hi;exact a4Q h hk
theorem b5V{c:BC}{n:Nat}{s t w:Bs}{x:Nd}{a i:Int}(hw:isB (Am (32::x.text) t) w)(h:Cj c n s x a i t)(hx:cnP c n s x a)(hi:i<x.kids.length):bB w:=by
 obtain⟨k,hk⟩:=SA h hi;rw[hw];exact CY (Xt hx h hk)
def cqJ(c:BC)(n:Nat)(s:Bs)(x:Nd)(a:Int)(z:Bs)(i:Int)(t:Bs):Prop:=∃k,cnJ c n s x a z i k t
theorem b5W{c:BC}{n:Nat}{s t:Bs}{x:Nd}{a i:Int}(h:Cj c n s x a i t)(hl:i<x.kids.length)(hi:¬i>0):cqJ c n s x a t i t:=by
 obtain⟨k,hk⟩:=SA h hl;exact⟨k,a4R h hk hi⟩
theorem b5X{c:BC}{n:Nat}{s t w u:Bs}{x:Nd}{a i:Int}(h:Cj c n s x (min (a+4) 40) i t)(hu:isB (AU (AM c.rd s) 1 true (a+4) w) u)(hw:isB (Am (32::x.text) t) w)(hl:i<x.kids.length)(hi:i>0):cqJ c n s x (min (a+4) 40) t i u:=by
 obtain⟨k,hk⟩:=SA h hl
 rw[hw] at hu
 exact⟨k,Xu h (by rw[hu];exact MW (by omega)) hk hi⟩
theorem OW{c:BC}{n:Nat}{s z t:Bs}{x:Nd}{a i k:Int}(h:cqJ c n s x a z i t)(hk:x.kids[i.toNat]? =some k):cnJ c n s x a z i k t:=by
 obtain⟨k',h'⟩:=h
 have:=h'.1.2
 rw[hk] at this;cases this;exact h'
theorem b5Y{c:BC}{n:Nat}{s z t:Bs}{x:Nd}{a i:Int}(h:cqJ c n s x a z i t)(hx:cnP c n s x a):t.chunks.length≤79∧t.rules.length≤8:=by
 obtain⟨k,h⟩:=h
 have:=(Sk hx h).1
 exact⟨this.ch,this.ru⟩
theorem b5Z{c:BC}{n:Nat}{s z t:Bs}{x:Nd}{a i k:Int}(h:cqJ c n s x (min (a+4) 40) z i t)(hx:cqP c n s x a)(hk:x.kids[i.toNat]? =some k):vsP c.ns n t k (a+4):=XP (Xv (OW h hk) hx.cn) hx.ar.1.1 (a5t hx hk)
theorem b6a{c:BC}{n:Nat}{s z t u:Bs}{x:Nd}{a i k:Int}(h:cqJ c n s x (min (a+4) 40) z i t)(hu:vsQ c n t k (a+4) u)(hx:cqP c n s x a)(hk:x.kids[i.toNat]? =some k):bB u:=Xx (OW h hk) (Lm hu) hx.cn
theorem b6b{c:BC}{n:Nat}{s z t:Bs}{x:Nd}{a i k:Int}(h:cqJ c n s x a z i t)(hx:cnP c n s x a)(hk:x.kids[i.toNat]? =some k):0≤k∧k<c.ns.length:=(a4S (OW h hk) hx).1
theorem b6c{c:BC}{n:Nat}{s z t u:Bs}{x:Nd}{a i k:Int}{e:Nd}(h:cqJ c n s x (min (a+4) 40) z i t)(hu:vsQ c n t k (a+4) u)(he:c.ns[k.toNat]? =some e)(hk:x.kids[i.toNat]? =some k)(h7:¬e.kind=7):cnK c n s x (min (a+4) 40) z i u t.chunks.length e.kind:=a4T (OW h hk) (Lm hu) he h7
theorem b6d{c:BC}{n:Nat}{s z t u v:Bs}{x:Nd}{a i k:Int}{e:Nd}(h:cqJ c n s x (min (a+4) 40) z i t)(hv:isB (CI (DB t.rules.length u) (AM c.rd s) u) v)(hu:vsQ c n t k (a+4) u)(he:c.ns[k.toNat]? =some e)(hx:cqP c n s x a)(hk:x.kids[i.toNat]? =some k)(h7:e.kind=7):cnK c n s x (min (a+4) 40) z i v t.chunks.length e.kind:=by
 have h2:=OW h hk
 have hkp:=hx.cn.kd k (AY hk)
 refine a4U h2 (Lm hu) ?_ hx.cn he h7
 rw[←Sf (a:=min (a+4) 40) hkp.1 hkp.2.1 (.inl (by rw[Ek he];exact h7)),←hu];exact hv
theorem b6e{c:BC}{n:Nat}{s z t:Bs}{x:Nd}{a i e kind:Int}(h:cnK c n s x a z i t e kind)(hx:cnP c n s x a):(1≤kind∧kind≤11)∧0≤e:=by
 obtain⟨k,u,⟨h1,h2⟩,h3,_⟩:=h
 have:=Br.1 (hx.kd k (AY h1.1.2)).2.2
 exact⟨by rw[h2];exact this,by omega⟩
theorem XQ{c:BC}{n:Nat}{s z t:Bs}{x:Nd}{a i e kind:Int}(h:cnK c n s x a z i t e kind)(hx:cnP c n s x a)(hk:(¬kind>3∨¬(t.chunks.length:Int)>e)∨¬(t.spans.length:Int)<40):Cj c n s x a (i+1) t:=by
 have:=Sm h hx
 have hv:=b6e h hx
 by_cases h3:kind>3
 ·rw[if_neg (by omega),Xl (by omega)] at this;exact this
 ·rw[if_pos (by omega)] at this;exact this
theorem a5u{c:BC}{n:Nat}{s z:Bs}{x:Nd}{a i e kind:Int}{r1:List Ru}{r2:List Ch}{r3:List Sn}{r4:List Ti}{r5:List UInt8}(h:cnK c n s x a z i ⟨r1,r2,r3,r4,r5⟩ e kind)(hx:cnP c n s x a)(hk:kind>3)(h2:(r2.length:Int)>e)(h3:(r3.length:Int)<40):Cj c n s x a (i+1) ⟨r1,r2,r3++[⟨e,(r2.length:Int)-1,1⟩],r4,r5⟩:=by
 have:=Sm h hx
 rw[if_neg (by omega),a4C (f:=e) (s:=⟨r1,r2,r3,r4,r5⟩) (by show(r2.length:Int)-1≥e;omega) h3] at this;exact this
theorem b6f{c:BC}{n:Nat}{s t:Bs}{x:Nd}{a i:Int}(h:Cj c n s x a i t)(hx:cnP c n s x a)(hi:¬i<x.kids.length):isB (KJ c.ns c.rd (bV c.ns c.rd n) x a s) t:=(a4V h hx hi).1
theorem b6g{c:BC}{n:Nat}{s z t:Bs}{x:Nd}{a i e kind:Int}(h:cnK c n s x a z i t e kind)(hx:cnP c n s x a):t.spans.length≤40∧t.chunks.length≤79:=⟨(Sl h hx).ok.sp,(Sl h hx).ok.ch⟩
theorem b6h:BH snA:=fun _=>rfl
theorem b6i{b:BC}{n:Nat}{s z:Bs}{x:Nd}{a i e kind:Int}{r1:List Ru}{r2:List Ch}{r3:List Sn}{r4:List Ti}{r5:List UInt8}{xa rk:Int}{kd:Int}{tx:List UInt8}{ks:List Int}{bl:Bool}(h:cnK b n s x a z i ⟨r1,r2,r3,r4,r5⟩ e kind)(hx:cnP b n s x a)(hk:kind>3)(h2:(r2.length:Int)>e)(h3:(r3.length:Int)<40):
 ∃(x_3:Sn),e=x_3.fr∧(r2.length:Int)-1=x_3.tuu∧1=x_3.cost∧∃(zs:List Sn),AV.sl true 0 3 Sn snA [x_3]=AV.sl true 0 3 Sn snA zs∧BH snA∧Bb (r3.length+zs.length) 24∧true=true∧∃(i_3:List Ru×List Ch×List Sn×List Ti×List UInt8×Int),Cj b n s x a (i+1) (zBW i_3)∧
  (AV.sl false 0 4 Nd (ndA false) b.ns=AV.sl false 0 4 Nd (ndA false) b.ns∧b.ind=b.ind∧AV.sl true 0 2 Ru ruA r1=AV.sl true 0 2 Ru ruA (zBW i_3).rules∧AV.sl true 0 5 Ch chA r2=AV.sl true 0 5 Ch chA (zBW i_3).chunks∧AV.sl true 0 3 Sn snA (r3++zs)=AV.sl true 0 3 Sn snA (zBW i_3).spans∧AV.sl true 0 2 Ti tiA r4=AV.sl true 0 2 Ti tiA (zBW i_3).ties∧r5=(zBW i_3).text∧(!b.rd)=(!b.rd)∧xa=xa∧kd=kd∧tx=tx∧AV.sl false 0 1 Int CE ks=AV.sl false 0 1 Int CE ks∧bl=bl∧rk=rk∧i=i∧True)∧True:=by
 have hr:=(Sl h hx).ok.sp
 refine⟨⟨e,(r2.length:Int)-1,1⟩,rfl,rfl,rfl,[⟨e,(r2.length:Int)-1,1⟩],rfl,b6h,?_,rfl,(r1,r2,r3++[⟨e,(r2.length:Int)-1,1⟩],r4,r5,0),a5u h hx hk h2 h3,⟨rfl,rfl,rfl,rfl,rfl,rfl,rfl,rfl,rfl,rfl,rfl,rfl,rfl,rfl,rfl,trivial⟩,trivial⟩
 unfold Bb;simp only[List.length_cons,List.length_nil];omega
attribute [local irreducible] Cj cnJ cnK cqJ
def b6j(n:Nat)(x:BC×List Ru×List Ch×List Sn×List Ti×List UInt8×Nd×Int)(i:List Ru×List Ch×List Sn×List Ti×List UInt8×Int):LS:= {ι:=List Ru×List Ch×List Sn×List Ti×List UInt8×Int,inv:=fun j=>Cj x.1 n (xC x) x.2.2.2.2.2.2.1 (min (x.2.2.2.2.2.2.2+4) 40) (zI i+1) (zBW j),regs:=fun j=>[(0,suA x.1 (zBW j)),(2,.int .i64 x.2.2.2.2.2.2.2),(4,.box 0 (ndA false x.2.2.2.2.2.2.1)),(6,.int .i64 (AM x.1.rd (xC x))),(7,.int .i64 (zI i))],als:=[],meas:=fun _=>0}
def SB(n:Nat)(x:BC×List Ru×List Ch×List Sn×List Ti×List UInt8×Nd×Int)(i:List Ru×List Ch×List Sn×List Ti×List UInt8×Int):LS:= {ι:=List Ru×List Ch×List Sn×List Ti×List UInt8×Int×Int,inv:=fun j=>cnK x.1 n (xC x) x.2.2.2.2.2.2.1 (min (x.2.2.2.2.2.2.2+4) 40) (zBW i) (zI i) (wB j) j.2.2.2.2.2.1 j.2.2.2.2.2.2,regs:=fun j=>[(0,suA x.1 (wB j)),(8,.int .i64 j.2.2.2.2.2.1),(10,.int .i64 j.2.2.2.2.2.2),(2,.int .i64 x.2.2.2.2.2.2.2),(4,.box 0 (ndA false x.2.2.2.2.2.2.1)),(6,.int .i64 (AM x.1.rd (xC x))),(7,.int .i64 (zI i))],als:=[],meas:=fun _=>0}
def SC(n:Nat)(x:BC×List Ru×List Ch×List Sn×List Ti×List UInt8×Nd×Int)(i:List Ru×List Ch×List Sn×List Ti×List UInt8×Int):LS:= {ι:=List Ru×List Ch×List Sn×List Ti×List UInt8×Unit,inv:=fun j=>cqJ x.1 n (xC x) x.2.2.2.2.2.2.1 (min (x.2.2.2.2.2.2.2+4) 40) (zBW i) (zI i) ⟨j.1,j.2.1,j.2.2.1,j.2.2.2.1,j.2.2.2.2.1⟩,regs:=fun j=>[(0,suA x.1 ⟨j.1,j.2.1,j.2.2.1,j.2.2.2.1,j.2.2.2.2.1⟩),(2,.int .i64 x.2.2.2.2.2.2.2),(4,.box 0 (ndA false x.2.2.2.2.2.2.1)),(6,.int .i64 (AM x.1.rd (xC x))),(7,.int .i64 (zI i))],als:=[],meas:=fun _=>0}
def OX(n:Nat)(x:BC×List Ru×List Ch×List Sn×List Ti×List UInt8×Nd×Int):LS:= {ι:=List Ru×List Ch×List Sn×List Ti×List UInt8×Int,inv:=fun i=>Cj x.1 n (xC x) x.2.2.2.2.2.2.1 (min (x.2.2.2.2.2.2.2+4) 40) (zI i) (zBW i),regs:=fun i=>[(0,suA x.1 (zBW i)),(2,.int .i64 x.2.2.2.2.2.2.2),(4,.box 0 (ndA false x.2.2.2.2.2.2.1)),(6,.int .i64 (AM x.1.rd (xC x))),(7,.int .i64 (zI i))],als:=[],meas:=fun i=>x.2.2.2.2.2.2.1.kids.length-(zI i).toNat,sub:=fun i=>[(200008,SC n x i),(200014,SB n x i),(100015,b6j n x i)]}
def XR(n:Nat):Sig:= {X:=BC×List Ru×List Ch×List Sn×List Ti×List UInt8×Nd×Int,args:=fun x=>[suA x.1 (xC x),.agg (ndA false x.2.2.2.2.2.2.1),.int .i64 x.2.2.2.2.2.2.2],pre:=fun x=>cqP x.1 n (xC x) x.2.2.2.2.2.2.1 x.2.2.2.2.2.2.2,Y:=BT,post:=fun x y=>isB (KJ x.1.ns x.1.rd (bV x.1.ns x.1.rd n) x.2.2.2.2.2.2.1 (min (x.2.2.2.2.2.2.2+4) 40) (xC x)) (yBW y),res:=fun x y=> .tup [],outs:=fun x y=>[suA x.1 (yBW y),.top,.top],keep:=true}
def OY(n:Nat)(x:BC×List Ru×List Ch×List Sn×List Ti×List UInt8×Nd×Int)(i:List Ru×List Ch×List Sn×List Ti×List UInt8×Int)(i_2:List Ru×List Ch×List Sn×List Ti×List UInt8×Int×Int):Prop:=∃(x_3:Sn),i_2.2.2.2.2.2.1=x_3.fr∧((↑(List.length (wB i_2).chunks):Int)-(1:Int)=x_3.tuu∧((1:Int)=x_3.cost∧(∃(zs:List Sn),AV.sl true 0 3 Sn snA [x_3]=AV.sl true 0 3 Sn snA zs∧(BH snA∧(Bb (List.length (wB i_2).spans+List.length zs) (24:Nat)∧(true=true∧(∃(i_3:List Ru×List Ch×List Sn×List Ti×List UInt8×Int),Cj x.1 n (xC x) x.2.2.2.2.2.2.1 (min (x.2.2.2.2.2.2.2+(4:Int)) (40:Int)) (zI i+(1:Int)) (zBW i_3)∧((nds x.1.ns=nds x.1.ns∧x.1.ind=x.1.ind∧AV.sl true 0 2 Ru ruA (wB i_2).rules=AV.sl true 0 2 Ru ruA (zBW i_3).rules∧AV.sl true 0 5 Ch chA (wB i_2).chunks=AV.sl true 0 5 Ch chA (zBW i_3).chunks∧AV.sl true 0 3 Sn snA ((wB i_2).spans++zs)=AV.sl true 0 3 Sn snA (zBW i_3).spans∧AV.sl true 0 2 Ti tiA (wB i_2).ties=AV.sl true 0 2 Ti tiA (zBW i_3).ties∧((wB i_2).text=(zBW i_3).text∧((!x.1.rd)= !x.1.rd∧x.2.2.2.2.2.2.2=x.2.2.2.2.2.2.2∧x.2.2.2.2.2.2.1.kind=x.2.2.2.2.2.2.1.kind∧x.2.2.2.2.2.2.1.text=x.2.2.2.2.2.2.1.text∧Ad x.2.2.2.2.2.2.1.kids=Ad x.2.2.2.2.2.2.1.kids∧x.2.2.2.2.2.2.1.blank=x.2.2.2.2.2.2.1.blank∧AM x.1.rd (xC x)=AM x.1.rd (xC x)∧zI i=zI i∧True)))∧True))))))))
def SD(n:Nat)(x:BC×List Ru×List Ch×List Sn×List Ti×List UInt8×Nd×Int)(i:List Ru×List Ch×List Sn×List Ti×List UInt8×Int)(i_2:List Ru×List Ch×List Sn×List Ti×List UInt8×Int×Int):Prop:=eN (OX n x) i [.box 0 [nds x.1.ns,.int .i64 x.1.ind,AV.sl true 0 2 Ru ruA (wB i_2).rules,AV.sl true 0 5 Ch chA (wB i_2).chunks,AV.sl true 0 3 Sn snA (wB i_2).spans,AV.sl true 0 2 Ti tiA (wB i_2).ties,.str (wB i_2).text,.bool !x.1.rd],.int .i64 x.2.2.2.2.2.2.2,.box 0 [.int .i64 x.2.2.2.2.2.2.1.kind,.str x.2.2.2.2.2.2.1.text,Ad x.2.2.2.2.2.2.1.kids,.bool x.2.2.2.2.2.2.1.blank],.int .i64 (AM x.1.rd (xC x)),.int .i64 (zI i+(1:Int))]
theorem a5v(n:Nat)(hc:Ah G Go.Proofs.Tryz.prog 49 (BR n)):Ah G Tryz.prog 87 (XR n):=
 vcFun_okP [(50,0,BQ),(48,0,DU),(47,0,Dt),(49,0,(BR n)),(120,0,IG)] [(29,⟨Sn,snA⟩)] false (fun x=>[(3,OX n x)]) Tryz.func87 rfl (by decide) ⟨MX,OT,OV,hc,a5p,trivial⟩ (fun(x:BC×List Ru×List Ch×List Sn×List Ti×List UInt8×Nd×Int)=>True∧cA DU [.box 0 [nds x.1.ns,.int .i64 x.1.ind,AV.sl true 0 2 Ru ruA (xC x).rules,AV.sl true 0 5 Ch chA (xC x).chunks,AV.sl true 0 3 Sn snA (xC x).spans,AV.sl true 0 2 Ti tiA (xC x).ties,.str (xC x).text,.bool !x.1.rd],.int .i64 (2:Int),.int .i64 (1:Int)] fun x_1 y=>eA (OX n x) [.box 0 [nds x_1.1.ns,.int .i64 x_1.1.ind,AV.sl true 0 2 Ru ruA (yBW y).rules,AV.sl true 0 5 Ch chA (yBW y).chunks,AV.sl true 0 3 Sn snA (yBW y).spans,AV.sl true 0 2 Ti tiA (yBW y).ties,.str (yBW y).text,.bool !x_1.1.rd],.int .i64 x.2.2.2.2.2.2.2,.box 0 [.int .i64 x.2.2.2.2.2.2.1.kind,.str x.2.2.2.2.2.2.1.text,Ad x.2.2.2.2.2.2.1.kids,.bool x.2.2.2.2.2.2.1.blank],.int .i64 (AM x_1.1.rd (xC x_1)),.int .i64 (0:Int)]∧∀(i:List Ru×List Ch×List Sn×List Ti×List UInt8×Int),Cj x.1 n (xC x) x.2.2.2.2.2.2.1 (min (x.2.2.2.2.2.2.2+(4:Int)) (40:Int)) (zI i) (zBW i)→Ab (decide (zI i<(↑(List.length x.2.2.2.2.2.2.1.kids):Int))) (Ab (decide (zI i>(0:Int))) ((↑((1:Nat)+List.length x.2.2.2.2.2.2.1.text):Int)≤IntKind.max IntKind.i64∧cA BQ [.box 0 [nds x.1.ns,.int .i64 x.1.ind,AV.sl true 0 2 Ru ruA (zBW i).rules,AV.sl true 0 5 Ch chA (zBW i).chunks,AV.sl true 0 3 Sn snA (zBW i).spans,AV.sl true 0 2 Ti tiA (zBW i).ties,.str (zBW i).text,.bool !x.1.rd],.str (#[(32:UInt8)].toList++x.2.2.2.2.2.2.1.text)] fun x_2 y=>inR IntKind.i64 (x.2.2.2.2.2.2.2+(4:Int))∧cA Dt [.box 0 [nds x_2.1.ns,.int .i64 x_2.1.ind,AV.sl true 0 2 Ru ruA (yBW y).rules,AV.sl true 0 5 Ch chA (yBW y).chunks,AV.sl true 0 3 Sn snA (yBW y).spans,AV.sl true 0 2 Ti tiA (yBW y).ties,.str (yBW y).text,.bool !x_2.1.rd],.int .i64 (AM x.1.rd (xC x)),.int .i64 (1:Int),.bool true,.int .i64 (x.2.2.2.2.2.2.2+(4:Int))] fun x_3 y=>eA (SC n x i) [.box 0 [nds x_3.1.ns,.int .i64 x_3.1.ind,AV.sl true 0 2 Ru ruA (yBW y).rules,AV.sl true 0 5 Ch chA (yBW y).chunks,AV.sl true 0 3 Sn snA (yBW y).spans,AV.sl true 0 2 Ti tiA (yBW y).ties,.str (yBW y).text,.bool !x_3.1.rd],.int .i64 x.2.2.2.2.2.2.2,.box 0 [.int .i64 x.2.2.2.2.2.2.1.kind,.str x.2.2.2.2.2.2.1.text,Ad x.2.2.2.2.2.2.1.kids,.bool x.2.2.2.2.2.2.1.blank],.int .i64 (AM x.1.rd (xC x)),.int .i64 (zI i)]) (eA (SC n x i) [.box 0 [nds x.1.ns,.int .i64 x.1.ind,AV.sl true 0 2 Ru ruA (zBW i).rules,AV.sl true 0 5 Ch chA (zBW i).chunks,AV.sl true 0 3 Sn snA (zBW i).spans,AV.sl true 0 2 Ti tiA (zBW i).ties,.str (zBW i).text,.bool !x.1.rd],.int .i64 x.2.2.2.2.2.2.2,.box 0 [.int .i64 x.2.2.2.2.2.2.1.kind,.str x.2.2.2.2.2.2.1.text,Ad x.2.2.2.2.2.2.1.kids,.bool x.2.2.2.2.2.2.1.blank],.int .i64 (AM x.1.rd (xC x)),.int .i64 (zI i)])∧∀(i_1:List Ru×List Ch×List Sn×List Ti×List UInt8×Unit),cqJ x.1 n (xC x) x.2.2.2.2.2.2.1 (min (x.2.2.2.2.2.2.2+(4:Int)) (40:Int)) (zBW i) (zI i) {rules:=i_1.1,chunks:=i_1.2.1,spans:=i_1.2.2.1,ties:=i_1.2.2.2.1,text:=i_1.2.2.2.2.1}→((0:Int)≤zI i∧zI i<(↑(List.length x.2.2.2.2.2.2.1.kids):Int))∧∀(e:Int),x.2.2.2.2.2.2.1.kids[Int.toNat (zI i)]? =some e→inR IntKind.i64 (x.2.2.2.2.2.2.2+(4:Int))∧cA (BR n) [.box 0 [nds x.1.ns,.int .i64 x.1.ind,AV.sl true 0 2 Ru ruA i_1.1,AV.sl true 0 5 Ch chA i_1.2.1,AV.sl true 0 3 Sn snA i_1.2.2.1,AV.sl true 0 2 Ti tiA i_1.2.2.2.1,.str i_1.2.2.2.2.1,.bool !x.1.rd],.int .i64 e,.int .i64 (x.2.2.2.2.2.2.2+(4:Int))] fun x_2 y=>true=true∧true=true∧((0:Int)≤zI i∧zI i<(↑(List.length x.2.2.2.2.2.2.1.kids):Int))∧∀(e:Int),x.2.2.2.2.2.2.1.kids[Int.toNat (zI i)]? =some e→((0:Int)≤e∧e<(↑(List.length x_2.1.ns):Int))∧∀(e_1:Nd),x_2.1.ns[Int.toNat e]? =some e_1→Ab (e_1.kind==(7:Int)) (cA IG [.box 0 [nds x_2.1.ns,.int .i64 x_2.1.ind,AV.sl true 0 2 Ru ruA (yBW y).rules,AV.sl true 0 5 Ch chA (yBW y).chunks,AV.sl true 0 3 Sn snA (yBW y).spans,AV.sl true 0 2 Ti tiA (yBW y).ties,.str (yBW y).text,.bool !x_2.1.rd],.int .i64 (↑(List.length i_1.1):Int),.int .i64 (AM x.1.rd (xC x))] fun x_3 y=>eA (SB n x i) [.box 0 [nds x_3.1.ns,.int .i64 x_3.1.ind,AV.sl true 0 2 Ru ruA (yBW y).rules,AV.sl true 0 5 Ch chA (yBW y).chunks,AV.sl true 0 3 Sn snA (yBW y).spans,AV.sl true 0 2 Ti tiA (yBW y).ties,.str (yBW y).text,.bool !x_3.1.rd],.int .i64 (↑(List.length i_1.2.1):Int),.int .i64 e_1.kind,.int .i64 x.2.2.2.2.2.2.2,.box 0 [.int .i64 x.2.2.2.2.2.2.1.kind,.str x.2.2.2.2.2.2.1.text,Ad x.2.2.2.2.2.2.1.kids,.bool x.2.2.2.2.2.2.1.blank],.int .i64 (AM x.1.rd (xC x)),.int .i64 (zI i)]) (eA (SB n x i) [.box 0 [nds x_2.1.ns,.int .i64 x_2.1.ind,AV.sl true 0 2 Ru ruA (yBW y).rules,AV.sl true 0 5 Ch chA (yBW y).chunks,AV.sl true 0 3 Sn snA (yBW y).spans,AV.sl true 0 2 Ti tiA (yBW y).ties,.str (yBW y).text,.bool !x_2.1.rd],.int .i64 (↑(List.length i_1.2.1):Int),.int .i64 e_1.kind,.int .i64 x.2.2.2.2.2.2.2,.box 0 [.int .i64 x.2.2.2.2.2.2.1.kind,.str x.2.2.2.2.2.2.1.text,Ad x.2.2.2.2.2.2.1.kids,.bool x.2.2.2.2.2.2.1.blank],.int .i64 (AM x.1.rd (xC x)),.int .i64 (zI i)])∧∀(i_2:List Ru×List Ch×List Sn×List Ti×List UInt8×Int×Int),cnK x.1 n (xC x) x.2.2.2.2.2.2.1 (min (x.2.2.2.2.2.2.2+(4:Int)) (40:Int)) (zBW i) (zI i) (wB i_2) i_2.2.2.2.2.2.1 i_2.2.2.2.2.2.2→Ab (decide (i_2.2.2.2.2.2.2>(3:Int))) (Ab (decide ((↑(List.length (wB i_2).chunks):Int)>i_2.2.2.2.2.2.1)) (Ab (decide ((↑(List.length (wB i_2).spans):Int)<(40:Int))) (true=true∧((inR IntKind.i64 ((↑(List.length (wB i_2).chunks):Int)-(1:Int))∧(OY n x i i_2))∧inR IntKind.i64 ((↑(List.length (wB i_2).chunks):Int)-(1:Int))∧(OY n x i i_2)∧(OY n x i i_2)∧(OY n x i i_2))∧∀(i_3:List Ru×List Ch×List Sn×List Ti×List UInt8×Int),Cj x.1 n (xC x) x.2.2.2.2.2.2.1 (min (x.2.2.2.2.2.2.2+(4:Int)) (40:Int)) (zI i+(1:Int)) (zBW i_3)→inR IntKind.i64 (zI i+(1:Int))∧eN (OX n x) i [.box 0 [nds x.1.ns,.int .i64 x.1.ind,AV.sl true 0 2 Ru ruA (zBW i_3).rules,AV.sl true 0 5 Ch chA (zBW i_3).chunks,AV.sl true 0 3 Sn snA (zBW i_3).spans,AV.sl true 0 2 Ti tiA (zBW i_3).ties,.str (zBW i_3).text,.bool !x.1.rd],.int .i64 x.2.2.2.2.2.2.2,.box 0 [.int .i64 x.2.2.2.2.2.2.1.kind,.str x.2.2.2.2.2.2.1.text,Ad x.2.2.2.2.2.2.1.kids,.bool x.2.2.2.2.2.2.1.blank],.int .i64 (AM x.1.rd (xC x)),.int .i64 (zI i+(1:Int))]) (inR IntKind.i64 (zI i+(1:Int))∧(SD n x i i_2))) (inR IntKind.i64 (zI i+(1:Int))∧(SD n x i i_2))) (inR IntKind.i64 (zI i+(1:Int))∧(SD n x i i_2))) (rA (XR n) x [.tup [],.box 0 [nds x.1.ns,.int .i64 x.1.ind,AV.sl true 0 2 Ru ruA (zBW i).rules,AV.sl true 0 5 Ch chA (zBW i).chunks,AV.sl true 0 3 Sn snA (zBW i).spans,AV.sl true 0 2 Ti tiA (zBW i).ties,.str (zBW i).text,.bool !x.1.rd],.top,.top])) (fun x=>by kernel_rfl) fun(x:BC×List Ru×List Ch×List Sn×List Ti×List UInt8×Nd×Int) (hx:cqP x.1 n (xC x) x.2.2.2.2.2.2.1 x.2.2.2.2.2.2.2)=>(by
 dsimp only[SD,OY,cA,Bl,SB,OX,SC,eA,eN,Ad,Bg,nds,rA,Bj,XR,BQ,DU,Dt,IG,BR,Bm,suA,Bn,Aq,Aw,mvL,lnL,mvE,lnE,mvG,mvH,lnG,lnH,AZ]
 obtain⟨b,r,c,s,t,u,x,a⟩:=x;dsimp only[xC] at hx ⊢
 have hx:cqP b n ⟨r,c,s,t,u⟩ x a:=hx
 have h1:=hx.ar.1;have h2:=hx.cn.kl;have h3:=hx.cn.tl
 (repeat' first|exact b6i ‹_› hx.cn ‹_› ‹_› ‹_› |refine a4y ?_|(with_reducible first|rfl|exact True.intro|apply AG|apply And.intro|((first|apply Au|apply AE|apply Av|apply AF)<;>intro _))|(apply As<;>intro _)|apply AD|refine Af () ?_ ?_|((first|apply AK|apply AJ|apply AI|apply AH|apply AC|apply AB|apply AA|apply Az|apply Ax)<;>try dsimp only)|apply Af|(refine Prod.forall.2 ?_;intro _;try dsimp only)|(intro _;try dsimp only))
 all_goals(try(repeat(rename x.kids[_]? =some _=>hq;revert hq;rename x.kids[_]? =some _=>hr;intro hq;rw[hr] at hq;cases hq)))
 all_goals(try dsimp only[yBW,xC,zBW,zI,wB] at*)
 all_goals first
  |with_reducible rfl
  |with_reducible assumption
  |omega
  |exact CY hx.cn.rm
  |exact a4P hx.cn ‹_›
  |exact b5V ‹_› ‹_› hx.cn ‹_›
  |exact b5W ‹_› ‹_› ‹_›
  |exact b5X ‹_› ‹_› ‹_› ‹_› ‹_›
  |exact b5Z ‹_› hx ‹_›
  |exact b6a ‹_› ‹_› hx ‹_›
  |exact b6c ‹_› ‹_› ‹_› ‹_› ‹_›
  |exact b6d ‹_› ‹_› ‹_› ‹_› hx ‹_› ‹_›
  |exact XQ ‹_› hx.cn (.inl (.inl ‹_›))
  |exact XQ ‹_› hx.cn (.inl (.inr ‹_›))
  |exact XQ ‹_› hx.cn (.inr ‹_›)
  |exact a5u ‹_› hx.cn ‹_› ‹_› ‹_›
  |exact b6f ‹_› hx.cn ‹_›
  |(rename Cj _ _ _ _ _ _ _=>hz;clear hz;have hq:=OO (show Cj _ _ _ _ _ _ _ by assumption);omega)
  |(have hq:=OO (show Cj _ _ _ _ _ _ _ by assumption);(try have hk:=a5t hx ‹_›);(try simp only[Ai]);omega)
  |(have hq:=b5U (show Cj _ _ _ _ _ _ _ by assumption) ‹_›;dsimp only at hq;(try simp only[Ai,List.length_append,List.length_cons,List.length_nil]);omega)
  |(have hq:=b6b (show cqJ _ _ _ _ _ _ _ _ by assumption) hx.cn ‹_›;(try simp only[Ai]);omega)
  |(have hq:=b6g (show cnK _ _ _ _ _ _ _ _ _ _ by assumption) hx.cn;dsimp only at hq;(try simp only[Ai,Bb,List.length_cons,List.length_nil]);omega)
  |(have hq:=b5Y (show cqJ _ _ _ _ _ _ _ _ by assumption) hx.cn;dsimp only at hq;(try simp only[Ai]);omega)
  |exact()
  |rfl
  |skip)
end Go.My
end
section
namespace Go.My
open Go.Eng Go.Proofs
variable {G:GInv}
structure pxP (c:BC) (n:Nat) (s:Bs) (x:Nd) (a:Int):Prop where
 pn:pnP c n s x (min (a+4) 40)
 ar:inA a x.kids
theorem a5w{c:BC}{n:Nat}{s:Bs}{x:Nd}{a i k:Int}(h:pxP c n s x a)(hc:x.kids[i.toNat]? =some k):a+4+4*k≤2^40:=h.ar.2 k (AY hc)
theorem SE{c:BC}{n:Nat}{s t:Bs}{x:Nd}{a i:Int}(h:pnI c n s x a i t)(hi:i<x.kids.length):∃k,x.kids[i.toNat]? =some k:=by
 have:=Sr h
 exact⟨_,List.getElem?_eq_getElem (by omega)⟩
theorem b6k{c:BC}{n:Nat}{s t:Bs}{x:Nd}{a i:Int}(h:pnI c n s x a i t)(hi:i<x.kids.length):bB t:=by
 obtain⟨k,hk⟩:=SE h hi;exact a4X h hk
theorem a5x{r a:Int}{s t:Bs}(h:isB (AU r 1 true (a+4) s) t):t=AU r 1 true (min (a+4) 40) s:=by rw[h];exact MW (by omega)
theorem b6l{c:BC}{n:Nat}{s t u:Bs}{x:Nd}{a i:Int}(hu:isB (AU (AM c.rd s) 1 true (a+4) t) u)(h:pnI c n s x (min (a+4) 40) i t)(hi:i<x.kids.length):u.text.length+4≤2^61:=by
 obtain⟨k,hk⟩:=SE h hi;exact a4Z h (a5x hu) hk
def pxJ(c:BC)(n:Nat)(s:Bs)(x:Nd)(a:Int)(z:Bs)(i:Int)(t:Bs):Prop:=∃k,pnJ c n s x a z i k t
theorem b6m{c:BC}{n:Nat}{s t:Bs}{x:Nd}{a i:Int}(h:pnI c n s x a i t)(hl:i<x.kids.length)(hi:¬i>0):pxJ c n s x a t i t:=by
 obtain⟨k,hk⟩:=SE h hl;exact⟨k,a5a h hk hi⟩
theorem b6n{c:BC}{n:Nat}{s t u w:Bs}{x:Nd}{a i:Int}{l:List UInt8}(h:pnI c n s x (min (a+4) 40) i t)(hw:isB (Am l u) w)(hu:isB (AU (AM c.rd s) 1 true (a+4) t) u)(hp:([[],[63,32],[58,32]]:List (List UInt8))[i.toNat]? =some l)(hl:i<x.kids.length)(hi:i>0):pxJ c n s x (min (a+4) 40) t i w:=by
 obtain⟨k,hk⟩:=SE h hl
 rw[hw];exact⟨k,a5h h hk hi (a5x hu) hp⟩
theorem OZ{c:BC}{n:Nat}{s z t:Bs}{x:Nd}{a i k:Int}(h:pxJ c n s x a z i t)(hk:x.kids[i.toNat]? =some k):pnJ c n s x a z i k t:=by
 obtain⟨k',h'⟩:=h
 have:=h'.1.2
 rw[hk] at this;cases this;exact h'
theorem b6o{c:BC}{n:Nat}{s z t:Bs}{x:Nd}{a i:Int}(h:pxJ c n s x a z i t):t.rules.length≤8:=by
 obtain⟨k,h⟩:=h;exact(XB h).1.ru
theorem b6p{c:BC}{n:Nat}{s z t:Bs}{x:Nd}{a i k:Int}(h:pxJ c n s x (min (a+4) 40) z i t)(hx:pxP c n s x a)(hk:x.kids[i.toNat]? =some k):vsP c.ns n t k (a+4):=XP (XC (OZ h hk) hx.pn) hx.ar.1.1 (a5w hx hk)
theorem b6q{c:BC}{n:Nat}{s z t u:Bs}{x:Nd}{a i k:Int}(h:pxJ c n s x (min (a+4) 40) z i t)(hu:vsQ c n t k (a+4) u)(hx:pxP c n s x a)(hk:x.kids[i.toNat]? =some k):bB u:=a5b (OZ h hk) (Lm hu) hx.pn
theorem b6r{c:BC}{n:Nat}{s z t:Bs}{x:Nd}{a i k:Int}(h:pxJ c n s x a z i t)(hx:pnP c n s x a)(hk:x.kids[i.toNat]? =some k):0≤k∧k<c.ns.length:=a5c (OZ h hk) hx
theorem b6s{c:BC}{n:Nat}{s z t u:Bs}{x:Nd}{a i k:Int}{e:Nd}(h:pxJ c n s x (min (a+4) 40) z i t)(hu:vsQ c n t k (a+4) u)(hx:pxP c n s x a)(he:c.ns[k.toNat]? =some e)(hk:x.kids[i.toNat]? =some k)(h8:¬e.kind=8):pnI c n s x (min (a+4) 40) (i+1) u:=a5e (OZ h hk) (Lm hu) hx.pn he h8
theorem b6t{c:BC}{n:Nat}{s z t u v:Bs}{x:Nd}{a i k:Int}{e:Nd}(h:pxJ c n s x (min (a+4) 40) z i t)(hv:isB (CI (DB t.rules.length u) (AM c.rd s) u) v)(hu:vsQ c n t k (a+4) u)(hx:pxP c n s x a)(he:c.ns[k.toNat]? =some e)(hk:x.kids[i.toNat]? =some k)(h8:e.kind=8):pnI c n s x (min (a+4) 40) (i+1) v:=by
 have hkp:=hx.pn.kd k (AY hk)
 refine a5f (OZ h hk) (Lm hu) ?_ hx.pn he h8
 rw[←Sf (a:=min (a+4) 40) hkp.1 hkp.2.1 (.inr (by rw[Ek he];exact h8)),←hu];exact hv
theorem b6u{c:BC}{n:Nat}{s t:Bs}{x:Nd}{a i:Int}(h:pnI c n s x a i t)(hx:pnP c n s x a)(hi:¬i<x.kids.length):isB (Ms c.ns c.rd (bV c.ns c.rd n) x a s) t:=(a5g h hx hi).1
attribute [local irreducible] pnI pnJ pxJ
def SF(n:Nat)(x:BC×List Ru×List Ch×List Sn×List Ti×List UInt8×Nd×Int)(i:List Ru×List Ch×List Sn×List Ti×List UInt8×Int):LS:= {ι:=List Ru×List Ch×List Sn×List Ti×List UInt8×Unit,inv:=fun j=>pxJ x.1 n (xC x) x.2.2.2.2.2.2.1 (min (x.2.2.2.2.2.2.2+4) 40) (zBW i) (zI i) ⟨j.1,j.2.1,j.2.2.1,j.2.2.2.1,j.2.2.2.2.1⟩,regs:=fun j=>[(0,suA x.1 ⟨j.1,j.2.1,j.2.2.1,j.2.2.2.1,j.2.2.2.2.1⟩),(2,.int .i64 x.2.2.2.2.2.2.2),(4,.box 0 (ndA false x.2.2.2.2.2.2.1)),(6,.int .i64 (AM x.1.rd (xC x))),(7,.int .i64 (zI i))],als:=[],meas:=fun _=>0}
def Pa(n:Nat)(x:BC×List Ru×List Ch×List Sn×List Ti×List UInt8×Nd×Int):LS:= {ι:=List Ru×List Ch×List Sn×List Ti×List UInt8×Int,inv:=fun i=>pnI x.1 n (xC x) x.2.2.2.2.2.2.1 (min (x.2.2.2.2.2.2.2+4) 40) (zI i) (zBW i),regs:=fun i=>[(0,suA x.1 (zBW i)),(2,.int .i64 x.2.2.2.2.2.2.2),(4,.box 0 (ndA false x.2.2.2.2.2.2.1)),(6,.int .i64 (AM x.1.rd (xC x))),(7,.int .i64 (zI i))],als:=[],meas:=fun i=>x.2.2.2.2.2.2.1.kids.length-(zI i).toNat,sub:=fun i=>[(200008,SF n x i)]}
def MY(n:Nat):Sig:= {X:=BC×List Ru×List Ch×List Sn×List Ti×List UInt8×Nd×Int,args:=fun x=>[suA x.1 (xC x),.agg (ndA false x.2.2.2.2.2.2.1),.int .i64 x.2.2.2.2.2.2.2],pre:=fun x=>pxP x.1 n (xC x) x.2.2.2.2.2.2.1 x.2.2.2.2.2.2.2,Y:=BT,post:=fun x y=>isB (Ms x.1.ns x.1.rd (bV x.1.ns x.1.rd n) x.2.2.2.2.2.2.1 (min (x.2.2.2.2.2.2.2+4) 40) (xC x)) (yBW y),res:=fun x y=> .tup [],outs:=fun x y=>[suA x.1 (yBW y),.top,.top],keep:=true}
theorem b6v(n:Nat)(hc:Ah G Go.Proofs.Tryz.prog 49 (BR n)):Ah G Tryz.prog 88 (MY n):=
 vcFun_okP [(50,0,BQ),(48,0,DU),(47,0,Dt),(49,0,(BR n)),(120,0,IG)] [(42,⟨List UInt8,Ag⟩)] false (fun x=>[(3,Pa n x)]) Tryz.func88 rfl (by decide) ⟨MX,OT,OV,hc,a5p,trivial⟩ (fun(x:BC×List Ru×List Ch×List Sn×List Ti×List UInt8×Nd×Int)=>True∧cA DU [.box 0 [nds x.1.ns,.int .i64 x.1.ind,AV.sl true 0 2 Ru ruA (xC x).rules,AV.sl true 0 5 Ch chA (xC x).chunks,AV.sl true 0 3 Sn snA (xC x).spans,AV.sl true 0 2 Ti tiA (xC x).ties,.str (xC x).text,.bool !x.1.rd],.int .i64 (2:Int),.int .i64 (1:Int)] fun x_1 y=>eA (Pa n x) [.box 0 [nds x_1.1.ns,.int .i64 x_1.1.ind,AV.sl true 0 2 Ru ruA (yBW y).rules,AV.sl true 0 5 Ch chA (yBW y).chunks,AV.sl true 0 3 Sn snA (yBW y).spans,AV.sl true 0 2 Ti tiA (yBW y).ties,.str (yBW y).text,.bool !x_1.1.rd],.int .i64 x.2.2.2.2.2.2.2,.box 0 [.int .i64 x.2.2.2.2.2.2.1.kind,.str x.2.2.2.2.2.2.1.text,Ad x.2.2.2.2.2.2.1.kids,.bool x.2.2.2.2.2.2.1.blank],.int .i64 (AM x_1.1.rd (xC x_1)),.int .i64 (0:Int)]∧∀(i:List Ru×List Ch×List Sn×List Ti×List UInt8×Int),pnI x.1 n (xC x) x.2.2.2.2.2.2.1 (min (x.2.2.2.2.2.2.2+(4:Int)) (40:Int)) (zI i) (zBW i)→Ab (decide (zI i<(↑(List.length x.2.2.2.2.2.2.1.kids):Int))) (Ab (decide (zI i>(0:Int))) (inR IntKind.i64 (x.2.2.2.2.2.2.2+(4:Int))∧cA Dt [.box 0 [nds x.1.ns,.int .i64 x.1.ind,AV.sl true 0 2 Ru ruA (zBW i).rules,AV.sl true 0 5 Ch chA (zBW i).chunks,AV.sl true 0 3 Sn snA (zBW i).spans,AV.sl true 0 2 Ti tiA (zBW i).ties,.str (zBW i).text,.bool !x.1.rd],.int .i64 (AM x.1.rd (xC x)),.int .i64 (1:Int),.bool true,.int .i64 (x.2.2.2.2.2.2.2+(4:Int))] fun x_2 y=>∃(x_3:List UInt8),#[].toList=x_3∧∃(x_4:List UInt8),#[(63:UInt8),(32:UInt8)].toList=x_4∧∃(x_5:List UInt8),#[(58:UInt8),(32:UInt8)].toList=x_5∧((0:Int)≤zI i∧zI i<(↑(List.length [x_3,x_4,x_5]):Int))∧Int.toNat (zI i)<List.length [x_3,x_4,x_5]∧∀(x_6:List UInt8),[x_3,x_4,x_5][Int.toNat (zI i)]? =some x_6→cA BQ [.box 0 [nds x_2.1.ns,.int .i64 x_2.1.ind,AV.sl true 0 2 Ru ruA (yBW y).rules,AV.sl true 0 5 Ch chA (yBW y).chunks,AV.sl true 0 3 Sn snA (yBW y).spans,AV.sl true 0 2 Ti tiA (yBW y).ties,.str (yBW y).text,.bool !x_2.1.rd],.str x_6] fun x_7 y=>eA (SF n x i) [.box 0 [nds x_7.1.ns,.int .i64 x_7.1.ind,AV.sl true 0 2 Ru ruA (yBW y).rules,AV.sl true 0 5 Ch chA (yBW y).chunks,AV.sl true 0 3 Sn snA (yBW y).spans,AV.sl true 0 2 Ti tiA (yBW y).ties,.str (yBW y).text,.bool !x_7.1.rd],.int .i64 x.2.2.2.2.2.2.2,.box 0 [.int .i64 x.2.2.2.2.2.2.1.kind,.str x.2.2.2.2.2.2.1.text,Ad x.2.2.2.2.2.2.1.kids,.bool x.2.2.2.2.2.2.1.blank],.int .i64 (AM x.1.rd (xC x)),.int .i64 (zI i)]) (eA (SF n x i) [.box 0 [nds x.1.ns,.int .i64 x.1.ind,AV.sl true 0 2 Ru ruA (zBW i).rules,AV.sl true 0 5 Ch chA (zBW i).chunks,AV.sl true 0 3 Sn snA (zBW i).spans,AV.sl true 0 2 Ti tiA (zBW i).ties,.str (zBW i).text,.bool !x.1.rd],.int .i64 x.2.2.2.2.2.2.2,.box 0 [.int .i64 x.2.2.2.2.2.2.1.kind,.str x.2.2.2.2.2.2.1.text,Ad x.2.2.2.2.2.2.1.kids,.bool x.2.2.2.2.2.2.1.blank],.int .i64 (AM x.1.rd (xC x)),.int .i64 (zI i)])∧∀(i_1:List Ru×List Ch×List Sn×List Ti×List UInt8×Unit),pxJ x.1 n (xC x) x.2.2.2.2.2.2.1 (min (x.2.2.2.2.2.2.2+(4:Int)) (40:Int)) (zBW i) (zI i) {rules:=i_1.1,chunks:=i_1.2.1,spans:=i_1.2.2.1,ties:=i_1.2.2.2.1,text:=i_1.2.2.2.2.1}→((0:Int)≤zI i∧zI i<(↑(List.length x.2.2.2.2.2.2.1.kids):Int))∧∀(e:Int),x.2.2.2.2.2.2.1.kids[Int.toNat (zI i)]? =some e→inR IntKind.i64 (x.2.2.2.2.2.2.2+(4:Int))∧cA (BR n) [.box 0 [nds x.1.ns,.int .i64 x.1.ind,AV.sl true 0 2 Ru ruA i_1.1,AV.sl true 0 5 Ch chA i_1.2.1,AV.sl true 0 3 Sn snA i_1.2.2.1,AV.sl true 0 2 Ti tiA i_1.2.2.2.1,.str i_1.2.2.2.2.1,.bool !x.1.rd],.int .i64 e,.int .i64 (x.2.2.2.2.2.2.2+(4:Int))] fun x_2 y=>true=true∧true=true∧((0:Int)≤zI i∧zI i<(↑(List.length x.2.2.2.2.2.2.1.kids):Int))∧∀(e:Int),x.2.2.2.2.2.2.1.kids[Int.toNat (zI i)]? =some e→((0:Int)≤e∧e<(↑(List.length x_2.1.ns):Int))∧∀(e_1:Nd),x_2.1.ns[Int.toNat e]? =some e_1→Ab (e_1.kind==(8:Int)) (cA IG [.box 0 [nds x_2.1.ns,.int .i64 x_2.1.ind,AV.sl true 0 2 Ru ruA (yBW y).rules,AV.sl true 0 5 Ch chA (yBW y).chunks,AV.sl true 0 3 Sn snA (yBW y).spans,AV.sl true 0 2 Ti tiA (yBW y).ties,.str (yBW y).text,.bool !x_2.1.rd],.int .i64 (↑(List.length i_1.1):Int),.int .i64 (AM x.1.rd (xC x))] fun x_3 y=>inR IntKind.i64 (zI i+(1:Int))∧eN (Pa n x) i [.box 0 [nds x_3.1.ns,.int .i64 x_3.1.ind,AV.sl true 0 2 Ru ruA (yBW y).rules,AV.sl true 0 5 Ch chA (yBW y).chunks,AV.sl true 0 3 Sn snA (yBW y).spans,AV.sl true 0 2 Ti tiA (yBW y).ties,.str (yBW y).text,.bool !x_3.1.rd],.int .i64 x.2.2.2.2.2.2.2,.box 0 [.int .i64 x.2.2.2.2.2.2.1.kind,.str x.2.2.2.2.2.2.1.text,Ad x.2.2.2.2.2.2.1.kids,.bool x.2.2.2.2.2.2.1.blank],.int .i64 (AM x.1.rd (xC x)),.int .i64 (zI i+(1:Int))]) (inR IntKind.i64 (zI i+(1:Int))∧eN (Pa n x) i [.box 0 [nds x_2.1.ns,.int .i64 x_2.1.ind,AV.sl true 0 2 Ru ruA (yBW y).rules,AV.sl true 0 5 Ch chA (yBW y).chunks,AV.sl true 0 3 Sn snA (yBW y).spans,AV.sl true 0 2 Ti tiA (yBW y).ties,.str (yBW y).text,.bool !x_2.1.rd],.int .i64 x.2.2.2.2.2.2.2,.box 0 [.int .i64 x.2.2.2.2.2.2.1.kind,.str x.2.2.2.2.2.2.1.text,Ad x.2.2.2.2.2.2.1.kids,.bool x.2.2.2.2.2.2.1.blank],.int .i64 (AM x.1.rd (xC x)),.int .i64 (zI i+(1:Int))])) (rA (MY n) x [.tup [],.box 0 [nds x.1.ns,.int .i64 x.1.ind,AV.sl true 0 2 Ru ruA (zBW i).rules,AV.sl true 0 5 Ch chA (zBW i).chunks,AV.sl true 0 3 Sn snA (zBW i).spans,AV.sl true 0 2 Ti tiA (zBW i).ties,.str (zBW i).text,.bool !x.1.rd],.top,.top])) (fun x=>by kernel_rfl) fun(x:BC×List Ru×List Ch×List Sn×List Ti×List UInt8×Nd×Int) (hx:pxP x.1 n (xC x) x.2.2.2.2.2.2.1 x.2.2.2.2.2.2.2)=>(by
 dsimp only[cA,Bl,eA,eN,Ad,Bg,nds,Pa,SF,rA,Bj,MY,BQ,DU,Dt,IG,BR,Bm,suA,Bn,Aq,Aw,mvL,lnL,mvE,lnE,mvG,mvH,lnG,lnH,AZ]
 obtain⟨b,r,c,s,t,u,x,a⟩:=x;dsimp only[xC] at hx ⊢
 have hx:pxP b n ⟨r,c,s,t,u⟩ x a:=hx
 have h1:=hx.ar.1;have h2:=hx.pn.kl
 (repeat' first|(with_reducible first|rfl|exact True.intro|apply AG|apply And.intro|((first|apply Au|apply AE|apply Av|apply AF)<;>intro _))|(apply As<;>intro _)|apply AD|refine Af () ?_ ?_|((first|apply AK|apply AJ|apply AI|apply AH|apply AC|apply AB|apply AA|apply Az|apply Ax)<;>try dsimp only)|apply Af|(refine Prod.forall.2 ?_;intro _;try dsimp only)|(intro _;try dsimp only))
 all_goals(try(repeat(rename x.kids[_]? =some _=>hq;revert hq;rename x.kids[_]? =some _=>hr;intro hq;rw[hr] at hq;cases hq)))
 all_goals(try dsimp only[yBW,xC,zBW,zI,wB] at*)
 all_goals first
  |with_reducible rfl
  |with_reducible assumption
  |omega
  |exact CY hx.pn.rm
  |exact a4W hx.pn ‹_›
  |exact b6k ‹_› ‹_›
  |exact b6m ‹_› ‹_› ‹_›
  |exact b6n ‹_› ‹_› ‹_› ‹_› ‹_› ‹_›
  |exact b6p ‹_› hx ‹_›
  |exact b6q ‹_› ‹_› hx ‹_›
  |exact b6s ‹_› ‹_› hx ‹_› ‹_› ‹_›
  |exact b6t ‹_› ‹_› ‹_› hx ‹_› ‹_› ‹_›
  |exact b6u ‹_› hx.pn ‹_›
  |(have hq:=Sr (show pnI _ _ _ _ _ _ _ by assumption);(try have hk:=a5w hx ‹_›);(try simp only[Ai,List.length_cons,List.length_nil]);omega)
  |(have hq:=b6l ‹_› ‹_› ‹_›;have hq2:=(XD ‹_› ‹_›).2;dsimp only at hq;(try simp only[Ai,List.length_append,List.length_cons,List.length_nil]);omega)
  |(have hq:=b6r (show pxJ _ _ _ _ _ _ _ _ by assumption) hx.pn ‹_›;(try simp only[Ai]);omega)
  |(have hq:=b6o (show pxJ _ _ _ _ _ _ _ _ by assumption);dsimp only at hq;(try simp only[Ai]);omega)
  |exact()
  |rfl
  |skip)
end Go.My
end
section
namespace Go.My
open Go.Eng Go.Proofs
variable {G:GInv}
theorem a5y{ns:List Nd}{n:Nat}{s:Bs}{k a:Int}(h:vlP ns n s k a):ns[k.toNat]? =some (Aa ns k):=by
 have hr:=Bc.1 h.up.1
 have e:ns[k.toNat]? =some ns[k.toNat]:=List.getElem?_eq_getElem (by omega)
 rw[Bd e];exact e
theorem JH{ns:List Nd}{n:Nat}{s:Bs}{k a:Int}(h:vlP ns (n+1) s k a):kdP ns n (Aa ns k).kids:=fun c hc=>by
 have hm:=Cv h.up hc
 have:=h.lt
 exact⟨hm.1,by omega,Mv h.up h.vl hc⟩
theorem JI{ns:List Nd}{n:Nat}{s:Bs}{k a:Int}(h:vlP ns n s k a):(Aa ns k).kids.length≤12:=(Dc (Ed h.up)).2.1
theorem IH{ns:List Nd}{n:Nat}{s:Bs}{k a:Int}(h:vlP ns (n+1) s k a):bR ((Aa ns k).text.length+80+wL (tW ns n) (Aa ns k).kids) s:=h.rm
theorem XS{ns:List Nd}{n:Nat}{s:Bs}{k a:Int}(h:vlP ns n s k a)(h1:¬(Aa ns k).kind=1)(h2:¬(Aa ns k).kind=2)(h3:¬(Aa ns k).kind=3)(h4:¬(Aa ns k).kind=4):0<(Aa ns k).kids.length:=by
 have hv:=Br.1 h.vl
 have hlo:=(Iq h.up).2.1
 unfold Al at hv
 unfold CO at hlo
 split at hlo
 ·omega
 ·split at hlo
  ·simp only at hlo;omega
  ·split at hlo
   ·simp only at hlo;omega
   ·split at hlo
    ·simp only at hlo;omega
    ·split at hlo
     ·simp only at hlo;omega
     ·omega
theorem Ln{c:BC}{n:Nat}{s t:Bs}{k a d:Int}(h:vlP c.ns (n+1) s k a)(hd:(Aa c.ns k).kids[(0:Nat)]? =some d)(ht:bR ((Aa c.ns k).text.length+79+wL (tW c.ns n) (Aa c.ns k).kids) t):vlP c.ns n t d a∧∀ {o:Int} {u:Bs},BK c n t d a o u→bR ((Aa c.ns k).text.length+79+wL (tW c.ns n) ((Aa c.ns k).kids.drop 1)) u:=by
 have hk:=JH h d (AY hd)
 have e:wL (tW c.ns n) (Aa c.ns k).kids=tW c.ns n d+wL (tW c.ns n) ((Aa c.ns k).kids.drop 1):=by
  have:=Dq hd
  rw[List.drop_zero] at this
  conv=>lhs;rw[this]
  rw[De]
 have hp:vlP c.ns n t d a:=⟨hk.1,hk.2.1,hk.2.2,Dj ht (by omega),h.ar⟩
 exact⟨hp,fun {o u} hq=>Xw hp hq (Dj ht (by omega))⟩
theorem Lo{c:BC}{n:Nat}{s t:Bs}{k a:Int}(ht:t=bV1 c.ns c.rd (bV c.ns c.rd n) (Aa c.ns k) a s)(hk:¬(Aa c.ns k).kind=7)(hk2:¬(Aa c.ns k).kind=8):BK c (n+1) s k a (-1) t:=by
 refine⟨by rw[bV];exact ht,?_⟩
 rw[GF,if_neg (by intro hh;rcases hh with hh|hh;exact hk hh;exact hk2 hh)]
theorem XT{c:BC}{n:Nat}{s:Bs}{k a:Int}(hk:(Aa c.ns k).kind=1∨(Aa c.ns k).kind=2∨(Aa c.ns k).kind=3):BK c (n+1) s k a (-1) (Am (Aa c.ns k).text s):=
 Lo (by rw[bV1,if_pos hk]) (by omega) (by omega)
theorem a5z{c:BC}{n:Nat}{s:Bs}{k a:Int}(h:vlP c.ns (n+1) s k a):s.text.length+(Aa c.ns k).text.length+80≤2^61:=by
 have:=(IH h).2;unfold tot at this;omega
theorem a5A{c:BC}{n:Nat}{s:Bs}{k a:Int}(h:vlP c.ns (n+1) s k a):bR ((Aa c.ns k).text.length+79+wL (tW c.ns n) (Aa c.ns k).kids) (Am [40] s):=JD (IH h) (by show _+1≤_;omega)
theorem a5B{c:BC}{n:Nat}{s:Bs}{k a d:Int}(h:vlP c.ns (n+1) s k a)(hd:(Aa c.ns k).kids[(0:Nat)]? =some d):vlP c.ns n (Am [40] s) d a:=(Ln h hd (a5A h)).1
theorem a5C{c:BC}{n:Nat}{s u:Bs}{k a d o:Int}(h:vlP c.ns (n+1) s k a)(hu:BK c n (Am [40] s) d a o u)(hd:(Aa c.ns k).kids[(0:Nat)]? =some d):u.text.length+79≤2^61:=by
 have:=((Ln h hd (a5A h)).2 hu).2;unfold tot at this;omega
theorem a5D{c:BC}{n:Nat}{s:Bs}{k a d o:Int}{r1:List Ru}{r2:List Ch}{r3:List Sn}{r4:List Ti}{r5:List UInt8}(hu:BK c n (Am [40] s) d a o ⟨r1,r2,r3,r4,r5⟩)(hd:(Aa c.ns k).kids[(0:Nat)]? =some d)(hk:(Aa c.ns k).kind=11):BK c (n+1) s k a (-1) ⟨r1,r2,r3,r4,r5++[41]⟩:=
 Lo (by rw[bV1,if_neg (by omega),if_pos hk,Ct hd,←hu.1];rfl) (by omega) (by omega)
theorem Pb{c:BC}{n:Nat}{s:Bs}{k a:Int}(h:vlP c.ns (n+1) s k a):bR ((Aa c.ns k).text.length+79+wL (tW c.ns n) (Aa c.ns k).kids) s:=Dj (IH h) (by omega)
theorem a5E{c:BC}{n:Nat}{s:Bs}{k a d:Int}(h:vlP c.ns (n+1) s k a)(hd:(Aa c.ns k).kids[(0:Nat)]? =some d):vlP c.ns n s d a:=(Ln h hd (Pb h)).1
theorem a5F{c:BC}{n:Nat}{s u:Bs}{k a d o:Int}(h:vlP c.ns (n+1) s k a)(hu:BK c n s d a o u)(hd:(Aa c.ns k).kids[(0:Nat)]? =some d):u.text.length+(Aa c.ns k).text.length+79≤2^61:=by
 have:=((Ln h hd (Pb h)).2 hu).2;unfold tot at this;omega
theorem a5G{c:BC}{n:Nat}{s u:Bs}{k a d o:Int}(hu:BK c n s d a o u)(hd:(Aa c.ns k).kids[(0:Nat)]? =some d)(hk:(Aa c.ns k).kind=6):BK c (n+1) s k a (-1) (Am (46::(Aa c.ns k).text) u):=
 Lo (by rw[bV1,if_neg (by omega),if_neg (by omega),if_pos hk,Ct hd,hu.1]) (by omega) (by omega)
theorem a5H{c:BC}{n:Nat}{s:Bs}{k a:Int}(h:vlP c.ns (n+1) s k a):liP c n s [91] (Aa c.ns k).kids [93] a:=⟨JH h,JI h,by simp,by simp,Dj (IH h) (by omega),h.ar⟩
theorem a5I{c:BC}{n:Nat}{s u:Bs}{k a:Int}(hu:isB (Ee c.rd (bV c.ns c.rd n) [91] (Aa c.ns k).kids [93] a s) u)(hk:(Aa c.ns k).kind=4):BK c (n+1) s k a (-1) u:=
 Lo (by rw[bV1,if_neg (by omega),if_neg (by omega),if_neg (by omega),if_pos hk];exact hu) (by omega) (by omega)
theorem a5J{c:BC}{n:Nat}{s u:Bs}{k a d o:Int}(h:vlP c.ns (n+1) s k a)(hu:BK c n s d a o u)(hd:(Aa c.ns k).kids[(0:Nat)]? =some d):liP c n u [40] ((Aa c.ns k).kids.drop 1) [41] a:=
 ⟨fun e he=>JH h e (List.mem_of_mem_drop he),by have:=JI h;rw[List.length_drop];omega,by simp,by simp,Dj ((Ln h hd (Pb h)).2 hu) (by omega),h.ar⟩
theorem a5K{c:BC}{n:Nat}{s u v:Bs}{k a d o:Int}(hv:isB (Ee c.rd (bV c.ns c.rd n) [40] ((Aa c.ns k).kids.drop 1) [41] a u) v)(hu:BK c n s d a o u)(hd:(Aa c.ns k).kids[(0:Nat)]? =some d)(hk:(Aa c.ns k).kind=5):BK c (n+1) s k a (-1) v:=
 Lo (by rw[bV1,if_neg (by omega),if_neg (by omega),if_neg (by omega),if_neg (by omega),if_pos hk,Ct hd,←hu.1];exact hv) (by omega) (by omega)
theorem a5L{c:BC}{n:Nat}{s:Bs}{k a:Int}(h:vlP c.ns (n+1) s k a)(hk:(Aa c.ns k).kind=7):cnP c n s (Aa c.ns k) (min (a+4) 40):=⟨JH h,JI h,Wc h.up hk,Dj (IH h) (by omega),MR h.ar⟩
theorem a5M{c:BC}{n:Nat}{s u:Bs}{k a o:Int}(hu:cnQ c n s (Aa c.ns k) (min (a+4) 40) o u)(hk:(Aa c.ns k).kind=7):BK c (n+1) s k a o u:=by
 refine⟨?_,?_⟩
 ·rw[bV,bV1,if_neg (by omega),if_neg (by omega),if_neg (by omega),if_neg (by omega),if_neg (by omega),if_pos hk];exact hu.1
 ·rw[GF,if_pos (.inl hk)];exact hu.2
theorem a5N{c:BC}{n:Nat}{s:Bs}{k a:Int}(h:vlP c.ns (n+1) s k a)(hk:(Aa c.ns k).kind=8):pnP c n s (Aa c.ns k) (min (a+4) 40):=⟨JH h,by
 have hs:=(Iq h.up).2.2
 skip
 rw[hk] at hs
 have:(CO 8).2=3:=rfl
 omega,Dj (IH h) (by omega),MR h.ar⟩
theorem a5O{c:BC}{n:Nat}{s u:Bs}{k a o:Int}(hu:pnQ c n s (Aa c.ns k) (min (a+4) 40) o u)(hk:(Aa c.ns k).kind=8):BK c (n+1) s k a o u:=by
 refine⟨?_,?_⟩
 ·rw[bV,bV1,if_neg (by omega),if_neg (by omega),if_neg (by omega),if_neg (by omega),if_neg (by omega),if_neg (by omega),if_pos hk];exact hu.1
 ·rw[GF,if_pos (.inr hk)];exact hu.2
theorem b6w{ns:List Nd}{k:Int}(h:Bv ns k)(hk:(Aa ns k).kind=9):∀c∈(Aa ns k).kids,c∈(Aa ns k).kids.take ((Aa ns k).kids.length-1)→(Aa ns c).text.length≤30:=by
 intro c hc hm
 have hko:=(Dc (Ed h)).2.2.2.2.2.1
 rw[hk] at hko
 have hko:ED AX ((Aa ns k).kids.map (Al ns))=true:=hko
 unfold ED at hko
 split at hko
 ·rename_i l hl
  rw[Bool.and_eq_true,List.all_eq_true] at hko
  have h2:Al ns c∈((Aa ns k).kids.map (Al ns)).dropLast:=by
   rw[List.dropLast_eq_take,List.length_map,←List.map_take]
   exact List.mem_map.2 ⟨c,hm,rfl⟩
  have h3:=hko.2 _ h2
  simp [Dz] at h3
  have ht:=(Dc (Ed (Cv h hc).1)).2.2.1
  have h4:(Aa ns c).kind=1:=h3
  rw[h4] at ht
  exact QZ (by simpa [Dy] using ht)
 ·cases hko
theorem a5P{c:BC}{n:Nat}{s:Bs}{k a:Int}(h:vlP c.ns (n+1) s k a)(hk:(Aa c.ns k).kind=9):fnP c n s (Aa c.ns k) (min (a+4) 40):=⟨JH h,⟨XS h (by omega) (by omega) (by omega) (by omega),JI h⟩,b6w h.up hk,Dj (IH h) (by omega),MR h.ar⟩
theorem a5Q{c:BC}{n:Nat}{s u:Bs}{k a:Int}(hu:fnQ c n s (Aa c.ns k) (min (a+4) 40) u)(hk:(Aa c.ns k).kind=9):BK c (n+1) s k a (-1) u:=
 Lo (by rw[bV1,if_neg (by omega),if_neg (by omega),if_neg (by omega),if_neg (by omega),if_neg (by omega),if_neg (by omega),if_neg (by omega),if_pos hk];exact hu) (by omega) (by omega)
def vaF(c:BC)(n:Nat)(s:Bs)(a:Int):List Int→Int→Bs→Bs:=caF (bV c.ns c.rd n) (AM c.rd s) (up4 a)
def vaI(c:BC)(n:Nat)(s:Bs)(k a:Int)(i:Int)(t:Bs):Prop:=HS (vaF c n s a) (fun e=>3+tW c.ns n e) ((Aa c.ns k).kids.drop 1) 2 (bV c.ns c.rd n (kd (Aa c.ns k) 0) a (Be c.rd 2 1 s)) i t
theorem vaS{c:BC}{n:Nat}{s:Bs}{k a:Int}(h:vlP c.ns (n+1) s k a):lpS c.rd (vaF c n s a) (caS (bV c.ns c.rd n) (AM c.rd s) (up4 a)) (fun e=>3+tW c.ns n e) ((Aa c.ns k).kids.drop 1):=
 b5q (Sh fun e he=>JH h e (List.mem_of_mem_drop he))
theorem a5R{c:BC}{n:Nat}{s t:Bs}{k a d:Int}(ht:t=Be c.rd 2 1 s)(h:vlP c.ns (n+1) s k a)(hd:(Aa c.ns k).kids[(0:Nat)]? =some d):vlP c.ns n t d a:=by
 subst ht;exact(Ln h hd (HR (Pb h))).1
theorem a5S{c:BC}{n:Nat}{s t u:Bs}{k a d o:Int}(hu:BK c n t d a o u)(ht:t=Be c.rd 2 1 s)(h:vlP c.ns (n+1) s k a)(hd:(Aa c.ns k).kids[(0:Nat)]? =some d):vaI c n s k a 0 u:=by
 subst ht
 have h1:=(Ln h hd (HR (Pb h))).2 hu
 have h2:bR (wL (fun e=>3+tW c.ns n e) ((Aa c.ns k).kids.drop 1)+2) u:=by
  rw[OM];exact Dj h1 (by have:=JI h;rw[List.length_drop];omega)
 have e:bV c.ns c.rd n (kd (Aa c.ns k) 0) a (Be c.rd 2 1 s)=u:=by rw[Ct hd,hu.1]
 unfold vaI
 rw[e];exact Sb (F:=vaF c n s a) h2
theorem a5T{c:BC}{n:Nat}{s t:Bs}{k a i:Int}(h:vaI c n s k a i t):0≤i∧i≤((Aa c.ns k).kids.drop 1).length:=OL h
theorem a5U{c:BC}{n:Nat}{s:Bs}{k a:Int}(h:vlP c.ns (n+1) s k a):((Aa c.ns k).kids.drop 1).length≤12:=by have:=JI h;rw[List.length_drop];omega
theorem a5V{c:BC}{n:Nat}{s t:Bs}{k a i d:Int}(h:vaI c n s k a i t)(hd:((Aa c.ns k).kids.drop 1)[i.toNat]? =some d):bR (tW c.ns n d+5) t:=Dj (Sc h hd) (by omega)
theorem a5W{c:BC}{n:Nat}{s t:Bs}{k a i d:Int}(h:vaI c n s k a i t)(hd:((Aa c.ns k).kids.drop 1)[i.toNat]? =some d):bB t:=CY (a5V h hd)
theorem a5X{c:BC}{n:Nat}{s t u:Bs}{k a i d:Int}(h:vaI c n s k a i t)(hu:u=AU (AM c.rd s) 1 false (min (a+4) 40) t)(hd:((Aa c.ns k).kids.drop 1)[i.toNat]? =some d):bR (tW c.ns n d+4) u:=by
 subst hu;exact JE (a5V h hd) (by omega)
theorem a5Y{c:BC}{n:Nat}{s t u:Bs}{k a i d:Int}(h:vaI c n s k a i t)(hu:u=AU (AM c.rd s) 1 false (min (a+4) 40) t)(hd:((Aa c.ns k).kids.drop 1)[i.toNat]? =some d):u.text.length+4≤2^61:=by
 have:=(a5X h hu hd).2;unfold tot at this;omega
theorem a5Z{c:BC}{n:Nat}{s t u:Bs}{k a i d:Int}(h:vaI c n s k a i t)(hu:u=AU (AM c.rd s) 1 false (min (a+4) 40) t)(hx:vlP c.ns (n+1) s k a)(hd:((Aa c.ns k).kids.drop 1)[i.toNat]? =some d):vlP c.ns n (Am [46,46] u) d (min (a+4) 40):=by
 have hk:=JH hx d (List.mem_of_mem_drop (AY hd))
 exact⟨hk.1,hk.2.1,hk.2.2,JD (a5X h hu hd) (by show _+2≤_;omega),MR hx.ar⟩
theorem a6a{c:BC}{n:Nat}{s t u v:Bs}{k a i d o:Int}(h:vaI c n s k a i t)(hd:((Aa c.ns k).kids.drop 1)[i.toNat]? =some d)(hu:u=AU (AM c.rd s) 1 false (min (a+4) 40) t)(hv:BK c n (Am [46,46] u) d (min (a+4) 40) o v)(hx:vlP c.ns (n+1) s k a):vaI c n s k a (i+1) v:=by
 have:=OK (vaS hx) h hd
 subst hu
 rw[hv.1];exact this
theorem a6b{c:BC}{n:Nat}{s t:Bs}{k a i:Int}(h:vaI c n s k a i t)(hx:vlP c.ns (n+1) s k a)(hi:¬i<((Aa c.ns k).kids.drop 1).length)(hk:(Aa c.ns k).kind=10):BK c (n+1) s k a (-1) t:=
 Lo (by rw[bV1,if_neg (by omega),if_neg (by omega),if_neg (by omega),if_neg (by omega),if_neg (by omega),if_neg (by omega),if_neg (by omega),if_neg (by omega)];exact(MQ (vaS hx) h hi).1) (by omega) (by omega)
theorem b6x{c:BC}{n:Nat}{s:Bs}{k a:Int}(h:vlP c.ns n s k a)(hk:((((((((((¬(Aa c.ns k).kind=1∧¬(Aa c.ns k).kind=2)∧¬(Aa c.ns k).kind=3)∧¬(Aa c.ns k).kind=11)∧¬(Aa c.ns k).kind=6)∧¬(Aa c.ns k).kind=4)∧¬(Aa c.ns k).kind=5)∧¬(Aa c.ns k).kind=7)∧¬(Aa c.ns k).kind=8)∧¬(Aa c.ns k).kind=9)∧¬(Aa c.ns k).kind=10)):False:=by
 have hv:=Br.1 h.vl
 unfold Al at hv
 omega
attribute [local irreducible] vaI
def GM(n:Nat):Sig:= {X:=BC×List Ru×List Ch×List Sn×List Ti×List UInt8×Int×Int,args:=fun x=>[buA x.1 (xC x),.int .i64 x.2.2.2.2.2.2.1,.int .i64 x.2.2.2.2.2.2.2],pre:=fun x=>vlP x.1.ns (n+1) (xC x) x.2.2.2.2.2.2.1 x.2.2.2.2.2.2.2,Y:=Int×BT,post:=fun x y=>BK x.1 (n+1) (xC x) x.2.2.2.2.2.2.1 x.2.2.2.2.2.2.2 y.1 (yBW y.2),res:=fun x y=> .int .i64 y.1,outs:=fun x y=>[buA x.1 (yBW y.2),.top,.top],keep:=true}
def SG(n:Nat)(x:BC×List Ru×List Ch×List Sn×List Ti×List UInt8×Int×Int):LS:= {ι:=List Ru×List Ch×List Sn×List Ti×List UInt8×Int,inv:=fun i=>vaI x.1 n (xC x) x.2.2.2.2.2.2.1 x.2.2.2.2.2.2.2 (zI i) (zBW i),regs:=fun i=>[(0,buA x.1 (zBW i)),(7,.box 0 (ndA false (Aa x.1.ns x.2.2.2.2.2.2.1))),(8,.int .i64 (min (x.2.2.2.2.2.2.2+4) 40)),(9,.int .i64 (AM x.1.rd (xC x))),(132,Ad ((Aa x.1.ns x.2.2.2.2.2.2.1).kids.drop 1)),(133,.int .i64 ((Aa x.1.ns x.2.2.2.2.2.2.1).kids.drop 1).length),(134,.int .i64 (zI i))],als:=[],meas:=fun i=>((Aa x.1.ns x.2.2.2.2.2.2.1).kids.drop 1).length-(zI i).toNat}
def XU(n:Nat)(x:BC×List Ru×List Ch×List Sn×List Ti×List UInt8×Int×Int):LS:= {ι:=Unit,inv:=fun _=>(Aa x.1.ns x.2.2.2.2.2.2.1).kind=1∨(Aa x.1.ns x.2.2.2.2.2.2.1).kind=2∨(Aa x.1.ns x.2.2.2.2.2.2.1).kind=3,regs:=fun _=>[(0,buA x.1 (Am (Aa x.1.ns x.2.2.2.2.2.2.1).text (xC x)))],als:=[],meas:=fun _=>0}
def XV(n:Nat)(x:BC×List Ru×List Ch×List Sn×List Ti×List UInt8×Int×Int):LS:= {ι:=BT,inv:=fun i=>BK x.1 (n+1) (xC x) x.2.2.2.2.2.2.1 x.2.2.2.2.2.2.2 (-1) (yBW i),regs:=fun i=>[(0,buA x.1 (yBW i))],als:=[],meas:=fun _=>0}
def XW(n:Nat)(x:BC×List Ru×List Ch×List Sn×List Ti×List UInt8×Int×Int)(e:Nd)(x_1:(Ci n).X)(y:(Ci n).Y):Prop:=(↑((1:Nat)+List.length e.text):Int)≤IntKind.max IntKind.i64∧((↑(List.length (yBW y.2).text+List.length (#[(46:UInt8)].toList++e.text)):Int)≤IntKind.max IntKind.i64∧(true=true∧(eA (XV n x) [.box 0 [.int .i64 x_1.1.ind,AV.sl true 0 2 Ru ruA (yBW y.2).rules,AV.sl true 0 5 Ch chA (yBW y.2).chunks,AV.sl true 0 3 Sn snA (yBW y.2).spans,AV.sl true 0 2 Ti tiA (yBW y.2).ties,nds x_1.1.ns,.str ((yBW y.2).text++(#[(46:UInt8)].toList++e.text)),.bool x_1.1.rd]])))
def XX(n:Nat)(x:BC×List Ru×List Ch×List Sn×List Ti×List UInt8×Int×Int)(e:Nd):Prop:=(↑(List.length (xC x).text+List.length e.text):Int)≤IntKind.max IntKind.i64∧(true=true∧(eA (XU n x) [.box 0 [.int .i64 x.1.ind,AV.sl true 0 2 Ru ruA (xC x).rules,AV.sl true 0 5 Ch chA (xC x).chunks,AV.sl true 0 3 Sn snA (xC x).spans,AV.sl true 0 2 Ti tiA (xC x).ties,nds x.1.ns,.str ((xC x).text++e.text),.bool x.1.rd]]))
def SH(n:Nat)(x:BC×List Ru×List Ch×List Sn×List Ti×List UInt8×Int×Int)(e:Nd):Prop:=true=true∧(((XX n x e)∧(XX n x e))∧(∀(i:Unit),(Aa x.1.ns x.2.2.2.2.2.2.1).kind=(1:Int)∨(Aa x.1.ns x.2.2.2.2.2.2.1).kind=(2:Int)∨(Aa x.1.ns x.2.2.2.2.2.2.1).kind=(3:Int)→rA (GM n) x [.int .i64 (-1:Int),.box 0 [.int .i64 x.1.ind,AV.sl true 0 2 Ru ruA (Am (Aa x.1.ns x.2.2.2.2.2.2.1).text (xC x)).rules,AV.sl true 0 5 Ch chA (Am (Aa x.1.ns x.2.2.2.2.2.2.1).text (xC x)).chunks,AV.sl true 0 3 Sn snA (Am (Aa x.1.ns x.2.2.2.2.2.2.1).text (xC x)).spans,AV.sl true 0 2 Ti tiA (Am (Aa x.1.ns x.2.2.2.2.2.2.1).text (xC x)).ties,nds x.1.ns,.str (Am (Aa x.1.ns x.2.2.2.2.2.2.1).text (xC x)).text,.bool x.1.rd],.top,.top]))
theorem b6y(n:Nat)(hc:Ah G Go.Proofs.Tryz.prog 81 (Ci n)):Ah G Tryz.prog 81 (GM n):=
 vcFun_okP [(81,0,(Ci n)),(79,0,DG),(80,0,CX),(112,0,(JF n)),(113,0,(MS n)),(114,0,(MU n)),(115,0,(MV n))] [] false (fun x=>[(30,SG n x),(100007,XU n x),(100014,XV n x)]) Tryz.func81 rfl (by decide) ⟨hc,MN,MO,(b5s n hc),(b5v n hc),(b5y n hc),(b5C n hc),trivial⟩ (fun(x:BC×List Ru×List Ch×List Sn×List Ti×List UInt8×Int×Int)=>True∧((0:Int)≤x.2.2.2.2.2.2.1∧x.2.2.2.2.2.2.1<(↑(List.length x.1.ns):Int))∧∀(e:Nd),x.1.ns[Int.toNat x.2.2.2.2.2.2.1]? =some e→inR IntKind.i64 (x.2.2.2.2.2.2.2+(4:Int))∧Ab (e.kind==(1:Int)) (SH n x e) (Ab (e.kind==(2:Int)) (SH n x e) (Ab (e.kind==(3:Int)) (SH n x e) (Ab (e.kind==(11:Int)) ((↑(List.length (xC x).text+(1:Nat)):Int)≤IntKind.max IntKind.i64∧((0:Int)≤(0:Int)∧(0:Int)<(↑(List.length e.kids):Int))∧∀(e_1:Int),e.kids[(0:Nat)]? =some e_1→cA (Ci n) [.box 0 [.int .i64 x.1.ind,AV.sl true 0 2 Ru ruA (xC x).rules,AV.sl true 0 5 Ch chA (xC x).chunks,AV.sl true 0 3 Sn snA (xC x).spans,AV.sl true 0 2 Ti tiA (xC x).ties,nds x.1.ns,.str ((xC x).text++ #[(40:UInt8)].toList),.bool x.1.rd],.int .i64 e_1,.int .i64 x.2.2.2.2.2.2.2] fun x_1 y=>(↑(List.length (yBW y.2).text+(1:Nat)):Int)≤IntKind.max IntKind.i64∧rA (GM n) x [.int .i64 (-1:Int),.box 0 [.int .i64 x_1.1.ind,AV.sl true 0 2 Ru ruA (yBW y.2).rules,AV.sl true 0 5 Ch chA (yBW y.2).chunks,AV.sl true 0 3 Sn snA (yBW y.2).spans,AV.sl true 0 2 Ti tiA (yBW y.2).ties,nds x_1.1.ns,.str ((yBW y.2).text++ #[(41:UInt8)].toList),.bool x_1.1.rd],.top,.top]) (Ab (e.kind==(6:Int)) (((0:Int)≤(0:Int)∧(0:Int)<(↑(List.length e.kids):Int))∧∀(e_1:Int),e.kids[(0:Nat)]? =some e_1→cA (Ci n) [.box 0 [.int .i64 x.1.ind,AV.sl true 0 2 Ru ruA (xC x).rules,AV.sl true 0 5 Ch chA (xC x).chunks,AV.sl true 0 3 Sn snA (xC x).spans,AV.sl true 0 2 Ti tiA (xC x).ties,nds x.1.ns,.str (xC x).text,.bool x.1.rd],.int .i64 e_1,.int .i64 x.2.2.2.2.2.2.2] fun x_1 y=>true=true∧((XW n x e x_1 y)∧(XW n x e x_1 y))∧∀(i:BT),BK x.1 (n+(1:Nat)) (xC x) x.2.2.2.2.2.2.1 x.2.2.2.2.2.2.2 (-1:Int) (yBW i)→rA (GM n) x [.int .i64 (-1:Int),.box 0 [.int .i64 x.1.ind,AV.sl true 0 2 Ru ruA (yBW i).rules,AV.sl true 0 5 Ch chA (yBW i).chunks,AV.sl true 0 3 Sn snA (yBW i).spans,AV.sl true 0 2 Ti tiA (yBW i).ties,nds x.1.ns,.str (yBW i).text,.bool x.1.rd],.top,.top]) (Ab (e.kind==(4:Int)) (cA (JF n) [.box 0 [.int .i64 x.1.ind,AV.sl true 0 2 Ru ruA (xC x).rules,AV.sl true 0 5 Ch chA (xC x).chunks,AV.sl true 0 3 Sn snA (xC x).spans,AV.sl true 0 2 Ti tiA (xC x).ties,nds x.1.ns,.str (xC x).text,.bool x.1.rd],.str #[(91:UInt8)].toList,Ad e.kids,.str #[(93:UInt8)].toList,.int .i64 x.2.2.2.2.2.2.2] fun x_1 y=>rA (GM n) x [.int .i64 (-1:Int),.box 0 [.int .i64 x_1.1.ind,AV.sl true 0 2 Ru ruA (yBW y).rules,AV.sl true 0 5 Ch chA (yBW y).chunks,AV.sl true 0 3 Sn snA (yBW y).spans,AV.sl true 0 2 Ti tiA (yBW y).ties,nds x_1.1.ns,.str (yBW y).text,.bool x_1.1.rd],.top,.top]) (Ab (e.kind==(5:Int)) (((0:Int)≤(0:Int)∧(0:Int)<(↑(List.length e.kids):Int))∧∀(e_1:Int),e.kids[(0:Nat)]? =some e_1→cA (Ci n) [.box 0 [.int .i64 x.1.ind,AV.sl true 0 2 Ru ruA (xC x).rules,AV.sl true 0 5 Ch chA (xC x).chunks,AV.sl true 0 3 Sn snA (xC x).spans,AV.sl true 0 2 Ti tiA (xC x).ties,nds x.1.ns,.str (xC x).text,.bool x.1.rd],.int .i64 e_1,.int .i64 x.2.2.2.2.2.2.2] fun x_1 y=>((0:Int)≤(1:Int)∧((1:Int)≤(↑(List.length e.kids):Int)∧(↑(List.length e.kids):Int)≤(↑(List.length e.kids):Int)))∧cA (JF n) [.box 0 [.int .i64 x_1.1.ind,AV.sl true 0 2 Ru ruA (yBW y.2).rules,AV.sl true 0 5 Ch chA (yBW y.2).chunks,AV.sl true 0 3 Sn snA (yBW y.2).spans,AV.sl true 0 2 Ti tiA (yBW y.2).ties,nds x_1.1.ns,.str (yBW y.2).text,.bool x_1.1.rd],.str #[(40:UInt8)].toList,Ad (List.drop (1:Nat) e.kids),.str #[(41:UInt8)].toList,.int .i64 x.2.2.2.2.2.2.2] fun x_2 y=>rA (GM n) x [.int .i64 (-1:Int),.box 0 [.int .i64 x_2.1.ind,AV.sl true 0 2 Ru ruA (yBW y).rules,AV.sl true 0 5 Ch chA (yBW y).chunks,AV.sl true 0 3 Sn snA (yBW y).spans,AV.sl true 0 2 Ti tiA (yBW y).ties,nds x_2.1.ns,.str (yBW y).text,.bool x_2.1.rd],.top,.top]) (Ab (e.kind==(7:Int)) (cA (MS n) [.box 0 [.int .i64 x.1.ind,AV.sl true 0 2 Ru ruA (xC x).rules,AV.sl true 0 5 Ch chA (xC x).chunks,AV.sl true 0 3 Sn snA (xC x).spans,AV.sl true 0 2 Ti tiA (xC x).ties,nds x.1.ns,.str (xC x).text,.bool x.1.rd],.agg [.int .i64 e.kind,.str e.text,Ad e.kids,.bool e.blank],.int .i64 (min (x.2.2.2.2.2.2.2+(4:Int)) (40:Int))] fun x_1 y=>rA (GM n) x [.int .i64 y.1,.box 0 [.int .i64 x_1.1.ind,AV.sl true 0 2 Ru ruA (yBW y.2).rules,AV.sl true 0 5 Ch chA (yBW y.2).chunks,AV.sl true 0 3 Sn snA (yBW y.2).spans,AV.sl true 0 2 Ti tiA (yBW y.2).ties,nds x_1.1.ns,.str (yBW y.2).text,.bool x_1.1.rd],.top,.top]) (Ab (e.kind==(8:Int)) (cA (MU n) [.box 0 [.int .i64 x.1.ind,AV.sl true 0 2 Ru ruA (xC x).rules,AV.sl true 0 5 Ch chA (xC x).chunks,AV.sl true 0 3 Sn snA (xC x).spans,AV.sl true 0 2 Ti tiA (xC x).ties,nds x.1.ns,.str (xC x).text,.bool x.1.rd],.agg [.int .i64 e.kind,.str e.text,Ad e.kids,.bool e.blank],.int .i64 (min (x.2.2.2.2.2.2.2+(4:Int)) (40:Int))] fun x_1 y=>rA (GM n) x [.int .i64 y.1,.box 0 [.int .i64 x_1.1.ind,AV.sl true 0 2 Ru ruA (yBW y.2).rules,AV.sl true 0 5 Ch chA (yBW y.2).chunks,AV.sl true 0 3 Sn snA (yBW y.2).spans,AV.sl true 0 2 Ti tiA (yBW y.2).ties,nds x_1.1.ns,.str (yBW y.2).text,.bool x_1.1.rd],.top,.top]) (Ab (e.kind==(9:Int)) (cA (MV n) [.box 0 [.int .i64 x.1.ind,AV.sl true 0 2 Ru ruA (xC x).rules,AV.sl true 0 5 Ch chA (xC x).chunks,AV.sl true 0 3 Sn snA (xC x).spans,AV.sl true 0 2 Ti tiA (xC x).ties,nds x.1.ns,.str (xC x).text,.bool x.1.rd],.agg [.int .i64 e.kind,.str e.text,Ad e.kids,.bool e.blank],.int .i64 (min (x.2.2.2.2.2.2.2+(4:Int)) (40:Int))] fun x_1 y=>rA (GM n) x [.int .i64 (-1:Int),.box 0 [.int .i64 x_1.1.ind,AV.sl true 0 2 Ru ruA (yBW y).rules,AV.sl true 0 5 Ch chA (yBW y).chunks,AV.sl true 0 3 Sn snA (yBW y).spans,AV.sl true 0 2 Ti tiA (yBW y).ties,nds x_1.1.ns,.str (yBW y).text,.bool x_1.1.rd],.top,.top]) (Ab (e.kind==(10:Int)) (cA DG [.box 0 [.int .i64 x.1.ind,AV.sl true 0 2 Ru ruA (xC x).rules,AV.sl true 0 5 Ch chA (xC x).chunks,AV.sl true 0 3 Sn snA (xC x).spans,AV.sl true 0 2 Ti tiA (xC x).ties,nds x.1.ns,.str (xC x).text,.bool x.1.rd],.int .i64 (2:Int),.int .i64 (1:Int)] fun x_1 y=>((0:Int)≤(0:Int)∧(0:Int)<(↑(List.length e.kids):Int))∧∀(e_1:Int),e.kids[(0:Nat)]? =some e_1→cA (Ci n) [.box 0 [.int .i64 x_1.1.ind,AV.sl true 0 2 Ru ruA (yBW y).rules,AV.sl true 0 5 Ch chA (yBW y).chunks,AV.sl true 0 3 Sn snA (yBW y).spans,AV.sl true 0 2 Ti tiA (yBW y).ties,nds x_1.1.ns,.str (yBW y).text,.bool x_1.1.rd],.int .i64 e_1,.int .i64 x.2.2.2.2.2.2.2] fun x_2 y=>((0:Int)≤(1:Int)∧((1:Int)≤(↑(List.length e.kids):Int)∧(↑(List.length e.kids):Int)≤(↑(List.length e.kids):Int)))∧eA (SG n x) [.box 0 [.int .i64 x_2.1.ind,AV.sl true 0 2 Ru ruA (yBW y.2).rules,AV.sl true 0 5 Ch chA (yBW y.2).chunks,AV.sl true 0 3 Sn snA (yBW y.2).spans,AV.sl true 0 2 Ti tiA (yBW y.2).ties,nds x_2.1.ns,.str (yBW y.2).text,.bool x_2.1.rd],.box 0 [.int .i64 e.kind,.str e.text,Ad e.kids,.bool e.blank],.int .i64 (min (x.2.2.2.2.2.2.2+(4:Int)) (40:Int)),.int .i64 (AM x_1.1.rd (xC x_1)),Ad (List.drop (1:Nat) e.kids),.int .i64 (↑(List.length (List.drop (1:Nat) e.kids)):Int),.int .i64 (0:Int)]∧∀(i:List Ru×List Ch×List Sn×List Ti×List UInt8×Int),vaI x.1 n (xC x) x.2.2.2.2.2.2.1 x.2.2.2.2.2.2.2 (zI i) (zBW i)→Ab (decide (zI i<(↑(List.length (List.drop (1:Nat) (Aa x.1.ns x.2.2.2.2.2.2.1).kids)):Int))) (((0:Int)≤zI i∧zI i<(↑(List.length (List.drop (1:Nat) (Aa x.1.ns x.2.2.2.2.2.2.1).kids)):Int))∧∀(e:Int),(List.drop (1:Nat) (Aa x.1.ns x.2.2.2.2.2.2.1).kids)[Int.toNat (zI i)]? =some e→cA CX [.box 0 [.int .i64 x.1.ind,AV.sl true 0 2 Ru ruA (zBW i).rules,AV.sl true 0 5 Ch chA (zBW i).chunks,AV.sl true 0 3 Sn snA (zBW i).spans,AV.sl true 0 2 Ti tiA (zBW i).ties,nds x.1.ns,.str (zBW i).text,.bool x.1.rd],.int .i64 (AM x.1.rd (xC x)),.int .i64 (1:Int),.bool false,.int .i64 (min (x.2.2.2.2.2.2.2+(4:Int)) (40:Int))] fun x_3 y=>(↑(List.length (yBW y).text+(2:Nat)):Int)≤IntKind.max IntKind.i64∧cA (Ci n) [.box 0 [.int .i64 x_3.1.ind,AV.sl true 0 2 Ru ruA (yBW y).rules,AV.sl true 0 5 Ch chA (yBW y).chunks,AV.sl true 0 3 Sn snA (yBW y).spans,AV.sl true 0 2 Ti tiA (yBW y).ties,nds x_3.1.ns,.str ((yBW y).text++ #[(46:UInt8),(46:UInt8)].toList),.bool x_3.1.rd],.int .i64 e,.int .i64 (min (x.2.2.2.2.2.2.2+(4:Int)) (40:Int))] fun x_4 y=>inR IntKind.i64 (zI i+(1:Int))∧eN (SG n x) i [.box 0 [.int .i64 x_4.1.ind,AV.sl true 0 2 Ru ruA (yBW y.2).rules,AV.sl true 0 5 Ch chA (yBW y.2).chunks,AV.sl true 0 3 Sn snA (yBW y.2).spans,AV.sl true 0 2 Ti tiA (yBW y.2).ties,nds x_4.1.ns,.str (yBW y.2).text,.bool x_4.1.rd],.box 0 [.int .i64 (Aa x.1.ns x.2.2.2.2.2.2.1).kind,.str (Aa x.1.ns x.2.2.2.2.2.2.1).text,Ad (Aa x.1.ns x.2.2.2.2.2.2.1).kids,.bool (Aa x.1.ns x.2.2.2.2.2.2.1).blank],.int .i64 (min (x.2.2.2.2.2.2.2+(4:Int)) (40:Int)),.int .i64 (AM x.1.rd (xC x)),Ad (List.drop (1:Nat) (Aa x.1.ns x.2.2.2.2.2.2.1).kids),.int .i64 (↑(List.length (List.drop (1:Nat) (Aa x.1.ns x.2.2.2.2.2.2.1).kids)):Int),.int .i64 (zI i+(1:Int))]) (rA (GM n) x [.int .i64 (-1:Int),.box 0 [.int .i64 x.1.ind,AV.sl true 0 2 Ru ruA (zBW i).rules,AV.sl true 0 5 Ch chA (zBW i).chunks,AV.sl true 0 3 Sn snA (zBW i).spans,AV.sl true 0 2 Ti tiA (zBW i).ties,nds x.1.ns,.str (zBW i).text,.bool x.1.rd],.top,.top])) (rA (GM n) x [.int .i64 (-1:Int),.box 0 [.int .i64 x.1.ind,AV.sl true 0 2 Ru ruA (xC x).rules,AV.sl true 0 5 Ch chA (xC x).chunks,AV.sl true 0 3 Sn snA (xC x).spans,AV.sl true 0 2 Ti tiA (xC x).ties,nds x.1.ns,.str (xC x).text,.bool x.1.rd],.top,.top])))))))))))) (fun x=>by kernel_rfl) fun(x:BC×List Ru×List Ch×List Sn×List Ti×List UInt8×Int×Int) (hx:vlP x.1.ns (n+1) (xC x) x.2.2.2.2.2.2.1 x.2.2.2.2.2.2.2)=>(by
 dsimp only[SH,XX,XW,buA,cA,Bl,eA,eN,XU,XV,SG,Ad,Bg,nds,Cg,rA,Bj,MS,MV,JF,MU,DG,CX,Ci,GM,Bm,Bn,Aq,Aw,mvL,lnL,mvE,lnE,mvG,mvH,lnG,lnH,AZ]
 obtain⟨b,r,c,s,t,u,k,a⟩:=x;dsimp only[xC] at hx ⊢
 have hx:vlP b.ns (n+1) ⟨r,c,s,t,u⟩ k a:=hx
 have h1:=hx.ar;have hr:=Bc.1 hx.up.1
 have hz:=a5y hx
 simp only[hz,Option.some.injEq,forall_eq']
 (repeat' first|(with_reducible first|rfl|exact True.intro|apply AG|apply And.intro|((first|apply Au|apply AE|apply Av|apply AF)<;>intro _))|(apply As<;>intro _)|apply AD|refine Af () ?_ ?_|((first|apply AK|apply AJ|apply AI|apply AH|apply AC|apply AB|apply AA|apply Az|apply Ax)<;>try dsimp only)|apply Af|(refine Prod.forall.2 ?_;intro _;try dsimp only)|(intro _;try dsimp only))
 all_goals(try dsimp only[yBW,xC,zBW,zI,wB] at*)
 all_goals first
  |with_reducible rfl
  |exact XT (by omega)
  |exact XT ‹_›
  |omega
  |exact a5B hx ‹_›
  |exact a5D ‹_› ‹_› ‹_›
  |exact a5G ‹_› ‹_› ‹_›
  |exact a5E hx ‹_›
  |exact a5H hx
  |exact a5I ‹_› ‹_›
  |exact a5J hx ‹_› ‹_›
  |exact a5K ‹_› ‹_› ‹_› ‹_›
  |exact a5L hx ‹_›
  |exact a5M ‹_› ‹_›
  |exact a5N hx ‹_›
  |exact a5O ‹_› ‹_›
  |exact a5P hx ‹_›
  |exact a5Q ‹_› ‹_›
  |exact CY (IH hx)
  |exact a5R ‹_› hx ‹_›
  |exact a5S ‹_› ‹_› hx ‹_›
  |exact a5W ‹_› ‹_›
  |exact a5Z ‹_› ‹_› hx ‹_›
  |exact a6a ‹_› ‹_› ‹_› ‹_› hx
  |exact a6b ‹_› hx ‹_› ‹_›
  |(have hq:=a5z hx;dsimp only at hq;(try simp only[Ai,List.length_append,List.length_cons,List.length_nil]);omega)
  |(have hq:=a5C hx ‹_› ‹_›;dsimp only at hq;(try simp only[Ai,List.length_append,List.length_cons,List.length_nil]);omega)
  |(have hq:=a5F hx ‹_› ‹_›;dsimp only at hq;(try simp only[Ai,List.length_append,List.length_cons,List.length_nil]);omega)
  |(have hq:=a5T (show vaI _ _ _ _ _ _ _ by assumption);have hl:=a5U hx;(try simp only[Ai]);omega)
  |(have hq:=a5Y (show vaI _ _ _ _ _ _ _ by assumption) ‹_› ‹_›;dsimp only at hq;(try simp only[Ai,List.length_append,List.length_cons,List.length_nil]);omega)
  |(have hq:=XS hx ‹_› ‹_› ‹_› (by first|assumption|omega);have hl:=JI hx;(try simp only[Ai]);omega)
  |(exfalso;exact b6x hx (by omega))
  |exact()
  |rfl
  |skip)
theorem b6z:Ah G Go.Proofs.Tryz.prog 81 (Ci 0):=
 ⟨⟨⟨_,Go.Proofs.Tryz.func81,by kernel_rfl,by kernel_rfl⟩,fun x y _ _=>trivial⟩,fun x hx=>by
   exfalso
   have hx:vlP x.1.ns 0 (xC x) x.2.2.2.2.2.2.1 x.2.2.2.2.2.2.2:=hx
   have h1:=Bc.1 hx.up.1
   have h2:=hx.lt
   omega⟩
theorem XY:∀n,Ah G Go.Proofs.Tryz.prog 81 (Ci n)
 |0=>b6z
 |n+1=>b6y n (XY n)
end Go.My
end
