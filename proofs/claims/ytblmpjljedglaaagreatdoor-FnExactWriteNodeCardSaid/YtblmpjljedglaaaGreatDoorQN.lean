/- joined -/
import Derived.Test.YtblmpjljedglaaaGreatDoorQM
import Derived.Test.YtblmpjljedglaaaGreatDoorProg
import Derived.Carry
set_option linter.unusedSimpArgs false
set_option linter.unusedVariables false
section
namespace Go.My
open Go.Eng Go.Proofs
variable {G:GInv}
theorem b8e{n:Nat}:Ah G Go.Proofs.Tryz.prog 55 (HI n 0):=
 ⟨⟨⟨_,Go.Proofs.Tryz.func55,by kernel_rfl,by kernel_rfl⟩,fun x y _ _=>trivial⟩,fun x hx=>by
   exfalso
   have hx:ndP x.1 n 0 (xW x) x.2.2.2.1 x.2.2.2.2:=hx
   have h1:=Bc.1 hx.v.up.1
   have h2:=hx.v.lt
   omega⟩
theorem a6N{n:Nat}(hv:Ah G Go.Proofs.Tryz.prog 49 (BQ n)):∀m,Ah G Go.Proofs.Tryz.prog 55 (HI n m)
 |0=>b8e
 |m+1=>b7Y n m hv (a6N hv m)
theorem b8f{ns:List Nd}{n:Nat}{k i w bud:Int}(h:BM ns k=0∨inn i 0 40=false):wnR ns n k i w bud=⟨[],0⟩:=a6L (by
 rcases h with h|h
 ·exact .inr h
 ·exact .inl (.inr h))
theorem b8g{ns:List Nd}{n:Nat}{k i w bud:Int}{e:Nd}(he:ns[k.toNat]? =some e)(h:(e.kind=18∨e.kind=22)∨AX e.kind=true):wnR ns n k i w bud=⟨[],0⟩:=SI (by
 have:Fy (Al ns k)=false:=by
  rw[Eg he]
  cases ht:Fy e.kind with
  |false=>rfl
  |true=>
   exfalso
   have h2:=XM ht
   rcases h with h|h
   ·omega
   ·rw[h2.1] at h;cases h
 rw[FX,this];simp)
theorem b8h{ns:List Nd}{n:Nat}{k i w bud:Int}{e:Nd}(hd:¬BM ns k=0)(hi:inn i 0 40=true)(he:ns[k.toNat]? =some e)(h1:¬e.kind=18)(h2:¬e.kind=22)(h3:AX e.kind=false):FX ns k i=true:=by
 have hup:=HX hd
 have hk:=(HY hup).1
 have e2:(Aa ns k).kind=e.kind:=by rw[Br he]
 rw[e2] at hk
 have:Fy (Al ns k)=true:=by
  rw[Eg he]
  have hv:¬(1≤e.kind∧e.kind≤11):=fun hh=>by rw[AX,BA.2 hh] at h3;cases h3
  have:e.kind=12∨e.kind=13∨e.kind=14∨e.kind=15∨e.kind=16∨e.kind=17∨e.kind=19∨e.kind=20∨e.kind=21:=by omega
  rcases this with e|e|e|e|e|e|e|e|e<;>rw[e]<;>rfl
 rw[FX,hup.1,hi,this,decide_eq_false hd];rfl
def SK(n:Nat):Sig:= {X:=List Nd×Int×Int×Int×Int,args:=fun x=>[nds x.1,.int .i64 x.2.1,.int .i64 x.2.2.1,.int .i64 x.2.2.2.1,.int .i64 x.2.2.2.2],pre:=fun x=>trN x.1 n,Y:=Unit,post:=fun x y=>True,res:=fun x y=> .agg [Cu (wnR x.1 n x.2.1 x.2.2.1 x.2.2.2.1 x.2.2.2.2).ls,.int .i64 (wnR x.1 n x.2.1 x.2.2.1 x.2.2.2.1 x.2.2.2.2).st],outs:=fun x y=>[.top,.top,.top,.top,.top],keep:=false}
def b8i(n:Nat)(x:List Nd×Int×Int×Int×Int):LS:= {ι:=Unit,inv:=fun _=>True,regs:=fun _=>[(10,.box 0 [Cu (wnR x.1 n x.2.1 x.2.2.1 x.2.2.2.1 x.2.2.2.2).ls,.int .i64 (wnR x.1 n x.2.1 x.2.2.1 x.2.2.2.1 x.2.2.2.2).st])],als:=[],meas:=fun _=>0}
theorem b8j(n:Nat)(hv:Ah G Go.Proofs.Tryz.prog 49 (BQ n)):Ah G Tryz.prog 21 (SK n):=
 vcFun_okP [(44,0,FL),(45,0,Bz),(34,0,Ea),(55,0,(HI n n))] [(42,⟨List UInt8,Ag⟩)] false (fun x=>[(100005,b8i n x)]) Tryz.func21 rfl (by decide) ⟨Vq,GN,Qp,(a6N hv n),trivial⟩ (fun(x:List Nd×Int×Int×Int×Int)=>(∀(y:Unit),True→((∀(x:List UInt8),True∧True)∧True∧True)∧True∧True∧True∧True∧True∧True)∧cA FL [nds x.1,.int .i64 x.2.1] fun x_1 y=>Ab (BM x_1.1 x_1.2==(0:Int)) (∃(y:Unit),True∧AV.sl true 0 1 (List UInt8) Ag []=AV.sl true 0 1 (List UInt8) Ag (wnR x.1 n x.2.1 x.2.2.1 x.2.2.2.1 x.2.2.2.2).ls∧(0:Int)=(wnR x.1 n x.2.1 x.2.2.1 x.2.2.2.1 x.2.2.2.2).st∧True) (cA Bz [.int .i64 x.2.2.1,.int .i64 (0:Int),.int .i64 (40:Int)] fun x_2 y=>Ab (!inn x_2.1 x_2.2.1 x_2.2.2) (∃(y:Unit),True∧AV.sl true 0 1 (List UInt8) Ag []=AV.sl true 0 1 (List UInt8) Ag (wnR x.1 n x.2.1 x.2.2.1 x.2.2.2.1 x.2.2.2.2).ls∧(0:Int)=(wnR x.1 n x.2.1 x.2.2.1 x.2.2.2.1 x.2.2.2.2).st∧True) (((0:Int)≤x.2.1∧x.2.1<(↑(List.length x.1):Int))∧∀(e:Nd),x.1[Int.toNat x.2.1]? =some e→Ab (e.kind==(18:Int)) (∃(y:Unit),True∧AV.sl true 0 1 (List UInt8) Ag []=AV.sl true 0 1 (List UInt8) Ag (wnR x.1 n x.2.1 x.2.2.1 x.2.2.2.1 x.2.2.2.2).ls∧(0:Int)=(wnR x.1 n x.2.1 x.2.2.1 x.2.2.2.1 x.2.2.2.2).st∧True) (((0:Int)≤x.2.1∧x.2.1<(↑(List.length x.1):Int))∧∀(e:Nd),x.1[Int.toNat x.2.1]? =some e→Ab (e.kind==(22:Int)) (∃(y:Unit),True∧AV.sl true 0 1 (List UInt8) Ag []=AV.sl true 0 1 (List UInt8) Ag (wnR x.1 n x.2.1 x.2.2.1 x.2.2.2.1 x.2.2.2.2).ls∧(0:Int)=(wnR x.1 n x.2.1 x.2.2.1 x.2.2.2.1 x.2.2.2.2).st∧True) (((0:Int)≤x.2.1∧x.2.1<(↑(List.length x.1):Int))∧∀(e:Nd),x.1[Int.toNat x.2.1]? =some e→cA Ea [.int .i64 e.kind] fun x_3 y=>Ab (AX x_3) (∃(y:Unit),True∧AV.sl true 0 1 (List UInt8) Ag []=AV.sl true 0 1 (List UInt8) Ag (wnR x.1 n x.2.1 x.2.2.1 x.2.2.2.1 x.2.2.2.2).ls∧(0:Int)=(wnR x.1 n x.2.1 x.2.2.1 x.2.2.2.1 x.2.2.2.2).st∧True) (∃(x_4:WC×List (List UInt8)×Int×Int×Int),ndP x_4.1 n n (xW x_4) x_4.2.2.2.1 x_4.2.2.2.2∧nds x.1=nds x_4.1.ns∧x.2.2.2.1=x_4.1.w∧x.2.2.2.2=x_4.1.bud∧AV.sl true 0 1 (List UInt8) Ag []=AV.sl true 0 1 (List UInt8) Ag (xW x_4).ls∧(1:Int)=(xW x_4).st∧x.2.1=x_4.2.2.2.1∧x.2.2.1=x_4.2.2.2.2∧∀(y:List (List UInt8)×Int),AR (wN x_4.1 n n x_4.2.2.2.1 x_4.2.2.2.2 (xW x_4)) (yW y)→true=true∧((true=true∧(∃(i:Unit),True∧((AV.sl true 0 1 (List UInt8) Ag (yW y).ls=AV.sl true 0 1 (List UInt8) Ag (wnR x.1 n x.2.1 x.2.2.1 x.2.2.2.1 x.2.2.2.2).ls∧(yW y).st=(wnR x.1 n x.2.1 x.2.2.1 x.2.2.2.1 x.2.2.2.2).st∧True)∧True)))∧(true=true∧(∃(i:Unit),True∧((AV.sl true 0 1 (List UInt8) Ag (yW y).ls=AV.sl true 0 1 (List UInt8) Ag (wnR x.1 n x.2.1 x.2.2.1 x.2.2.2.1 x.2.2.2.2).ls∧(yW y).st=(wnR x.1 n x.2.1 x.2.2.1 x.2.2.2.1 x.2.2.2.2).st∧True)∧True))))∧∀(i:Unit),True→∃(y:Unit),True∧AV.sl true 0 1 (List UInt8) Ag (wnR x.1 n x.2.1 x.2.2.1 x.2.2.2.1 x.2.2.2.2).ls=AV.sl true 0 1 (List UInt8) Ag (wnR x.1 n x.2.1 x.2.2.1 x.2.2.2.1 x.2.2.2.2).ls∧(wnR x.1 n x.2.1 x.2.2.1 x.2.2.2.1 x.2.2.2.2).st=(wnR x.1 n x.2.1 x.2.2.1 x.2.2.2.1 x.2.2.2.2).st∧True)))))) (fun x=>by kernel_rfl) fun(x:List Nd×Int×Int×Int×Int) (hx:trN x.1 n)=>(by
 dsimp only[cA,Bi,nds,Bz,Ea,FL,Aq,Aw,mvL,lnL,mvE,lnE,mvG,mvH,lnG,lnH]
 obtain⟨ns,k,i,w,bud⟩:=x;dsimp only at hx ⊢
 have hx:trN ns n:=hx
 (repeat' first|refine a6M ⟨ns,w,bud⟩ ?_|(with_reducible first|rfl|exact True.intro|apply AG|apply And.intro|((first|apply Au|apply AE|apply Av|apply AF)<;>intro _))|(apply As<;>intro _)|apply AD|refine Af () ?_ ?_|((first|apply AK|apply AJ|apply AI|apply AH|apply AC|apply AB|apply AA|apply Az|apply Ax)<;>try dsimp only)|apply Af|(refine Prod.forall.2 ?_;intro _;try dsimp only)|(intro _;try dsimp only))
 all_goals(try(repeat(rename ns[_]? =some _=>hq;revert hq;rename ns[_]? =some _=>hr;intro hq;rw[hr] at hq;cases hq)))
 all_goals(try(have hkk:=Bc.1 (HX (show BM ns k≠0 by assumption)).1))
 all_goals(try(have hF:= @b8f ns n k i w bud (by first|exact .inl ‹_› |exact .inr ‹_›)))
 all_goals(try(have hF:= @b8g ns n k i w bud _ ‹_› (by first|exact .inl (.inl ‹_›)|exact .inl (.inr ‹_›)|exact .inr ‹_›)))
 all_goals(try(have hT:= @b8h ns n k i w bud _ ‹_› ‹_› ‹_› ‹_› ‹_› ‹_›))
 all_goals first
  |with_reducible rfl
  |omega
  |exact hx.ok
  |exact hx.l30
  |(rw[hF];done)
  |exact Ye hx hT
  |exact congrArg Ws.ls (SJ hT ‹_›)
  |exact congrArg Ws.st (SJ hT ‹_›)
  |exact hx.ok.1
  |exact()
  |rfl
  |skip)
def Ll:Sig:= {X:=List Int×Int,args:=fun x=>[Ad x.1,.int .i64 x.2],pre:=fun x=> -1≤x.2∧x.2≤2^50∧x.1.length<2^63,Y:=Unit,post:=fun x y=>True,res:=fun x y=> .int .i64 (FF x.1 x.2),outs:=fun x y=>[.top,.top],keep:=false}
theorem b8k:Ah G Tryz.prog 91 Ll:=
 vcFun_okP [] [] false (fun x=>[]) Tryz.func91 rfl (by decide) trivial (fun(x:List Int×Int)=>(∀(y:Unit),True→True∧True∧True∧True)∧inR IntKind.i64 (x.2-(↑(List.length x.1):Int))∧Ab (decide (x.2-(↑(List.length x.1):Int)<(0:Int))) (rA Ll x [.int .i64 (-1:Int),.top,.top]) (rA Ll x [.int .i64 (x.2-(↑(List.length x.1):Int)),.top,.top])) (fun x=>by kernel_rfl) fun(x:List Int×Int) (hx: -1≤x.2∧x.2≤2^50∧x.1.length<2^63)=>(by
 dsimp only[Ad,rA,Ll,Aq,Aw]
 obtain⟨h1,h2,h3⟩:=hx
 (repeat' first|(with_reducible first|rfl|exact True.intro|apply AG|apply And.intro|((first|apply Au|apply AE|apply Av|apply AF)<;>intro _))|(apply As<;>intro _)|apply AD|refine Af () ?_ ?_|((first|apply AK|apply AJ|apply AI|apply AH|apply AC|apply AB|apply AA|apply Az|apply Ax)<;>try dsimp only)|apply Af|(refine Prod.forall.2 ?_;intro _;try dsimp only)|(intro _;try dsimp only))<;>(try dsimp only at*)<;>(try simp only[Aj,List.length_cons,List.length_nil])<;>(try omega)<;>unfold FF<;>split<;>omega)
def JG:Sig:= {X:=Nd×Int,args:=fun x=>[.agg (ndA false x.1),.int .i64 x.2],pre:=fun x=> -1≤x.2∧x.2≤2^50∧GK x.1,Y:=Unit,post:=fun x y=>True,res:=fun x y=> .int .i64 (Fa x.1 x.2),outs:=fun x y=>[.top,.top],keep:=false}
theorem b8l:Ah G Tryz.prog 54 JG:=
 vcFun_okP [(91,0,Ll)] [] false (fun x=>[]) Tryz.func54 rfl (by decide) ⟨b8k,trivial⟩ (fun(x:Nd×Int)=>(∀(y:Unit),True→True∧True∧True∧True)∧inR IntKind.i64 (x.2-(↑(List.length x.1.text):Int))∧Ab (decide (x.2-(↑(List.length x.1.text):Int)<(0:Int))) (rA JG x [.int .i64 (-1:Int),.top,.top]) (cA Ll [Ad x.1.kids,.int .i64 (x.2-(↑(List.length x.1.text):Int))] fun x_1 y=>Ab (decide (FF x_1.1 x_1.2<(0:Int))) (rA JG x [.int .i64 (-1:Int),.top,.top]) (rA JG x [.int .i64 (FF x_1.1 x_1.2),.top,.top]))) (fun x=>by kernel_rfl) fun(x:Nd×Int) (hx: -1≤x.2∧x.2≤2^50∧GK x.1)=>(by
 dsimp only[cA,Ad,Bi,rA,Ll,JG,Aq,Aw,mvL,lnL,mvE,lnE,mvG,mvH,lnG,lnH]
 obtain⟨h1,h2,h3,h4⟩:=hx
 (repeat' first|(with_reducible first|rfl|exact True.intro|apply AG|apply And.intro|((first|apply Au|apply AE|apply Av|apply AF)<;>intro _))|(apply As<;>intro _)|apply AD|refine Af () ?_ ?_|((first|apply AK|apply AJ|apply AI|apply AH|apply AC|apply AB|apply AA|apply Az|apply Ax)<;>try dsimp only)|apply Af|(refine Prod.forall.2 ?_;intro _;try dsimp only)|(intro _;try dsimp only))<;>(try dsimp only at*)<;>(try simp only[Aj,List.length_cons,List.length_nil])<;>(try omega)
 ·simp [Fa, *]
 ·rename_i h _ _ h';unfold Fa;rw[if_neg h]
  have:= @ZR x.1.kids (x.2-x.1.text.length) (by omega);omega
 ·rename_i h _ _ h';simp [Fa,h])
def SL(x:List Nd×Int):LS:= {
 ι:=Int×Int,inv:=fun i=>0≤i.1∧i.1≤x.1.length∧ -1≤i.2∧i.2≤2^50∧Fq (x.1.drop i.1.toNat) i.2=DF x.1 x.2,
 regs:=fun i=>[(0,nds x.1),(1,.int .i64 i.2),(5,.int .i64 i.1)],als:=[],meas:=fun i=>x.1.length-i.1.toNat}
def JH:Sig:= {X:=List Nd×Int,args:=fun x=>[nds x.1,.int .i64 x.2],pre:=fun x=> -1≤x.2∧x.2≤2^50∧Gl x.1,Y:=Unit,post:=fun x y=>True,res:=fun x y=> .int .i64 (DF x.1 x.2),outs:=fun x y=>[.top,.top],keep:=false}
theorem b8m:Ah G Tryz.prog 20 JH:=
 vcFun_okP [(54,0,JG)] [] false (fun x=>[(5,SL x)]) Tryz.func20 rfl (by decide) ⟨b8l,trivial⟩ (fun(x:List Nd×Int)=>(∀(y:Unit),True→True∧True∧True∧True)∧inR IntKind.i64 (x.2-(↑(List.length x.1):Int))∧Ab (decide (x.2-(↑(List.length x.1):Int)<(0:Int))) (rA JH x [.int .i64 (-1:Int),.top,.top]) (eA (SL x) [nds x.1,.int .i64 (x.2-(↑(List.length x.1):Int)),.int .i64 (0:Int)]∧∀(i:Int×Int),(0:Int)≤i.1∧i.1≤(↑(List.length x.1):Int)∧(-1:Int)≤i.2∧i.2≤(2:Int)^(50:Nat)∧Fq (List.drop (Int.toNat i.1) x.1) i.2=DF x.1 x.2→Ab (decide (i.1<(↑(List.length x.1):Int))) (((0:Int)≤i.1∧i.1<(↑(List.length x.1):Int))∧∀(e:Nd),x.1[Int.toNat i.1]? =some e→cA JG [.agg [.int .i64 e.kind,.str e.text,Ad e.kids,.bool e.blank],.int .i64 i.2] fun x_1 y=>Ab (decide (Fa x_1.1 x_1.2<(0:Int))) (rA JH x [.int .i64 (-1:Int),.top,.top]) (inR IntKind.i64 (i.1+(1:Int))∧eN (SL x) i [nds x.1,.int .i64 (Fa x_1.1 x_1.2),.int .i64 (i.1+(1:Int))])) (rA JH x [.int .i64 i.2,.top,.top]))) (fun x=>by kernel_rfl) fun(x:List Nd×Int) (hx: -1≤x.2∧x.2≤2^50∧Gl x.1)=>(by
 dsimp only[cA,eA,eN,Ad,SL,Bi,nds,rA,JG,JH,Aq,Aw,mvL,lnL,mvE,lnE,mvG,mvH,lnG,lnH,Ba]
 obtain⟨h1,h2,h3,h4⟩:=hx;obtain⟨l,n⟩:=x
 (repeat' first|(with_reducible first|rfl|exact True.intro|apply AG|apply And.intro|((first|apply Au|apply AE|apply Av|apply AF)<;>intro _))|(apply As<;>intro _)|apply AD|refine Af () ?_ ?_|((first|apply AK|apply AJ|apply AI|apply AH|apply AC|apply AB|apply AA|apply Az|apply Ax)<;>try dsimp only)|apply Af|(refine Prod.forall.2 ?_;intro _;try dsimp only)|(intro _;try dsimp only))<;>(try dsimp only at*)<;>(try simp only[Aj,List.length_cons,List.length_nil])<;>(try omega)
 all_goals try simp only at*
 ·simp [DF, *]
 ·simp [DF, *]
 ·rename_i h0 i s hi h e he _ _ hs
  rw[←hi.2.2.2.2,Dm he];simp [Fq,hs]
 ·rename_i h0 i s hi h e he _ _ hs
  have:= @UN e s hi.2.2.1;omega
 ·rename_i h0 i s hi h e he _ _ hs
  rw[←hi.2.2.2.2,Dm he,BG hi.1];simp [Fq,hs]
 ·rename_i h0 i s hi h e he
  exact h4 e (AZ he)
 ·rename_i h0 i s hi h
  rw[←hi.2.2.2.2,List.drop_eq_nil_of_le (by omega)];rfl)
def SM(x:List Int):LS:= {
 ι:=Int,inv:=fun i=>0≤i∧i≤x.length,regs:=fun i=>[(0,Ad x),(3,AW (Du 0 x i)),(4,.int .i64 i)],als:=[],meas:=fun i=>x.length-i.toNat}
def Na:Sig:= {X:=List Int,args:=fun x=>[Ad x],pre:=fun x=>x.length≤2^30,Y:=Unit,post:=fun x y=>True,res:=fun x y=>AW x,outs:=fun x y=>[.top],keep:=false}
theorem b8n:Ah G Tryz.prog 97 Na:=
 vcFun_okP [] [(38,⟨Int,Cw⟩)] false (fun x=>[(3,SM x)]) Tryz.func97 rfl (by decide) trivial (fun(x:List Int)=>(∀(y:Unit),True→(∀(x:Int),True∧True)∧True∧True)∧((0:Int)≤(↑(List.length x):Int)∧(↑(List.length x):Int)≤(↑(List.length x):Int)∧(↑(8:Nat):Int)*(↑(List.length x):Int)≤(2:Int)^(46:Nat)∧(↑(List.length x):Int)≤(2:Int)^(46:Nat))∧∃(x_1:Int),(0:Int)=x_1∧eA (SM x) [Ad x,AW (List.replicate (Int.toNat (↑(List.length x):Int)) x_1),.int .i64 (0:Int)]∧∀(i:Int),(0:Int)≤i∧i≤(↑(List.length x):Int)→Ab (decide (i<(↑(List.length x):Int))) (((0:Int)≤i∧i<(↑(List.length x):Int))∧∀(e:Int),x[Int.toNat i]? =some e→((0:Int)≤i∧i<(↑(List.length (Du (0:Int) x i)):Int))∧Int.toNat i<List.length (Du (0:Int) x i)∧∀(x_2:Int),(Du (0:Int) x i)[Int.toNat i]? =some x_2→∃(x':Int),((@List.nil AV)=[]∧(@List.nil AV)=[])∧e=x'∧inR IntKind.i64 (i+(1:Int))∧eN (SM x) i [Ad x,AW (List.set (Du (0:Int) x i) (Int.toNat i) x'),.int .i64 (i+(1:Int))]) (rA Na x [AW (Du (0:Int) x i),.top])) (fun x=>by kernel_rfl) fun(x:List Int) (hx:x.length≤2^30)=>(by
 dsimp only[eA,eN,Ad,SM,AW,rA,Na,Aq,Aw,Ba]
 have hx:x.length≤2^30:=hx
 (repeat' first|(with_reducible first|rfl|exact True.intro|apply AG|apply And.intro|((first|apply Au|apply AE|apply Av|apply AF)<;>intro _))|(apply As<;>intro _)|apply AD|refine Af () ?_ ?_|((first|apply AK|apply AJ|apply AI|apply AH|apply AC|apply AB|apply AA|apply Az|apply Ax)<;>try dsimp only)|apply Af|(refine Prod.forall.2 ?_;intro _;try dsimp only)|(intro _;try dsimp only))<;>(try dsimp only at*)<;>(try simp only[Aj,List.length_cons,List.length_nil])<;>(try omega)
 ·exact a8G
 ·rw[PS (by omega)];omega
 ·rw[PS (by omega)];omega
 ·rename_i i hi h e he _ _
  exact ZP hi.1 he
 ·exact ZO (by omega))
def SN:Sig:= {X:=Nd,args:=fun x=>[.agg (ndA false x)],pre:=fun x=>x.kids.length≤2^30,Y:=Unit,post:=fun x y=>True,res:=fun x y=> .agg (ndA true x),outs:=fun x y=>[.top],keep:=false}
theorem b8o:Ah G Tryz.prog 56 SN:=
 vcFun_okP [(97,0,Na)] [] false (fun x=>[]) Tryz.func56 rfl (by decide) ⟨b8n,trivial⟩ (fun(x:Nd)=>(∀(y:Unit),True→(True∧True∧(∀(x:Int),True∧True)∧True∧True)∧True∧True)∧cA Na [Ad x.kids] fun x_1 y=>∃(y:Unit),True∧x.kind=x.kind∧x.text=x.text∧AW x_1=AW x.kids∧x.blank=x.blank∧True) (fun x=>by kernel_rfl) fun(x:Nd) (hx:x.kids.length≤2^30)=>(by
 dsimp only[cA,Ad,AW,Na,Aq,Aw,mvL,lnL,mvE,lnE,mvG,mvH,lnG,lnH]
 have hx:x.kids.length≤2^30:=hx
 (repeat' first|(with_reducible first|rfl|exact True.intro|apply AG|apply And.intro|((first|apply Au|apply AE|apply Av|apply AF)<;>intro _))|(apply As<;>intro _)|apply AD|refine Af () ?_ ?_|((first|apply AK|apply AJ|apply AI|apply AH|apply AC|apply AB|apply AA|apply Az|apply Ax)<;>try dsimp only)|apply Af|(refine Prod.forall.2 ?_;intro _;try dsimp only)|(intro _;try dsimp only))<;>(try dsimp only at*)<;>(try simp only[Aj,List.length_cons,List.length_nil])<;>(try omega))
def SO(x:List Nd):LS:= {
 ι:=Int,inv:=fun i=>0≤i∧i≤x.length,regs:=fun i=>[(0,nds x),(3,DM (Du ⟨0,[],[],false⟩ x i)),(4,.int .i64 i)],als:=[],meas:=fun i=>x.length-i.toNat}
def IA:Sig:= {X:=List Nd,args:=fun x=>[nds x],pre:=fun x=>x.length≤2^30∧∀e∈x,e.kids.length≤2^30,Y:=Unit,post:=fun x y=>True,res:=fun x y=>DM x,outs:=fun x y=>[.top],keep:=false}
theorem b8p:Ah G Tryz.prog 22 IA:=
 vcFun_okP [(56,0,SN)] [(24,⟨Nd,ndA true⟩)] false (fun x=>[(3,SO x)]) Tryz.func22 rfl (by decide) ⟨b8o,trivial⟩ (fun(x:List Nd)=>(∀(y:Unit),True→(∀(x:Nd),True∧True∧(∀(x:Int),True∧True)∧True∧True)∧True∧True)∧((0:Int)≤(↑(List.length x):Int)∧(↑(List.length x):Int)≤(↑(List.length x):Int)∧(↑(56:Nat):Int)*(↑(List.length x):Int)≤(2:Int)^(46:Nat)∧(↑(List.length x):Int)≤(2:Int)^(46:Nat))∧∃(x_1:Nd),(0:Int)=x_1.kind∧ #[].toList=x_1.text∧x_1.kids=[]∧false=x_1.blank∧eA (SO x) [nds x,DM (List.replicate (Int.toNat (↑(List.length x):Int)) x_1),.int .i64 (0:Int)]∧∀(i:Int),(0:Int)≤i∧i≤(↑(List.length x):Int)→Ab (decide (i<(↑(List.length x):Int))) (((0:Int)≤i∧i<(↑(List.length x):Int))∧∀(e:Nd),x[Int.toNat i]? =some e→cA SN [.agg [.int .i64 e.kind,.str e.text,Ad e.kids,.bool e.blank]] fun x_2 y=>((0:Int)≤i∧i<(↑(List.length (Du {kind:=(0:Int),text:=[],kids:=[],blank:=false} x i)):Int))∧Int.toNat i<List.length (Du {kind:=(0:Int),text:=[],kids:=[],blank:=false} x i)∧∀(x_3:Nd),(Du {kind:=(0:Int),text:=[],kids:=[],blank:=false} x i)[Int.toNat i]? =some x_3→∃(x':Nd),((@List.nil AV)=[]∧(@List.nil AV)=[])∧x_2.kind=x'.kind∧x_2.text=x'.text∧AW x_2.kids=AW x'.kids∧x_2.blank=x'.blank∧inR IntKind.i64 (i+(1:Int))∧eN (SO x) i [nds x,DM (List.set (Du {kind:=(0:Int),text:=[],kids:=[],blank:=false} x i) (Int.toNat i) x'),.int .i64 (i+(1:Int))]) (rA IA x [DM (Du {kind:=(0:Int),text:=[],kids:=[],blank:=false} x i),.top])) (fun x=>by kernel_rfl) fun(x:List Nd) (hx:x.length≤2^30∧∀e∈x,e.kids.length≤2^30)=>(by
 dsimp only[cA,eA,eN,Ad,SO,Bi,nds,AW,DM,rA,SN,IA,Aq,Aw,mvL,lnL,mvE,lnE,mvG,mvH,lnG,lnH,Ba]
 obtain⟨h1,h2⟩:=hx
 (repeat' first|(with_reducible first|rfl|exact True.intro|apply AG|apply And.intro|((first|apply Au|apply AE|apply Av|apply AF)<;>intro _))|(apply As<;>intro _)|apply AD|refine Af () ?_ ?_|((first|apply AK|apply AJ|apply AI|apply AH|apply AC|apply AB|apply AA|apply Az|apply Ax)<;>try dsimp only)|apply Af|(refine Prod.forall.2 ?_;intro _;try dsimp only)|(intro _;try dsimp only))<;>(try dsimp only at*)<;>(try simp only[Aj,List.length_cons,List.length_nil])<;>(try omega)
 any_goals exact(⟨0,[],[],false⟩:Nd)
 all_goals(try rfl)
 ·rw[PS (by omega)];omega
 ·rw[PS (by omega)];omega
 ·rename_i i hi h e he _ _ _ _
  exact ZP hi.1 he
 ·rename_i i hi h e he
  exact h2 e (AZ he)
 ·exact ZO (by omega))
def SP(x:List Int×List Int):LS:= {
 ι:=Int,inv:=fun i=>0≤i∧i≤x.1.length∧x.1.take i.toNat=x.2.take i.toNat,regs:=fun i=>[(0,Ad x.1),(1,Ad x.2),(5,.int .i64 i)],als:=[],meas:=fun i=>x.1.length-i.toNat}
def JI:Sig:= {X:=List Int×List Int,args:=fun x=>[Ad x.1,Ad x.2],pre:=fun x=>x.1.length<2^63∧x.2.length<2^63,Y:=Unit,post:=fun x y=>True,res:=fun x y=> .bool (x.1==x.2),outs:=fun x y=>[.top,.top],keep:=false}
theorem b8q:Ah G Tryz.prog 103 JI:=
 vcFun_okP [] [] false (fun x=>[(4,SP x)]) Tryz.func103 rfl (by decide) trivial (fun(x:List Int×List Int)=>(∀(y:Unit),True→True∧True∧True∧True)∧Ab ((↑(List.length x.1):Int) != (↑(List.length x.2):Int)) (rA JI x [.bool false,.top,.top]) (eA (SP x) [Ad x.1,Ad x.2,.int .i64 (0:Int)]∧∀(i:Int),(0:Int)≤i∧i≤(↑(List.length x.1):Int)∧List.take (Int.toNat i) x.1=List.take (Int.toNat i) x.2→Ab (decide (i<(↑(List.length x.1):Int))) (true=true∧true=true∧((0:Int)≤i∧i<(↑(List.length x.1):Int))∧∀(e:Int),x.1[Int.toNat i]? =some e→((0:Int)≤i∧i<(↑(List.length x.2):Int))∧∀(e_1:Int),x.2[Int.toNat i]? =some e_1→Ab (e != e_1) (rA JI x [.bool false,.top,.top]) (inR IntKind.i64 (i+(1:Int))∧eN (SP x) i [Ad x.1,Ad x.2,.int .i64 (i+(1:Int))])) (rA JI x [.bool true,.top,.top]))) (fun x=>by kernel_rfl) fun(x:List Int×List Int) (hx:x.1.length<2^63∧x.2.length<2^63)=>(by
 dsimp only[eA,eN,Ad,SP,rA,JI,Aq,Aw,Ba]
 obtain⟨h1,h2⟩:=hx
 (repeat' first|(with_reducible first|rfl|exact True.intro|apply AG|apply And.intro|((first|apply Au|apply AE|apply Av|apply AF)<;>intro _))|(apply As<;>intro _)|apply AD|refine Af () ?_ ?_|((first|apply AK|apply AJ|apply AI|apply AH|apply AC|apply AB|apply AA|apply Az|apply Ax)<;>try dsimp only)|apply Af|(refine Prod.forall.2 ?_;intro _;try dsimp only)|(intro _;try dsimp only))<;>(try dsimp only at*)<;>(try simp only[Aj,List.length_cons,List.length_nil])<;>(try omega)
 ·rename_i h;exact PT (fun e=>h (by rw[e]))
 ·rfl
 ·rename_i h i hi hl e he f hf hn
  exact PT (fun e=>hn (by rw[e,hf] at he;exact(Option.some.inj he).symm))
 ·rename_i h i hi hl e he f hf hn
  exact UL hi.1 hi.2.2 he hf hn
 ·rename_i h i hi hl
  exact ZQ (UM (by omega) hi.2.2 (by omega)))
def JJ:Sig:= {X:=Nd×Nd,args:=fun x=>[.agg (ndA false x.1),.agg (ndA false x.2)],pre:=fun x=>GK x.1∧GK x.2,Y:=Unit,post:=fun x y=>True,res:=fun x y=> .bool (FE x.1 x.2),outs:=fun x y=>[.top,.top],keep:=false}
theorem b8r:Ah G Tryz.prog 63 JJ:=
 vcFun_okP [(103,0,JI)] [] false (fun x=>[]) Tryz.func63 rfl (by decide) ⟨b8q,trivial⟩ (fun(x:Nd×Nd)=>(∀(y:Unit),True→True∧True∧True∧True)∧Ab (x.1.kind != x.2.kind) (rA JJ x [.bool false,.top,.top]) (Ab (!x.1.text==x.2.text) (rA JJ x [.bool false,.top,.top]) (cA JI [Ad x.1.kids,Ad x.2.kids] fun x_1 y=>Ab (!x_1.1==x_1.2) (rA JJ x [.bool false,.top,.top]) (Ab (!x.1.blank==x.2.blank) (rA JJ x [.bool false,.top,.top]) (rA JJ x [.bool true,.top,.top]))))) (fun x=>by kernel_rfl) fun(x:Nd×Nd) (hx:GK x.1∧GK x.2)=>(by
 dsimp only[cA,Ad,Bi,rA,JI,JJ,Aq,Aw,mvL,lnL,mvE,lnE,mvG,mvH,lnG,lnH]
 obtain⟨h1,h2⟩:=hx
 (repeat' first|(with_reducible first|rfl|exact True.intro|apply AG|apply And.intro|((first|apply Au|apply AE|apply Av|apply AF)<;>intro _))|(apply As<;>intro _)|apply AD|refine Af () ?_ ?_|((first|apply AK|apply AJ|apply AI|apply AH|apply AC|apply AB|apply AA|apply Az|apply Ax)<;>try dsimp only)|apply Af|(refine Prod.forall.2 ?_;intro _;try dsimp only)|(intro _;try dsimp only))<;>(try dsimp only at*)<;>(try simp only[Aj,List.length_cons,List.length_nil])<;>(try omega)
 ·simp [FE, *]
 ·simp [FE, *]
 ·simp [FE, *]
 ·simp [FE, *]
 ·simp [FE, *]
 ·exact h1.2
 ·exact h2.2)
def SQ(x:List Nd×List Nd):LS:= {
 ι:=Int,inv:=fun i=>0≤i∧i≤x.1.length∧x.1.take i.toNat=x.2.take i.toNat,regs:=fun i=>[(0,nds x.1),(1,nds x.2),(5,.int .i64 i)],als:=[],meas:=fun i=>x.1.length-i.toNat}
def JK:Sig:= {X:=List Nd×List Nd,args:=fun x=>[nds x.1,nds x.2],pre:=fun x=>Gl x.1∧Gl x.2,Y:=Unit,post:=fun x y=>True,res:=fun x y=> .bool (Gk x.1 x.2),outs:=fun x y=>[.top,.top],keep:=false}
theorem b8s:Ah G Tryz.prog 25 JK:=
 vcFun_okP [(63,0,JJ)] [] false (fun x=>[(4,SQ x)]) Tryz.func25 rfl (by decide) ⟨b8r,trivial⟩ (fun(x:List Nd×List Nd)=>(∀(y:Unit),True→True∧True∧True∧True)∧Ab ((↑(List.length x.1):Int) != (↑(List.length x.2):Int)) (rA JK x [.bool false,.top,.top]) (eA (SQ x) [nds x.1,nds x.2,.int .i64 (0:Int)]∧∀(i:Int),(0:Int)≤i∧i≤(↑(List.length x.1):Int)∧List.take (Int.toNat i) x.1=List.take (Int.toNat i) x.2→Ab (decide (i<(↑(List.length x.1):Int))) (true=true∧true=true∧((0:Int)≤i∧i<(↑(List.length x.1):Int))∧∀(e:Nd),x.1[Int.toNat i]? =some e→((0:Int)≤i∧i<(↑(List.length x.2):Int))∧∀(e_1:Nd),x.2[Int.toNat i]? =some e_1→∃(x_1:Nd×Nd),(GK x_1.1∧GK x_1.2)∧e.kind=x_1.1.kind∧e.text=x_1.1.text∧Ad e.kids=Ad x_1.1.kids∧e.blank=x_1.1.blank∧e_1.kind=x_1.2.kind∧e_1.text=x_1.2.text∧Ad e_1.kids=Ad x_1.2.kids∧e_1.blank=x_1.2.blank∧∃(y0:Unit),(∀(y:Unit),True→AV.bool (FE x_1.1 x_1.2)=AV.bool (FE x_1.1 x_1.2))∧true=true∧Ab (!FE x_1.1 x_1.2) (rA JK x [.bool false,.top,.top]) (inR IntKind.i64 (i+(1:Int))∧eN (SQ x) i [nds x.1,nds x.2,.int .i64 (i+(1:Int))])) (rA JK x [.bool true,.top,.top]))) (fun x=>by kernel_rfl) fun(x:List Nd×List Nd) (hx:Gl x.1∧Gl x.2)=>(by
 dsimp only[eA,eN,Ad,SQ,Bi,nds,rA,JK,Aq,Aw,Ba]
 obtain⟨h1,h2⟩:=hx;have hl1:=h1.1;have hl2:=h2.1
 (repeat' first|(with_reducible first|rfl|exact True.intro|apply AG|apply And.intro|((first|apply Au|apply AE|apply Av|apply AF)<;>intro _))|(apply As<;>intro _)|apply AD|refine Af () ?_ ?_|((first|apply AK|apply AJ|apply AI|apply AH|apply AC|apply AB|apply AA|apply Az|apply Ax)<;>try dsimp only)|apply Af|(refine Prod.forall.2 ?_;intro _;try dsimp only)|(intro _;try dsimp only))<;>(try dsimp only at*)<;>(try simp only[Aj,List.length_cons,List.length_nil])<;>(try omega)
 ·rename_i h;exact ZN (fun e=>h (by rw[e]))
 ·rfl
 ·rename_i h i hi hl e he f hf hn
  exact ZN (fun e=>by rw[e,hf] at he;rw[Option.some.inj he,a8F] at hn;cases hn)
 ·rename_i h i hi hl e he f hf hn
  exact UL hi.1 hi.2.2 he hf (UK.1 hn)
 ·rename_i h i hi hl e he f hf
  exact h1.2 _ (AZ he)
 ·rename_i h i hi hl e he f hf
  exact h2.2 _ (AZ hf)
 ·rename_i h i hi hl
  exact a8D (UM (by omega) hi.2.2 (by omega)))
structure Gr where
 notes:List Int
 member:Int
end Go.My
end
section
namespace Go.My
open Go.Eng
section
variable {α:Type} (lt:α→α→Bool)
variable {lt}
end
end Go.My
end
section
namespace Go.My
open Go.Eng Go.Proofs
variable {G:GInv}
def mkI(k:Int)(n:Nat):List Int:=(List.range n).map fun j:Nat=>k+(j:Int)
theorem Ph{k:Int}{n:Nat}:(mkI k n).length=n:=by simp [mkI]
theorem b8t{k:Int}{l:List Int}{i:Nat}(h:i<l.length):(mkI k i++l.drop i).set i (k+i)=mkI k (i+1)++l.drop (i+1):=by
 rw[List.set_append_right _ _ (by rw[Ph];exact Nat.le_refl i),Ph,Nat.sub_self,List.drop_eq_getElem_cons h,List.set_cons_zero]
 simp [mkI,List.range_succ]
theorem b8u{k:Int}{l:List Int}{i:Nat}(h:l.length≤i)(h2:i≤l.length):mkI k i++l.drop i=mkI k l.length:=by
 obtain rfl:i=l.length:=by omega
 simp
theorem b8v{p q:Nd→Prop}(a:Int)(b:List UInt8)(c:List Int)(d:Bool)(h1:p ⟨a,b,c,d⟩)(h2:q ⟨a,b,c,d⟩):∃x,p x∧q x:=⟨_,h1,h2⟩
theorem a6O{p q:Nd→Prop}(a:Int)(b:List UInt8)(c:List Int)(d:Bool)(h2:q ⟨a,b,c,d⟩)(h1:p ⟨a,b,c,d⟩):∃x,p x∧q x:=⟨_,h1,h2⟩
theorem SR{k i:Int}{l:List Int}(h:0≤i∧i≤l.length):(mkI k i.toNat++l.drop i.toNat).length=l.length:=by rw[List.length_append,Ph,List.length_drop];omega
theorem b8w{k i:Int}{l:List Int}(h:0≤i∧i≤l.length)(hl:i<((mkI k i.toNat++l.drop i.toNat).length:Int)):(mkI k i.toNat++l.drop i.toNat).set i.toNat (k+i)=mkI k (i+1).toNat++l.drop (i+1).toNat:=by
 rw[SR h] at hl
 have:= @b8t k l i.toNat (by omega)
 rw[show((i.toNat:Nat):Int)=i by omega] at this
 rw[this,BG h.1]
theorem b8x{k i:Int}{l:List Int}(h:0≤i∧i≤l.length)(hl:¬i<((mkI k i.toNat++l.drop i.toNat).length:Int)):mkI k i.toNat++l.drop i.toNat=mkI k l.length:=by
 rw[SR h] at hl
 exact b8u (by omega) (by omega)
theorem b8y{k i:Int}{l:List Int}(h:0≤i∧i≤l.length)(hl:¬i<((mkI k i.toNat++l.drop i.toNat).length:Int)):k+i=k+l.length:=by
 rw[SR h] at hl;omega
def SS:Sig:= {X:=List Int×Int,args:=fun x=>[AW x.1,.int .i64 x.2],pre:=fun x=>x.1.length≤2^40∧0≤x.2∧x.2≤2^60,Y:=Unit,post:=fun x y=>True,res:=fun x y=> .int .i64 (x.2+x.1.length),outs:=fun x y=>[AW (mkI x.2 x.1.length),.top],keep:=false,fixed:=[0]}
def ST(x:List Int×Int):LS:= {ι:=Int,inv:=fun i=>0≤i∧i≤x.1.length,regs:=fun i=>[(0,AW (mkI x.2 i.toNat++x.1.drop i.toNat)),(1,.int .i64 (x.2+i)),(5,.int .i64 i)],als:=[],meas:=fun i=>x.1.length-i.toNat}
theorem b8z:Ah G Tryz.prog 65 SS:=
 vcFun_okP [] [] false (fun x=>[(2,ST x)]) Tryz.func65 rfl (by decide) trivial (fun(x:List Int×Int)=>(∀(y:Unit),True→True∧(∀(x:Int),True∧True)∧True∧True)∧eA (ST x) [AW x.1,.int .i64 x.2,.int .i64 (0:Int)]∧∀(i:Int),(0:Int)≤i∧i≤(↑(List.length x.1):Int)→Ab (decide (i<(↑(List.length (mkI x.2 (Int.toNat i)++List.drop (Int.toNat i) x.1)):Int))) (((0:Int)≤i∧i<(↑(List.length (mkI x.2 (Int.toNat i)++List.drop (Int.toNat i) x.1)):Int))∧Int.toNat i<List.length (mkI x.2 (Int.toNat i)++List.drop (Int.toNat i) x.1)∧∀(x_1:Int),(mkI x.2 (Int.toNat i)++List.drop (Int.toNat i) x.1)[Int.toNat i]? =some x_1→∃(x':Int),((@List.nil AV)=[]∧(@List.nil AV)=[])∧x.2+i=x'∧inR IntKind.i64 (x.2+i+(1:Int))∧inR IntKind.i64 (i+(1:Int))∧eN (ST x) i [AW (List.set (mkI x.2 (Int.toNat i)++List.drop (Int.toNat i) x.1) (Int.toNat i) x'),.int .i64 (x.2+i+(1:Int)),.int .i64 (i+(1:Int))]) (rA SS x [.int .i64 (x.2+i),AW (mkI x.2 (Int.toNat i)++List.drop (Int.toNat i) x.1),.top])) (fun x=>by kernel_rfl) fun(x:List Int×Int) (hx:x.1.length≤2^40∧0≤x.2∧x.2≤2^60)=>(by
 dsimp only[eA,eN,ST,AW,rA,SS,Aq,Aw,Ba]
 obtain⟨h1,h2,h3⟩:=hx
 (repeat' first|(with_reducible first|rfl|exact True.intro|apply AG|apply And.intro|((first|apply Au|apply AE|apply Av|apply AF)<;>intro _))|(apply As<;>intro _)|apply AD|refine Af () ?_ ?_|((first|apply AK|apply AJ|apply AI|apply AH|apply AC|apply AB|apply AA|apply Az|apply Ax)<;>try dsimp only)|apply Af|(refine Prod.forall.2 ?_;intro _;try dsimp only)|(intro _;try dsimp only))
 all_goals first
  |rfl
  |(simp [mkI];done)
  |exact b8w ‹_› ‹_›
  |exact b8x ‹_› ‹_›
  |exact b8y ‹_› ‹_›
  |((try simp only[Aj]);omega)
  |(have hi:=(show(0:Int)≤_∧_≤(x.1.length:Int) by assumption);have hl:= @SR x.2 _ x.1 hi;(try simp only[Aj]);omega)
  |skip)
end Go.My
end
section
namespace Go.My
open Go.Eng Go.Proofs
variable {G:GInv}
def EU:Nat→Nat→List UInt8
 |0,_=>[]
 |n+1,k=>if k=0 then [] else EU n (k/10)++[UInt8.ofNat (48+k % 10)]
def EI(k:Int):List UInt8:=if k≤0 then [109,48] else 109::EU 64 k.toNat
theorem a6P:∀ {n k:Nat},(EU n k).length≤n
 |0,k=>Nat.le_refl _
 |n+1,k=>by
  unfold EU;split
  ·simp
  ·have:= @a6P n (k/10);simp;omega
theorem a6Q:∀ {n m k:Nat},k<10^n→k<10^m→EU n k=EU m k
 |0,0,k,_,_=>rfl
 |0,m+1,k,h,_=>by
  have:k=0:=by simp at h;exact h
  subst this;simp [EU]
 |n+1,0,k,_,h=>by
  have:k=0:=by simp at h;exact h
  subst this;simp [EU]
 |n+1,m+1,k,h1,h2=>by
  simp only[EU]
  split
  ·rfl
  ·rw[a6Q (n:=n) (m:=m) (by rw[Nat.pow_succ] at h1;omega) (by rw[Nat.pow_succ] at h2;omega)]
def mdI(k0 k:Int)(out:List UInt8):Prop:=(0≤k∧k≤k0∧k0≤2^60)∧EU 64 k.toNat++out=EU 64 k0.toNat
theorem b8A{k:Int}(h:¬k≤0)(h2:k≤2^60):mdI k k []:=⟨by omega,by simp⟩
theorem b8B{k0 k:Int}{out:List UInt8}{c:UInt8}(h:mdI k0 k out)(hk:k>0)(hc:48+k.tmod 10=(c.toNat:Int)):mdI k0 (k.tdiv 10) ([c]++out):=by
 obtain⟨h1,h2⟩:=h
 have e1:k.tdiv 10=k/10:=Int.tdiv_eq_ediv_of_nonneg (by omega)
 have e2:k.tmod 10=k % 10:=Int.tmod_eq_emod_of_nonneg (by omega)
 rw[e1];rw[e2] at hc
 refine⟨by omega,?_⟩
 rw[←h2]
 have e3:(k/10).toNat=k.toNat/10:=by omega
 have e4:c=UInt8.ofNat (48+k.toNat % 10):=by
  apply UInt8.toNat_inj.1
  have:(48+k.toNat % 10) % 256=48+k.toNat % 10:=by omega
  simp;omega
 have e5:EU 64 k.toNat=EU 63 (k.toNat/10)++[UInt8.ofNat (48+k.toNat % 10)]:=by
  rw[EU,if_neg (by omega)]
 rw[e3,e5,e4,a6Q (n:=64) (m:=63) (by omega) (by omega)];simp
theorem a6R{k0 k:Int}{out:List UInt8}(h:mdI k0 k out)(hk:¬k>0):out=EU 64 k0.toNat:=by
 obtain⟨h1,h2⟩:=h
 obtain rfl:k=0:=by omega
 rw[←h2];simp [EU]
theorem a6S{k0 k:Int}{out:List UInt8}(h:mdI k0 k out):out.length≤64:=by
 have:=congrArg List.length h.2
 have h2:= @a6P 64 k0.toNat
 simp at this;omega
theorem a6T{k0 k:Int}{out:List UInt8}(h:mdI k0 k out)(hk:k>0):0≤k.tmod 10∧k.tmod 10<10∧0≤k.tdiv 10∧k.tdiv 10<k∧k≤2^60:=by
 have e1:k.tdiv 10=k/10:=Int.tdiv_eq_ediv_of_nonneg (by omega)
 have e2:k.tmod 10=k % 10:=Int.tmod_eq_emod_of_nonneg (by omega)
 have:=h.1
 rw[e1,e2];omega
theorem b8C{n:Int}(h1:0≤n)(h2:n≤255):inR .u8 n:=by
 unfold inR;simp [IntKind.min,IntKind.max,IntKind.bits,IntKind.signed];omega
theorem b8D{n:Int}(h0:0≤n)(h1:n<256):∃c:UInt8,n=(c.toNat:Int):=⟨UInt8.ofNat n.toNat,by
 have:n.toNat % 256=n.toNat:=by omega
 simp;omega⟩
theorem b8E{n:Int}{q:UInt8→Prop}(h0:0≤n)(h1:n<256)(h:∀c:UInt8,n=(c.toNat:Int)→q c):∃c:UInt8,n=(c.toNat:Int)∧q c:=by
 obtain⟨c,hc⟩:=b8D h0 h1
 exact⟨c,hc,h c hc⟩
def Hh:Sig:= {X:=Int,args:=fun x=>[.int .i64 x],pre:=fun x=>x≤2^60,Y:=Unit,post:=fun x y=>True,res:=fun x y=> .str (EI x),outs:=fun x y=>[.top],keep:=false}
def SU(x:Int):LS:= {ι:=Int×List UInt8,inv:=fun i=>mdI x i.1 i.2,regs:=fun i=>[(0,.int .i64 i.1),(3,.str i.2)],als:=[],meas:=fun i=>i.1.toNat}
theorem Yf:Ah G Tryz.prog 64 Hh:=
 vcFun_okP [] [(22,⟨UInt8,HQ⟩)] false (fun x=>[(4,SU x)]) Tryz.func64 rfl (by decide) trivial (fun(x:Int)=>(∀(y:Unit),True→True∧True∧True)∧Ab (decide (x≤(0:Int))) (rA Hh x [.str #[(109:UInt8),(48:UInt8)].toList,.top]) (eA (SU x) [.int .i64 x,.str #[].toList]∧∀(i:Int×List UInt8),mdI x i.1 i.2→Ab (decide (i.1>(0:Int))) ((10:Int)≠(0:Int)∧inR IntKind.i64 ((48:Int)+Int.tmod i.1 (10:Int))∧inR IntKind.u8 ((48:Int)+Int.tmod i.1 (10:Int))∧∃(x_1:UInt8),(48:Int)+Int.tmod i.1 (10:Int)=(↑(UInt8.toNat x_1):Int)∧∃(l:List UInt8),AV.sl false 0 1 UInt8 HQ [x_1]=AV.sl false 0 1 UInt8 HQ l∧(↑(List.length l+List.length i.2):Int)≤IntKind.max IntKind.i64∧(10:Int)≠(0:Int)∧inR IntKind.i64 (Int.tdiv i.1 (10:Int))∧eN (SU x) i [.int .i64 (Int.tdiv i.1 (10:Int)),.str (l++i.2)]) ((↑((1:Nat)+List.length i.2):Int)≤IntKind.max IntKind.i64∧rA Hh x [.str (#[(109:UInt8)].toList++i.2),.top]))) (fun x=>by kernel_rfl) fun(x:Int) (hx:x≤2^60)=>(by
 dsimp only[eA,eN,SU,rA,Hh,Aq,Aw,Ba]
 have hx:x≤2^60:=hx
 (repeat' first|refine b8E ?_ ?_ ?_|(with_reducible first|rfl|exact True.intro|apply AG|apply And.intro|((first|apply Au|apply AE|apply Av|apply AF)<;>intro _))|(apply As<;>intro _)|apply AD|refine Af () ?_ ?_|((first|apply AK|apply AJ|apply AI|apply AH|apply AC|apply AB|apply AA|apply Az|apply Ax)<;>try dsimp only)|apply Af|(refine Prod.forall.2 ?_;intro _;try dsimp only)|(intro _;try dsimp only))
 all_goals first
  |rfl
  |(simp [EI, *];done)
  |exact b8A ‹_› hx
  |exact b8B ‹_› ‹_› ‹_›
  |(rw[a6R ‹_› ‹_›,EI,if_neg ‹_›];rfl)
  |(have h0:=a6T ‹_› ‹_›;exact b8C (by omega) (by omega))
  |(have h0:=a6T ‹_› ‹_›;have h1:=a6S ‹_›;(try simp only[Aj,List.length_cons,List.length_nil]);omega)
  |(have h1:=a6S ‹_›;(try simp only[Aj,List.length_cons,List.length_nil]);omega)
  |skip
 have hd:=a6R (show mdI _ _ _ by assumption) ‹_›
 rw[hd,EI,if_neg ‹_›]
 rfl)
section
variable {α:Type}
def Ca(sz:α→Nat):List α→Int
 |[]=>0
 |g::l=>sz g+Ca sz l
def gMk(mk:Int→α→α)(sz:α→Nat)(k:Int):List α→List α
 |[]=>[]
 |g::l=>mk k g::gMk mk sz (k+sz g) l
variable {mk:Int→α→α} {sz:α→Nat}
theorem a6U:∀ {l:List α} {g:α},Ca sz (l++[g])=Ca sz l+sz g
 |[],g=>by simp [Ca]
 |x::l,g=>by simp only[List.cons_append,Ca];rw[a6U];omega
theorem a6V:∀ {l:List α} {g:α} {k:Int},gMk mk sz k (l++[g])=gMk mk sz k l++[mk (k+Ca sz l) g]
 |[],g,k=>by simp [gMk,Ca]
 |x::l,g,k=>by
  simp only[List.cons_append,gMk,Ca];rw[a6V]
  rw[show k+(sz x:Int)+Ca sz l=k+(sz x+Ca sz l) by omega]
theorem SV:∀ {l:List α} {k:Int},(gMk mk sz k l).length=l.length
 |[],k=>rfl
 |x::l,k=>by simp [gMk,SV]
theorem a6W:∀ {l:List α} {n:Nat},(∀g∈l,sz g≤n)→0≤Ca sz l∧Ca sz l≤l.length*n
 |[],n,h=>by simp [Ca]
 |x::l,n,h=>by
  have h1:=h x (by simp)
  have h2:=a6W (l:=l) (n:=n) fun g hg=>h g (by simp [hg])
  rw[Ca,List.length_cons]
  have e:((l.length+1:Nat):Int)*(n:Int)=l.length*n+n:=by rw[Int.natCast_add,Int.add_mul];simp
  rw[e];omega
theorem b8F{l:List α}{k:Int}{i:Nat}{g:α}(h:l[i]? =some g):(gMk mk sz k (l.take i)++l.drop i).set i (mk (k+Ca sz (l.take i)) g)=gMk mk sz k (l.take (i+1))++l.drop (i+1):=by
 have hi:=(Cx h).1
 have e:(gMk mk sz k (l.take i)).length=i:=by rw[SV,List.length_take];omega
 rw[List.set_append_right _ _ (by rw[e];exact Nat.le_refl i),e,Nat.sub_self,Dm h,List.set_cons_zero,Df h,a6V]
 simp
theorem b8G{L:List α}{i:Nat}{a b:α}(hb:(L.set i a)[i]? =some b):a=b:=by
 rw[List.getElem?_set] at hb
 split at hb
 ·split at hb
  ·exact Option.some.inj hb
  ·cases hb
 ·rename_i h;exact(h rfl).elim
def gSt(mk:Int→α→α)(sz:α→Nat)(k:Int)(l:List α)(i:Int):List α:=gMk mk sz k (l.take i.toNat)++l.drop i.toNat
def qgB(sz:α→Nat)(l:List α):Prop:=l.length≤1048576∧∀g∈l,sz g≤1048600
def qgI(sz:α→Nat)(l:List α)(i:Int):Prop:=qgB sz l∧0≤i∧i≤l.length
theorem SW{k i:Int}{l:List α}(h:qgI sz l i):(gSt mk sz k l i).length=l.length:=by
 have:=h.2
 rw[gSt,List.length_append,SV,List.length_take,List.length_drop];omega
theorem SX{k i:Int}{l:List α}{g:α}(h:qgI sz l i)(hg:(gSt mk sz k l i)[i.toNat]? =some g):l[i.toNat]? =some g:=by
 have hlt:=(Cx hg).1
 rw[SW h] at hlt
 have hl:(gMk mk sz k (l.take i.toNat)).length=i.toNat:=by rw[SV,List.length_take];omega
 rw[gSt,List.getElem?_append_right (by omega),hl,Nat.sub_self] at hg
 simpa using hg
theorem a6X{i:Int}{l:List α}(h:qgI sz l i):0≤Ca sz (l.take i.toNat)∧Ca sz (l.take i.toNat)≤2000000000000:=by
 have h1:= @a6W _ sz (l.take i.toNat) 1048600 fun g hg=>h.1.2 g (List.mem_of_mem_take hg)
 have h2:(l.take i.toNat).length≤1048576:=by rw[List.length_take];have:=h.1.1;omega
 omega
theorem a6Y{k i:Int}{l:List α}(h:qgI sz l i)(hl:¬i<((gSt mk sz k l i).length:Int)):gSt mk sz k l i=gMk mk sz k l∧k+Ca sz (l.take i.toNat)=k+Ca sz l:=by
 rw[SW h] at hl
 rw[gSt,List.take_of_length_le (by omega),List.drop_eq_nil_of_le (by omega)];simp
theorem b8H{k:Int}{l:List α}:l=gSt mk sz k l 0:=by simp [gSt,gMk]
theorem b8I{k i:Int}{l:List α}{g b:α}(h:qgI sz l i)(hg:(gSt mk sz k l i)[i.toNat]? =some g)(hb:b=mk (k+Ca sz (l.take i.toNat)) g):(gSt mk sz k l i).set i.toNat b=gSt mk sz k l (i+1):=by
 rw[hb,gSt,b8F (SX h hg),gSt,BG h.2.1]
theorem b8J{k i:Int}{l:List α}{g:α}(h:qgI sz l i)(hg:(gSt mk sz k l i)[i.toNat]? =some g):k+Ca sz (l.take (i+1).toNat)=k+Ca sz (l.take i.toNat)+sz g:=by
 rw[BG h.2.1,Df (SX h hg),a6U];omega
theorem b8K{k i:Int}{l:List α}{g:α}(h:qgI sz l i)(hg:(gSt mk sz k l i)[i.toNat]? =some g):sz g≤1048600:=h.1.2 g (AZ (SX h hg))
theorem b8L{k i:Int}{l:List α}{g:α}(h:qgI sz l i)(hg:(gSt mk sz k l i)[i.toNat]? =some g):qgI sz l (i+1):=by
 have:=(Cx (SX h hg)).1
 exact⟨h.1,by have:=h.2.1;omega,by have:=h.2.1;omega⟩
theorem a6Z(hs:∀k g,sz (mk k g)=sz g)(hm:∀k g,mk k (mk k g)=mk k g):∀ {l:List α} {k:Int},gMk mk sz k (gMk mk sz k l)=gMk mk sz k l∧Ca sz (gMk mk sz k l)=Ca sz l
 |[],k=>⟨rfl,rfl⟩
 |g::l,k=>by
  simp only[gMk,Ca,hs,hm]
  have:= @a6Z hs hm l (k+sz g)
  rw[this.1,this.2];exact⟨rfl,rfl⟩
end
def mkN(k:Int)(x:Nd):Nd:=⟨k,EI (k+1),mkI (k+1+1) x.kids.length,(k+1+1+x.kids.length).tmod 3==0⟩
def szN(x:Nd):Nat:=x.kids.length+3
theorem b8M(k:Int)(x:Nd):szN (mkN k x)=szN x:=by simp [szN,mkN,Ph]
theorem b8N(k:Int)(x:Nd):mkN k (mkN k x)=mkN k x:=by simp [mkN,Ph]
def SY(x:List Nd×Int):LS:= {
 ι:=Int,inv:=qgI szN x.1,regs:=fun i=>[(0,DM (gSt mkN szN x.2 x.1 i)),(1,.int .i64 (x.2+Ca szN (x.1.take i.toNat))),(5,.int .i64 i)],als:=[],meas:=fun i=>x.1.length-i.toNat}
def Nb:Sig:= {X:=List Nd×Int,args:=fun x=>[DM x.1,.int .i64 x.2],pre:=fun x=>qgB szN x.1∧0≤x.2∧x.2≤2^50,Y:=Unit,post:=fun x y=>True,res:=fun x y=> .int .i64 (x.2+Ca szN x.1),outs:=fun x y=>[DM (gMk mkN szN x.2 x.1),.top],keep:=false,fixed:=[0]}
theorem b8O:Ah G Tryz.prog 26 Nb:=
 vcFun_okP [(65,0,SS),(64,0,Hh)] [] false (fun x=>[(2,SY x)]) Tryz.func26 rfl (by decide) ⟨b8z,Yf,trivial⟩ (fun(x:List Nd×Int)=>(∀(y:Unit),True→True∧(∀(x:Nd),True∧True∧(∀(x:Int),True∧True)∧True∧True)∧True∧True)∧eA (SY x) [DM x.1,.int .i64 x.2,.int .i64 (0:Int)]∧∀(i:Int),qgI szN x.1 i→Ab (decide (i<(↑(List.length (gSt mkN szN x.2 x.1 i)):Int))) (((0:Int)≤i∧i<(↑(List.length (gSt mkN szN x.2 x.1 i)):Int))∧Int.toNat i<List.length (gSt mkN szN x.2 x.1 i)∧∀(x_1:Nd),(gSt mkN szN x.2 x.1 i)[Int.toNat i]? =some x_1→∃(x':Nd),((@List.nil AV)=[]∧[AV.str x'.text,AW x'.kids,.bool x'.blank]=[.str x_1.text,AW x_1.kids,.bool x_1.blank])∧x.2+Ca szN (List.take (Int.toNat i) x.1)=x'.kind∧inR IntKind.i64 (x.2+Ca szN (List.take (Int.toNat i) x.1)+(1:Int))∧cA Hh [.int .i64 (x.2+Ca szN (List.take (Int.toNat i) x.1)+(1:Int))] fun x_2 y=>((0:Int)≤i∧i<(↑(List.length (List.set (gSt mkN szN x.2 x.1 i) (Int.toNat i) x')):Int))∧Int.toNat i<List.length (List.set (gSt mkN szN x.2 x.1 i) (Int.toNat i) x')∧∀(x_3:Nd),(List.set (gSt mkN szN x.2 x.1 i) (Int.toNat i) x')[Int.toNat i]? =some x_3→∃(x'_1:Nd),([AV.int .i64 x'_1.kind]=[.int .i64 x_3.kind]∧[AW x'_1.kids,.bool x'_1.blank]=[AW x_3.kids,.bool x_3.blank])∧EI x_2=x'_1.text∧inR IntKind.i64 (x.2+Ca szN (List.take (Int.toNat i) x.1)+(1:Int)+(1:Int))∧((0:Int)≤i∧i<(↑(List.length (List.set (List.set (gSt mkN szN x.2 x.1 i) (Int.toNat i) x') (Int.toNat i) x'_1)):Int))∧Int.toNat i<List.length (List.set (List.set (gSt mkN szN x.2 x.1 i) (Int.toNat i) x') (Int.toNat i) x'_1)∧∀(z:Nd),(List.set (List.set (gSt mkN szN x.2 x.1 i) (Int.toNat i) x') (Int.toNat i) x'_1)[Int.toNat i]? =some z→∃(x_4:List Int×Int),(List.length x_4.1≤(1099511627776:Nat)∧(0:Int)≤x_4.2∧x_4.2≤(2:Int)^(60:Nat))∧AW z.kids=AW x_4.1∧x.2+Ca szN (List.take (Int.toNat i) x.1)+(1:Int)+(1:Int)=x_4.2∧∀(y:Unit),True→∃(z':Nd),[AV.int .i64 z'.kind,.str z'.text,AW z'.kids,.bool z'.blank]=[.int .i64 z.kind,.str z.text,AW (mkI x_4.2 (List.length x_4.1)),.bool z.blank]∧(3:Int)≠(0:Int)∧((0:Int)≤i∧i<(↑(List.length (List.set (List.set (List.set (gSt mkN szN x.2 x.1 i) (Int.toNat i) x') (Int.toNat i) x'_1) (Int.toNat i) z')):Int))∧Int.toNat i<List.length (List.set (List.set (List.set (gSt mkN szN x.2 x.1 i) (Int.toNat i) x') (Int.toNat i) x'_1) (Int.toNat i) z')∧∀(x_5:Nd),(List.set (List.set (List.set (gSt mkN szN x.2 x.1 i) (Int.toNat i) x') (Int.toNat i) x'_1) (Int.toNat i) z')[Int.toNat i]? =some x_5→∃(x'_2:Nd),([AV.int .i64 x'_2.kind,.str x'_2.text,AW x'_2.kids]=[.int .i64 x_5.kind,.str x_5.text,AW x_5.kids]∧(@List.nil AV)=[])∧(Int.tmod (x_4.2+(↑(List.length x_4.1):Int)) (3:Int)==(0:Int))=x'_2.blank∧inR IntKind.i64 (x_4.2+(↑(List.length x_4.1):Int)+(1:Int))∧inR IntKind.i64 (i+(1:Int))∧eN (SY x) i [DM (List.set (List.set (List.set (List.set (gSt mkN szN x.2 x.1 i) (Int.toNat i) x') (Int.toNat i) x'_1) (Int.toNat i) z') (Int.toNat i) x'_2),.int .i64 (x_4.2+(↑(List.length x_4.1):Int)+(1:Int)),.int .i64 (i+(1:Int))]) (rA Nb x [.int .i64 (x.2+Ca szN (List.take (Int.toNat i) x.1)),DM (gSt mkN szN x.2 x.1 i),.top])) (fun x=>by kernel_rfl) fun(x:List Nd×Int) (hx:qgB szN x.1∧0≤x.2∧x.2≤2^50)=>(by
 dsimp only[cA,eA,eN,SY,Bi,AW,DM,rA,Nb,Hh,Aq,Aw,mvL,lnL,mvE,lnE,mvG,mvH,lnG,lnH,Ba]
 obtain⟨h1,h2,h3⟩:=hx
 (repeat' first|refine b8v _ _ (mkI _ _) _ rfl ?_|refine a6O _ (EI _) _ _ ⟨rfl,?_⟩ ⟨rfl,rfl⟩|refine a6O _ _ _ _ ⟨rfl,?_⟩ ⟨rfl,rfl⟩|(with_reducible first|rfl|exact True.intro|apply AG|apply And.intro|((first|apply Au|apply AE|apply Av|apply AF)<;>intro _))|(apply As<;>intro _)|apply AD|refine Af () ?_ ?_|((first|apply AK|apply AJ|apply AI|apply AH|apply AC|apply AB|apply AA|apply Az|apply Ax)<;>try dsimp only)|apply Af|(refine Prod.forall.2 ?_;intro _;try dsimp only)|(intro _;try dsimp only))
 all_goals(repeat(rename(List.set _ _ _)[_]? =some _=>hq;have e:=b8G hq;clear hq;subst e))
 all_goals(try(rename Nd=>zz;obtain⟨_,_,_,_⟩:=zz;dsimp only at*))
 all_goals(try simp only[List.length_set,List.set_set])
 all_goals first
  |rfl
  |exact b8H
  |exact⟨h1,by omega,by omega⟩
  |(simp [Ca];done)
  |exact(show qgI _ _ _ by assumption).2.1
  |assumption
  |exact(a6Y ‹_› ‹_›).1
  |exact(a6Y ‹_› ‹_›).2
  |exact b8I ‹_› ‹_› rfl
  |exact b8L ‹_› ‹_›
  |(have ht:=b8J (k:=x.2) (show qgI _ _ _ by assumption) ‹_›;rw[ht];simp [szN];omega)
  |(have hi:=(show qgI _ _ _ by assumption);have hl:= @SW _ mkN szN x.2 _ _ hi;have ht:=a6X hi;have:=hi.2.1;have:=hi.2.2;have:=h1.1;(try simp only[Aj]);omega)
  |(have hi:=(show qgI _ _ _ by assumption);have hl:= @SW _ mkN szN x.2 _ _ hi;have ht:=a6X hi;have:=hi.2.1;have:=hi.2.2;have hg:=b8K hi ‹_›;simp only[szN] at hg;have:=h1.1;(try simp only[Aj]);omega)
  |skip)
end Go.My
end
section
namespace Go.My
open Go.Eng
structure Rw where
 stop:Int→Option Nd
 tgt:Int→Int→Int→Int
 par:Int→Int→Int→Bool
theorem a7a{α:Type}(sz:α→Nat):∀l:List α,0≤Ca sz l
 |[]=>Int.le_refl 0
 |x::l=>by have:=a7a sz l;simp only[Ca];omega
theorem b8P(l:List Nd)(k:Int):Ca szN (gMk mkN szN k l)=Ca szN l:=(a6Z b8M b8N).2
def Pi(l:List Nd):Prop:=l.length≤1048576∧∀e∈l,e.text.length≤1048576∧e.kids.length≤1048576
theorem a7b{l:List Nd}(h:¬DF l 1048576<0):Pi l:=by
 have:=NO (l:=l) (n:=1048576) (by omega) h
 exact⟨by have:=this.1;omega,fun e he=>by have:=this.2 e he;omega⟩
theorem b8Q{l:List Nd}(h:Pi l):Gl l:=⟨by have:=h.1;omega,fun e he=>by have:=h.2 e he;exact⟨by omega,by omega⟩⟩
theorem b8R{l:List Nd}(h:Pi l):qgB szN l:=⟨h.1,fun e he=>by have:=h.2 e he;simp [szN];omega⟩
def b8S(l:List Nd):Prop:=l.length≤2^30∧∀e∈l,e.kids.length≤2^30
theorem b8T{l:List Nd}(h:Pi l):b8S l:=⟨by have:=h.1;omega,fun e he=>by have:=h.2 e he;omega⟩
theorem a7c{l:List Nd}(h:Pi l):CZ l:=⟨by have:=h.1;omega,fun e he=>by have:=h.2 e he;exact⟨by omega,by omega⟩⟩
end Go.My
end
section
namespace Go.My
open Go.Eng Go.Proofs
variable {G:GInv}
theorem b8U{l:List Int}{n:Int}(h:¬FF l n<0):FF l n≤n:=by
 unfold FF at h ⊢;split<;>omega
theorem a7d:∀ {l:List Nd} {n:Int},¬Fq l n<0→(((l.map fun x=>x.text.length).sum:Nat):Int)≤n
 |[],n,h=>by unfold Fq at h;simp;omega
 |x::l,n,h=>by
  unfold Fq at h
  split at h
  ·omega
  ·rename_i hx
   have h1:=a7d h
   unfold Fa at hx h1
   split at hx
   ·omega
   ·rename_i hy
    rw[if_neg hy] at h1
    have h2:=b8U hx
    rw[List.map_cons,List.sum_cons];omega
theorem b8V(l:List Nd):txS l=(l.map fun x=>x.text.length).sum:=by
 unfold txS;congr 1
 refine List.ext_getElem (by simp) fun i h1 h2=> ?_
 simp only[List.length_map,List.length_range] at h1
 simp only[List.getElem_map,List.getElem_range]
 rw[Br (x:=l[i]) (by simp)]
theorem b8W{l:List Nd}(h:¬DF l 1048576<0):txS l≤1048576:=by
 unfold DF at h
 split at h
 ·omega
 ·have h1:=a7d h
  rw[b8V]
  omega
theorem b8X{l:List Nd}{n:Nat}(h:¬DF l 1048576<0)(hn:1048576≤n):trN l n:=by
 have hr:=a7b h
 exact⟨a7c hr,gB3 h,by have:=hr.1;omega,b8W h⟩
theorem b8Y{ns:List Nd}{n:Nat}{k i w bud:Int}(hx:trN ns n):(wnR ns n k i w bud).ls.length≤2^41:=by
 cases h:FX ns k i with
 |false=>rw[SI h];simp
 |true=>
  have h1:=Ye (w:=w) (bud:=bud) hx h
  have h2:=JF (s:=⟨[],1⟩) h1.v
  have h3:=h1.rm
  rw[wnR,if_pos h]
  exact Nat.le_trans h2 h3
def Ck(k:Int)(n:Nat):List (List UInt8):=(List.range n).map fun j:Nat=>EI (k+(j:Int))
theorem Nc{k:Int}{n:Nat}:(Ck k n).length=n:=by simp [Ck]
theorem b8Z{k:Int}{n i:Nat}(h:i<n):(Ck k n)[i]? =some (EI (k+i)):=by simp [Ck,h]
theorem b9a{k:Int}{l:List (List UInt8)}{i:Nat}(h:i<l.length):(Ck k i++l.drop i).set i (EI (k+i))=Ck k (i+1)++l.drop (i+1):=by
 rw[List.set_append_right _ _ (by rw[Nc];exact Nat.le_refl i),Nc,Nat.sub_self,List.drop_eq_getElem_cons h,List.set_cons_zero]
 simp [Ck,List.range_succ]
theorem SZ{k i:Int}{l:List (List UInt8)}(h:0≤i∧i≤l.length):(Ck k i.toNat++l.drop i.toNat).length=l.length:=by rw[List.length_append,Nc,List.length_drop];omega
theorem b9b{k i:Int}{l:List (List UInt8)}(h:0≤i∧i≤l.length)(hl:i<((Ck k i.toNat++l.drop i.toNat).length:Int)):(Ck k i.toNat++l.drop i.toNat).set i.toNat (EI (k+i))=Ck k (i+1).toNat++l.drop (i+1).toNat:=by
 rw[SZ h] at hl
 have:= @b9a k l i.toNat (by omega)
 rw[show((i.toNat:Nat):Int)=i by omega] at this
 rw[this,BG h.1]
theorem b9c{k i:Int}{l:List (List UInt8)}(h:0≤i∧i≤l.length)(hl:¬i<((Ck k i.toNat++l.drop i.toNat).length:Int)):Ck k i.toNat++l.drop i.toNat=Ck k l.length:=by
 rw[SZ h] at hl
 rw[show i.toNat=l.length by omega];simp
theorem b9d{k i:Int}{l:List (List UInt8)}(h:0≤i∧i≤l.length)(hl:¬i<((Ck k i.toNat++l.drop i.toNat).length:Int)):k+i=k+l.length:=by
 rw[SZ h] at hl;omega
def JL:Sig:= {X:=List (List UInt8)×List (List UInt8),args:=fun x=>[Es x.1,Es x.2],pre:=fun x=>x.1.length<2^62∧x.2.length<2^62,Y:=Unit,post:=fun x y=>True,res:=fun x y=> .bool (x.1==x.2),outs:=fun x y=>[.top,.top],keep:=false}
def Ta(x:List (List UInt8)×List (List UInt8)):LS:= {ι:=Int,inv:=fun i=>0≤i∧i≤x.1.length∧x.1.take i.toNat=x.2.take i.toNat,regs:=fun i=>[(0,Es x.1),(1,Es x.2),(5,.int .i64 i)],als:=[],meas:=fun i=>x.1.length-i.toNat}
theorem b9e:Ah G Tryz.prog 62 JL:=
 vcFun_okP [] [] false (fun x=>[(4,Ta x)]) Tryz.func62 rfl (by decide) trivial (fun(x:List (List UInt8)×List (List UInt8))=>(∀(y:Unit),True→True∧True∧True∧True)∧Ab ((↑(List.length x.1):Int) != (↑(List.length x.2):Int)) (rA JL x [.bool false,.top,.top]) (eA (Ta x) [AV.sl false 0 1 (List UInt8) Ag x.1,AV.sl false 0 1 (List UInt8) Ag x.2,.int .i64 (0:Int)]∧∀(i:Int),(0:Int)≤i∧i≤(↑(List.length x.1):Int)∧List.take (Int.toNat i) x.1=List.take (Int.toNat i) x.2→Ab (decide (i<(↑(List.length x.1):Int))) (true=true∧true=true∧((0:Int)≤i∧i<(↑(List.length x.1):Int))∧∀(e:List UInt8),x.1[Int.toNat i]? =some e→((0:Int)≤i∧i<(↑(List.length x.2):Int))∧∀(e_1:List UInt8),x.2[Int.toNat i]? =some e_1→Ab (!e==e_1) (rA JL x [.bool false,.top,.top]) (inR IntKind.i64 (i+(1:Int))∧eN (Ta x) i [AV.sl false 0 1 (List UInt8) Ag x.1,AV.sl false 0 1 (List UInt8) Ag x.2,.int .i64 (i+(1:Int))])) (rA JL x [.bool true,.top,.top]))) (fun x=>by kernel_rfl) fun(x:List (List UInt8)×List (List UInt8)) (hx:x.1.length<2^62∧x.2.length<2^62)=>(by
 dsimp only[eA,eN,Ta,rA,JL,Es,Aq,Aw,Ba]
 obtain⟨h1,h2⟩:=hx
 (repeat' first|(with_reducible first|rfl|exact True.intro|apply AG|apply And.intro|((first|apply Au|apply AE|apply Av|apply AF)<;>intro _))|(apply As<;>intro _)|apply AD|refine Af () ?_ ?_|((first|apply AK|apply AJ|apply AI|apply AH|apply AC|apply AB|apply AA|apply Az|apply Ax)<;>try dsimp only)|apply Af|(refine Prod.forall.2 ?_;intro _;try dsimp only)|(intro _;try dsimp only))<;>(try dsimp only at*)<;>(try simp only[Aj,List.length_cons,List.length_nil])<;>(try omega)
 ·rename_i h;exact PT (fun e=>h (by rw[e]))
 ·rfl
 ·rename_i h i hi hl e he f hf hn
  exact PT (fun e=>by rw[e,hf] at he;rw[Option.some.inj he] at hn;simp at hn)
 ·rename_i h i hi hl e he f hf hn
  exact UL hi.1 hi.2.2 he hf (by simpa using hn)
 ·rename_i h i hi hl
  exact ZQ (UM (by omega) hi.2.2 (by omega)))
def HK:Sig:= {X:=List (List UInt8)×Int×List (List UInt8)×Int,args:=fun x=>[.agg [Es x.1,.int .i64 x.2.1],.agg [Es x.2.2.1,.int .i64 x.2.2.2]],pre:=fun x=>x.1.length<2^62∧x.2.2.1.length<2^62,Y:=Unit,post:=fun x y=>True,res:=fun x y=> .bool (x.1==x.2.2.1&&decide (x.2.1=x.2.2.2)),outs:=fun x y=>[.top,.top],keep:=false}
theorem b9f:Ah G Tryz.prog 24 HK:=
 vcFun_okP [(62,0,JL)] [] false (fun x=>[]) Tryz.func24 rfl (by decide) ⟨b9e,trivial⟩ (fun(x:List (List UInt8)×Int×List (List UInt8)×Int)=>(∀(y:Unit),True→True∧True∧True∧True)∧cA JL [AV.sl false 0 1 (List UInt8) Ag x.1,AV.sl false 0 1 (List UInt8) Ag x.2.2.1] fun x_1 y=>Ab (!x_1.1==x_1.2) (rA HK x [.bool false,.top,.top]) (Ab (x.2.1 != x.2.2.2) (rA HK x [.bool false,.top,.top]) (rA HK x [.bool true,.top,.top]))) (fun x=>by kernel_rfl) fun(x:List (List UInt8)×Int×List (List UInt8)×Int) (hx:x.1.length<2^62∧x.2.2.1.length<2^62)=>(by
 dsimp only[cA,rA,JL,HK,Es,Aq,Aw,mvL,lnL,mvE,lnE,mvG,mvH,lnG,lnH]
 obtain⟨h1,h2⟩:=hx
 (repeat' first|(with_reducible first|rfl|exact True.intro|apply AG|apply And.intro|((first|apply Au|apply AE|apply Av|apply AF)<;>intro _))|(apply As<;>intro _)|apply AD|refine Af () ?_ ?_|((first|apply AK|apply AJ|apply AI|apply AH|apply AC|apply AB|apply AA|apply Az|apply Ax)<;>try dsimp only)|apply Af|(refine Prod.forall.2 ?_;intro _;try dsimp only)|(intro _;try dsimp only))
 all_goals first
  |assumption
  |(simp [*];done)
  |(simp_all;done)
  |skip)
def Nf:Sig:= {X:=List (List UInt8)×Int,args:=fun x=>[Cu x.1,.int .i64 x.2],pre:=fun x=>x.1.length≤2^41∧0≤x.2∧x.2≤2^50,Y:=Unit,post:=fun x y=>True,res:=fun x y=> .int .i64 (x.2+x.1.length),outs:=fun x y=>[Cu (Ck x.2 x.1.length),.top],keep:=false,fixed:=[0,0]}
def Tb(x:List (List UInt8)×Int):LS:= {ι:=Int,inv:=fun i=>0≤i∧i≤x.1.length,regs:=fun i=>[(0,Cu (Ck x.2 i.toNat++x.1.drop i.toNat)),(1,.int .i64 (x.2+i)),(5,.int .i64 i)],als:=[],meas:=fun i=>x.1.length-i.toNat}
theorem b9g:Ah G Tryz.prog 66 Nf:=
 vcFun_okP [(64,0,Hh)] [] false (fun x=>[(2,Tb x)]) Tryz.func66 rfl (by decide) ⟨Yf,trivial⟩ (fun(x:List (List UInt8)×Int)=>(∀(y:Unit),True→True∧(∀(x:List UInt8),True∧True)∧True∧True)∧eA (Tb x) [AV.sl true 0 1 (List UInt8) Ag x.1,.int .i64 x.2,.int .i64 (0:Int)]∧∀(i:Int),(0:Int)≤i∧i≤(↑(List.length x.1):Int)→Ab (decide (i<(↑(List.length (Ck x.2 (Int.toNat i)++List.drop (Int.toNat i) x.1)):Int))) (cA Hh [.int .i64 (x.2+i)] fun x_1 y=>((0:Int)≤i∧i<(↑(List.length (Ck x.2 (Int.toNat i)++List.drop (Int.toNat i) x.1)):Int))∧Int.toNat i<List.length (Ck x.2 (Int.toNat i)++List.drop (Int.toNat i) x.1)∧∀(x_2:List UInt8),(Ck x.2 (Int.toNat i)++List.drop (Int.toNat i) x.1)[Int.toNat i]? =some x_2→∃(x':List UInt8),((@List.nil AV)=[]∧(@List.nil AV)=[])∧EI x_1=x'∧inR IntKind.i64 (x.2+i+(1:Int))∧inR IntKind.i64 (i+(1:Int))∧eN (Tb x) i [AV.sl true 0 1 (List UInt8) Ag (List.set (Ck x.2 (Int.toNat i)++List.drop (Int.toNat i) x.1) (Int.toNat i) x'),.int .i64 (x.2+i+(1:Int)),.int .i64 (i+(1:Int))]) (rA Nf x [.int .i64 (x.2+i),AV.sl true 0 1 (List UInt8) Ag (Ck x.2 (Int.toNat i)++List.drop (Int.toNat i) x.1),.top])) (fun x=>by kernel_rfl) fun(x:List (List UInt8)×Int) (hx:x.1.length≤2^41∧0≤x.2∧x.2≤2^50)=>(by
 dsimp only[cA,eA,eN,Tb,Cu,rA,Nf,Hh,Aq,Aw,mvL,lnL,mvE,lnE,mvG,mvH,lnG,lnH,Ba]
 obtain⟨h1,h2,h3⟩:=hx
 (repeat' first|(with_reducible first|rfl|exact True.intro|apply AG|apply And.intro|((first|apply Au|apply AE|apply Av|apply AF)<;>intro _))|(apply As<;>intro _)|apply AD|refine Af () ?_ ?_|((first|apply AK|apply AJ|apply AI|apply AH|apply AC|apply AB|apply AA|apply Az|apply Ax)<;>try dsimp only)|apply Af|(refine Prod.forall.2 ?_;intro _;try dsimp only)|(intro _;try dsimp only))
 all_goals first
  |rfl
  |(simp [Ck];done)
  |exact b9b ‹_› ‹_›
  |exact b9c ‹_› ‹_›
  |exact b9d ‹_› ‹_›
  |((try simp only[Aj]);omega)
  |(have hi:=(show(0:Int)≤_∧_≤(x.1.length:Int) by assumption);have hl:= @SZ x.2 _ x.1 hi;(try simp only[Aj]);omega)
  |skip)
def Lm:Sig:= {X:=List (List UInt8)×Int,args:=fun x=>[Es x.1,.int .i64 x.2],pre:=fun x=>x.1=Ck x.2 x.1.length∧x.1.length≤2^41∧0≤x.2∧x.2≤2^50,Y:=Unit,post:=fun x y=>True,res:=fun x y=> .int .i64 (x.2+x.1.length),outs:=fun x y=>[.top,.top],keep:=false}
def Tc(x:List (List UInt8)×Int):LS:= {ι:=Int,inv:=fun i=>0≤i∧i≤x.1.length,regs:=fun i=>[(0,Es x.1),(1,.int .i64 (x.2+i)),(5,.int .i64 i)],als:=[],meas:=fun i=>x.1.length-i.toNat}
theorem b9h:Ah G Tryz.prog 67 Lm:=
 vcFun_okP [(64,0,Hh)] [] false (fun x=>[(2,Tc x)]) Tryz.func67 rfl (by decide) ⟨Yf,trivial⟩ (fun(x:List (List UInt8)×Int)=>(∀(y:Unit),True→True∧True∧True∧True)∧eA (Tc x) [AV.sl false 0 1 (List UInt8) Ag x.1,.int .i64 x.2,.int .i64 (0:Int)]∧∀(i:Int),(0:Int)≤i∧i≤(↑(List.length x.1):Int)→Ab (decide (i<(↑(List.length x.1):Int))) (true=true∧true=true∧((0:Int)≤i∧i<(↑(List.length x.1):Int))∧∀(e:List UInt8),x.1[Int.toNat i]? =some e→∃(x_1:Int),x_1≤(2:Int)^(60:Nat)∧x.2+i=x_1∧∃(y0:Unit),(∀(y:Unit),True→AV.str (EI x_1)=AV.str (EI x_1))∧true=true∧Ab (!e==EI x_1) (rA Lm x [.int .i64 (-1:Int),.top,.top]) (inR IntKind.i64 (x.2+i+(1:Int))∧inR IntKind.i64 (i+(1:Int))∧eN (Tc x) i [AV.sl false 0 1 (List UInt8) Ag x.1,.int .i64 (x.2+i+(1:Int)),.int .i64 (i+(1:Int))])) (rA Lm x [.int .i64 (x.2+i),.top,.top])) (fun x=>by kernel_rfl) fun(x:List (List UInt8)×Int) (hx:x.1=Ck x.2 x.1.length∧x.1.length≤2^41∧0≤x.2∧x.2≤2^50)=>(by
 dsimp only[eA,eN,Tc,rA,Lm,Es,Aq,Aw,Ba]
 obtain⟨h0,h1,h2,h3⟩:=hx
 have hat:∀ {i:Int} {v:List UInt8},0≤i→x.1[i.toNat]? =some v→v=EI (x.2+i):=by
  intro i v hi hv
  have hl:=(Cx hv).1
  rw[h0,b8Z hl] at hv
  simp only[Option.some.injEq] at hv
  rw[←hv,show((i.toNat:Nat):Int)=i by omega]
 (repeat' first|(with_reducible first|rfl|exact True.intro|apply AG|apply And.intro|((first|apply Au|apply AE|apply Av|apply AF)<;>intro _))|(apply As<;>intro _)|apply AD|refine Af () ?_ ?_|((first|apply AK|apply AJ|apply AI|apply AH|apply AC|apply AB|apply AA|apply Az|apply Ax)<;>try dsimp only)|apply Af|(refine Prod.forall.2 ?_;intro _;try dsimp only)|(intro _;try dsimp only))
 all_goals try(have hv:=hat (show 0≤_ from And.left ‹_›) ‹_›)
 all_goals first
  |rfl
  |((try simp only[Aj]);omega)
  |(exfalso;rename(_==EI _)=false=>hq;rw[hv] at hq;simp at hq)
  |skip)
def Ng:Sig:= {X:=List (List UInt8)×Int×Int,args:=fun x=>[.agg [Cu x.1,.int .i64 x.2.1],.int .i64 x.2.2],pre:=fun x=>x.1.length≤2^41∧0≤x.2.2∧x.2.2≤2^50,Y:=Unit,post:=fun x y=>True,res:=fun x y=> .int .i64 (x.2.2+x.1.length),outs:=fun x y=>[.agg [Cu (Ck x.2.2 x.1.length),.top],.top],keep:=false,fixed:=[0]}
theorem b9i:Ah G Tryz.prog 27 Ng:=
 vcFun_okP [(66,0,Nf)] [] false (fun x=>[]) Tryz.func27 rfl (by decide) ⟨b9g,trivial⟩ (fun(x:List (List UInt8)×Int×Int)=>(∀(y:Unit),True→True∧((∀(x:List UInt8),True∧True)∧True∧True)∧True∧True)∧cA Nf [AV.sl true 0 1 (List UInt8) Ag x.1,.int .i64 x.2.2] fun x_1 y=>rA Ng x [.int .i64 (x_1.2+(↑(List.length x_1.1):Int)),.agg [AV.sl true 0 1 (List UInt8) Ag (Ck x_1.2 (List.length x_1.1)),.int .i64 x.2.1],.top]) (fun x=>by kernel_rfl) fun(x:List (List UInt8)×Int×Int) (hx:x.1.length≤2^41∧0≤x.2.2∧x.2.2≤2^50)=>(by
 dsimp only[cA,Cu,rA,Nf,Ng,Aq,Aw,mvL,lnL,mvE,lnE,mvG,mvH,lnG,lnH]
 obtain⟨h1,h2,h3⟩:=hx
 (repeat' first|(with_reducible first|rfl|exact True.intro|apply AG|apply And.intro|((first|apply Au|apply AE|apply Av|apply AF)<;>intro _))|(apply As<;>intro _)|apply AD|refine Af () ?_ ?_|((first|apply AK|apply AJ|apply AI|apply AH|apply AC|apply AB|apply AA|apply Az|apply Ax)<;>try dsimp only)|apply Af|(refine Prod.forall.2 ?_;intro _;try dsimp only)|(intro _;try dsimp only))
 all_goals first
  |rfl
  |omega
  |skip)
def JM:Sig:= {X:=List (List UInt8)×Int×Int,args:=fun x=>[.agg [Es x.1,.int .i64 x.2.1],.int .i64 x.2.2],pre:=fun x=>x.1=Ck x.2.2 x.1.length∧x.1.length≤2^41∧0≤x.2.2∧x.2.2≤2^50,Y:=Unit,post:=fun x y=>True,res:=fun x y=> .int .i64 (x.2.2+x.1.length),outs:=fun x y=>[.top,.top],keep:=false}
theorem b9j:Ah G Tryz.prog 28 JM:=
 vcFun_okP [(67,0,Lm)] [] false (fun x=>[]) Tryz.func28 rfl (by decide) ⟨b9h,trivial⟩ (fun(x:List (List UInt8)×Int×Int)=>(∀(y:Unit),True→True∧True∧True∧True)∧cA Lm [AV.sl false 0 1 (List UInt8) Ag x.1,.int .i64 x.2.2] fun x_1 y=>Ab (decide (x_1.2+(↑(List.length x_1.1):Int)<(0:Int))) (rA JM x [.int .i64 (-1:Int),.top,.top]) (rA JM x [.int .i64 (x_1.2+(↑(List.length x_1.1):Int)),.top,.top])) (fun x=>by kernel_rfl) fun(x:List (List UInt8)×Int×Int) (hx:x.1=Ck x.2.2 x.1.length∧x.1.length≤2^41∧0≤x.2.2∧x.2.2≤2^50)=>(by
 dsimp only[cA,rA,Lm,JM,Es,Aq,Aw,mvL,lnL,mvE,lnE,mvG,mvH,lnG,lnH]
 obtain⟨h0,h1,h2,h3⟩:=hx
 (repeat' first|(with_reducible first|rfl|exact True.intro|apply AG|apply And.intro|((first|apply Au|apply AE|apply Av|apply AF)<;>intro _))|(apply As<;>intro _)|apply AD|refine Af () ?_ ?_|((first|apply AK|apply AJ|apply AI|apply AH|apply AC|apply AB|apply AA|apply Az|apply Ax)<;>try dsimp only)|apply Af|(refine Prod.forall.2 ?_;intro _;try dsimp only)|(intro _;try dsimp only))
 all_goals first
  |rfl
  |assumption
  |omega
  |skip)
theorem b9k(k:Int)(n:Nat):Ck k n=Ck k (Ck k n).length:=by rw[Nc]
attribute [local irreducible] wnR wfR
def FY(n:Nat):Sig:= {X:=List Nd×Int×Int×Int×Int,args:=fun x=>[nds x.1,.int .i64 x.2.1,.int .i64 x.2.2.1,.int .i64 x.2.2.2.1,.int .i64 x.2.2.2.2],pre:=fun x=>Gl x.1∧1048576≤n,Y:=Unit,post:=fun x y=>True,res:=fun x y=> .bool true,outs:=fun x y=>[.top,.top,.top,.top,.top],keep:=false}
set_option maxHeartbeats 4000000 in
theorem b9l(n:Nat):Ah G Tryz.prog 4 (FY n):=
 vcFun_okP [(20,0,JH),(22,0,IA),(21,0,(SK n)),(23,0,(Pg n)),(24,0,HK),(25,0,JK),(26,0,Nb),(27,0,Ng),(28,0,JM)] [] false (fun x=>[]) Tryz.func4 rfl (by decide) ⟨b8m,b8p,(b8j n (XE n)),(b8d n),b9f,b8s,b8O,b9i,b9j,trivial⟩ (fun(x:List Nd×Int×Int×Int×Int)=>(∀(y:Unit),True→True∧True∧True∧True∧True∧True∧True)∧cA JH [nds x.1,.int .i64 (1048576:Int)] fun x_1 y=>Ab (decide (DF x_1.1 x_1.2<(0:Int))) (rA (FY n) x [.bool true,.top,.top,.top,.top,.top]) (cA IA [nds x.1] fun x_2 y=>cA (SK n) [DM x_2,.int .i64 x.2.1,.int .i64 x.2.2.1,.int .i64 x.2.2.2.1,.int .i64 x.2.2.2.2] fun x_3 y=>cA IA [nds x.1] fun x_4 y=>cA (Pg n) [DM x_4,.int .i64 x.2.1,.int .i64 x.2.2.1,.int .i64 x.2.2.2.1,.int .i64 x.2.2.2.2] fun x_5 y=>cA HK [.agg [AV.sl true 0 1 (List UInt8) Ag (wnR x_5.1 n x_5.2.1 x_5.2.2.1 x_5.2.2.2.1 x_5.2.2.2.2).ls,.int .i64 (wnR x_5.1 n x_5.2.1 x_5.2.2.1 x_5.2.2.2.1 x_5.2.2.2.2).st],.agg [AV.sl true 0 1 (List UInt8) Ag (wnR x_3.1 n x_3.2.1 x_3.2.2.1 x_3.2.2.2.1 x_3.2.2.2.2).ls,.int .i64 (wnR x_3.1 n x_3.2.1 x_3.2.2.1 x_3.2.2.2.1 x_3.2.2.2.2).st]] fun x_6 y=>Ab (!(x_6.1==x_6.2.2.1&&decide (x_6.2.1=x_6.2.2.2))) (rA (FY n) x [.bool false,.top,.top,.top,.top,.top]) (cA IA [nds x.1] fun x_7 y=>cA JK [DM x_4,DM x_7] fun x_8 y=>Ab (!Gk x_8.1 x_8.2) (rA (FY n) x [.bool false,.top,.top,.top,.top,.top]) (cA Nb [DM x_4,.int .i64 (1:Int)] fun x_9 y=>Ab (decide (x_9.2+Ca szN x_9.1<(0:Int))) (rA (FY n) x [.bool false,.top,.top,.top,.top,.top]) (cA HK [.agg [AV.sl true 0 1 (List UInt8) Ag (wnR x_5.1 n x_5.2.1 x_5.2.2.1 x_5.2.2.2.1 x_5.2.2.2.2).ls,.int .i64 (wnR x_5.1 n x_5.2.1 x_5.2.2.1 x_5.2.2.2.1 x_5.2.2.2.2).st],.agg [AV.sl true 0 1 (List UInt8) Ag (wnR x_3.1 n x_3.2.1 x_3.2.2.1 x_3.2.2.2.1 x_3.2.2.2.2).ls,.int .i64 (wnR x_3.1 n x_3.2.1 x_3.2.2.1 x_3.2.2.2.1 x_3.2.2.2.2).st]] fun x_10 y=>Ab (!(x_10.1==x_10.2.2.1&&decide (x_10.2.1=x_10.2.2.2))) (rA (FY n) x [.bool false,.top,.top,.top,.top,.top]) (cA Ng [.agg [AV.sl true 0 1 (List UInt8) Ag (wnR x_5.1 n x_5.2.1 x_5.2.2.1 x_5.2.2.2.1 x_5.2.2.2.2).ls,.int .i64 (wnR x_5.1 n x_5.2.1 x_5.2.2.1 x_5.2.2.2.1 x_5.2.2.2.2).st],.int .i64 (1:Int)] fun x_11 y=>cA JM [.agg [AV.sl true 0 1 (List UInt8) Ag (Ck x_11.2.2 (List.length x_11.1)),.int .i64 (wnR x_5.1 n x_5.2.1 x_5.2.2.1 x_5.2.2.2.1 x_5.2.2.2.2).st],.int .i64 (1:Int)] fun x_12 y=>Ab (decide (x_12.2.2+(↑(List.length x_12.1):Int)<(0:Int))) (rA (FY n) x [.bool false,.top,.top,.top,.top,.top]) (Ab (x_12.2.2+(↑(List.length x_12.1):Int) != x_11.2.2+(↑(List.length x_11.1):Int)) (rA (FY n) x [.bool false,.top,.top,.top,.top,.top]) (cA IA [nds x.1] fun x_13 y=>cA (Pg n) [DM x_13,.int .i64 x.2.1,.int .i64 x.2.2.1,.int .i64 x.2.2.2.1,.int .i64 x.2.2.2.2] fun x_14 y=>cA HK [.agg [AV.sl true 0 1 (List UInt8) Ag (wnR x_14.1 n x_14.2.1 x_14.2.2.1 x_14.2.2.2.1 x_14.2.2.2.2).ls,.int .i64 (wnR x_14.1 n x_14.2.1 x_14.2.2.1 x_14.2.2.2.1 x_14.2.2.2.2).st],.agg [AV.sl true 0 1 (List UInt8) Ag (wnR x_3.1 n x_3.2.1 x_3.2.2.1 x_3.2.2.2.1 x_3.2.2.2.2).ls,.int .i64 (wnR x_3.1 n x_3.2.1 x_3.2.2.1 x_3.2.2.2.1 x_3.2.2.2.2).st]] fun x_15 y=>Ab (!(x_15.1==x_15.2.2.1&&decide (x_15.2.1=x_15.2.2.2))) (rA (FY n) x [.bool false,.top,.top,.top,.top,.top]) (cA JM [.agg [AV.sl true 0 1 (List UInt8) Ag (Ck x_11.2.2 (List.length x_11.1)),.int .i64 (wnR x_5.1 n x_5.2.1 x_5.2.2.1 x_5.2.2.2.1 x_5.2.2.2.2).st],.int .i64 (1:Int)] fun x_16 y=>Ab (decide (x_16.2.2+(↑(List.length x_16.1):Int)<(0:Int))) (rA (FY n) x [.bool false,.top,.top,.top,.top,.top]) (Ab (x_16.2.2+(↑(List.length x_16.1):Int) != x_11.2.2+(↑(List.length x_11.1):Int)) (rA (FY n) x [.bool false,.top,.top,.top,.top,.top]) (rA (FY n) x [.bool true,.top,.top,.top,.top,.top]))))))))))) (fun x=>by kernel_rfl) fun(x:List Nd×Int×Int×Int×Int) (hx:Gl x.1∧1048576≤n)=>(by
 dsimp only[cA,Bi,nds,DM,Cu,rA,JK,HK,JM,FY,Nb,Ng,JH,IA,Pg,SK,Es,Aq,Aw,mvL,lnL,mvE,lnE,mvG,mvH,lnG,lnH]
 obtain⟨ns,k,i,w,bud⟩:=x;dsimp only at hx ⊢
 obtain⟨h1,hn⟩:=hx
 have h1:Gl ns:=h1
 simp only[a8H]
 (repeat' first|(with_reducible first|rfl|exact True.intro|apply AG|apply And.intro|((first|apply Au|apply AE|apply Av|apply AF)<;>intro _))|(apply As<;>intro _)|apply AD|refine Af () ?_ ?_|((first|apply AK|apply AJ|apply AI|apply AH|apply AC|apply AB|apply AA|apply Az|apply Ax)<;>try dsimp only)|apply Af|(refine Prod.forall.2 ?_;intro _;try dsimp only)|(intro _;try dsimp only))
 all_goals try(have hr:=a7b (show¬DF ns 1048576<0 by assumption);have ht:= @b8X ns n ‹_› hn;have hl:= @b8Y ns n k i w bud ht;have hn1:=a7a szN ns)
 all_goals try rw[b8P] at*
 all_goals first
  |exact h1
  |assumption
  |omega
  |contradiction
  |exact gB6 ‹_›
  |exact b8Q hr
  |exact a7c hr
  |exact b8T hr
  |exact b8R hr
  |exact b9k _ _
  |(rw[Nc];omega)
  |exact gB3 ‹_›
  |(exact fun e he=>gB4 ‹_› he)
  |(have:=gB4 ‹_› ‹_›;omega)
  |(simp only[ne_eq,not_true_eq_false] at*;done)
  |(exfalso;simp [a8E] at*;done)
  |(exfalso;simp [Nc] at*;done)
  |skip)
end Go.My
end
section
namespace Go.Eng
open Go.ChangeShapes Go.WideShapes Go.ChangeAt Go.RowKit
theorem after_below{Z Z' A':FP}{w w':World}(h:After Z w (fun _=>False) Z' w' A'):Below w.heap.size w w':=
 ⟨h.os,h.tape,h.output,h.size,fun b hb=>(h.old b hb (fun x=>x)).1⟩
theorem a7e{H:Type}{enc:TypeId×Value→H}{P:Program}(hl:laidOutB P=true){W W':World}(hb:Below W.heap.size W W'):
 ∀(ts:List TypeId) (vs:List Value) (ds:List (DataW H)) (ps:List MemPlace),ts.all (fun t=>P.readableRec t&&decide (t<P.types.size))=true→
 DataW.TrodAll enc P W 0 (fun _=>true) true ts vs ds ps→(∀x∈ps,x.block<W.heap.size)→DataW.TrodAll enc P W' 0 (fun b=>decide (b<W.heap.size)) true ts vs ds ps
 |[],[],[],ps,ht,h,hp=>h
 |t::ts,v::vs,d::ds,ps,ht,h,hp=>by
  obtain⟨p,q,h1,h2,rfl⟩:=h
  simp only[List.all_cons,Bool.and_eq_true,decide_eq_true_eq] at ht
  exact⟨p,q,Below.trod hl ht.1.1 ht.1.2 h1 hb (fun x hx=>hp x (List.mem_append_left _ hx)),a7e hl hb ts vs ds q ht.2 h2 (fun x hx=>hp x (List.mem_append_right _ hx)),rfl⟩
 |[],_::_,_,_,ht,h,hp=>h.elim
 |[],[],_::_,_,ht,h,hp=>h.elim
 |_::_,[],_,_,ht,h,hp=>h.elim
 |_::_,_::_,[],_,ht,h,hp=>h.elim
theorem b9m{H:Type}{enc:TypeId×Value→H}{P:Program}{f:Func}{s:ChangeSpec}{W W':World}{args:Array Value}{ds gs:List (DataW H)}{before:List MemPlace}{tb:TypeId}
 (hl:laidOutB P=true) (ht:f.params.toList.all (fun t=>P.readableRec t&&decide (t<P.types.size))=true) (hv:s.vars=[])
 (hs:s.fn H ds= {results:=[.lit (.bool true)],args:=ds}) (hr:f.resultTypes= #[tb]) (htb:P.underlying tb=some .bool)
 (hW:DataW.Whole enc P f.params.toList s.vars false W args.toList ds gs before) (hb:Below W.heap.size W W'):s.post enc P f false true false false W args (.bool true) W':=by
 have hW0:=hW
 obtain⟨p,q,hA,hV,rfl,hfz,hnd⟩:=hW
 rw[hv] at hV
 obtain⟨rfl,rfl⟩:=trodVars_none hV
 refine⟨ds,[],p++[],[],p,[],hW0,?_,?_,?_,hb.frame _,fun h=>by cases h⟩
 ·simp only[List.append_nil]
  rw[hs,hr]
  exact trodAll_mk1 (shut_bool htb _)
 ·simp only[List.append_nil]
  rw[hs]
  exact a7e hl hb _ _ _ _ ht hA (fun x hx=>by simpa using hW0.lt x (by simpa using hx))
 ·simp only[List.append_nil]
  rw[hs,hv]
  rfl
def noG:GInv:=⟨fun _ _=>True,fun _ _ _ _ _ _=>trivial⟩
def b9n(X:Type)(args:X→List AV)(pre:X→Prop)(n:Nat):Sig:=
 {X:=X,args:=args,pre:=pre,Y:=Unit,post:=fun _ _=>True,res:=fun _ _=> .bool true,outs:=fun _ _=>List.replicate n .top,keep:=false}
theorem b9o{H:Type}{enc:TypeId×Value→H}{P:Program}{fi:FuncId}{f:Func}{s:ChangeSpec}{W:World}{args:Array Value}{ds gs:List (DataW H)}{before:List MemPlace}{tb:TypeId}
 {X:Type} {azs:X→List AV} {pre:X→Prop} {n:Nat} {G:GInv} (hc:Ah G P fi (b9n X azs pre n)) (hG:G.p (Old W) W)
 (hl:laidOutB P=true) (ht:f.params.toList.all (fun t=>P.readableRec t&&decide (t<P.types.size))=true) (hv:s.vars=[])
 (hs:s.fn H ds= {results:=[.lit (.bool true)],args:=ds}) (hr:f.resultTypes= #[tb]) (htb:P.underlying tb=some .bool)
 (hW:DataW.Whole enc P f.params.toList s.vars false W args.toList ds gs before)
 (ho:∃x,pre x∧AS (Old W) W (azs x) args.toList (fun _=>False)):
 Calls P fi args W fun e W'=>∃v,e= .returned v∧s.post enc P f false true false false W args v W':=by
 obtain⟨x,hx,hrel⟩:=ho
 refine(hc.2 x hx (Old W) W args.toList _ hG hrel (fun b h=>h.elim) trivial).mono fun e W' h=> ?_
 obtain⟨y,v,Z',A',_,rfl,hr2,hafter⟩:=h
 simp only[AS] at hr2
 obtain⟨v',us,A1,A2,e1,_,h1,_⟩:=hr2
 simp only[List.cons.injEq] at e1
 obtain⟨rfl,_⟩:=e1
 have:v= .bool true:=by
  have h1:Ai Z' W' (.bool true) v A1:=h1
  simp only[Ai] at h1;exact h1.1
 subst this
 exact⟨_,rfl,b9m hl ht hv hs hr htb hW (after_below hafter)⟩
end Go.Eng
end
section
namespace Go.Eng
open Go.ChangeShapes Go.WideShapes Go.ChangeAt Go.RowKit
theorem a7f{H:Type}{enc:TypeId×Value→H}{P:Program}{t:TypeId}{α:Type}{f:α→AV}{good:α→Prop}(hO:Opens P t (fun x=>[f x]) good){W:World}{v:Value}(hc:Cs v)
 {d:DataW H} {ps:List MemPlace} (h:DataW.Trod enc P W 0 (fun _=>true) true t v d ps):∃x,good x∧Ai (Old W) W (f x) v (fun _=>False):=by
 obtain⟨fuel,hf⟩:=h
 rw[Lv hc] at hf
 obtain⟨x,hg,hr⟩:=hO enc W _ _ fuel _ _ hf
 exact⟨x,hg,Ih.1 hr⟩
theorem Td{H:Type}{enc:TypeId×Value→H}{P:Program}{t:TypeId}{k:IntKind}(ht:P.underlying t=some (.int k)){W:World}{r:Reach}{base:Nat}{v:Value}(hv:Value.okWide P W r base t v)
 {d:DataW H} {ps:List MemPlace} (h:DataW.Trod enc P W 0 (fun _=>true) true t v d ps):∃n,inR k n∧Ai (Old W) W (.int k n) v (fun _=>False):=
 a7f (VN ht) (by obtain⟨n,rfl⟩:=okWide_int ht hv;trivial) h
theorem b9p{H:Type}{enc:TypeId×Value→H}{P:Program}{t e:TypeId}{α:Type}{f:α→AV}{good:α→Prop}(ht:P.underlying t=some (.slice e))(hO:Opens P t (fun x=>[f x]) good)
 {W:World} {r:Reach} {base:Nat} {v:Value} (hv:Value.okWide P W r base t v)
 {d:DataW H} {ps:List MemPlace} (h:DataW.Trod enc P W 0 (fun _=>true) true t v d ps):∃x,good x∧Ai (Old W) W (f x) v (fun _=>False):=
 a7f hO (by obtain⟨a,l,c,rfl⟩:=okWide_slice ht hv;trivial) h
theorem b9q{Z:FP}{w:World}:AS Z w [] [] (fun _=>False):=⟨rfl,AO⟩
theorem b9r{P:Program}{t:TypeId}{f0 f1 f2 f3:Field}{α β γ δ:Type}{a:α→AV}{b:β→AV}{c:γ→AV}{d:δ→AV}{ga:α→Prop}{gb:β→Prop}{gc:γ→Prop}{gd:δ→Prop}
 (ht:P.underlying t=some (.struct #[f0,f1,f2,f3])) (hn:P.cellsOf t=4)
 (h0:f0.offset=0∧P.cellsOf f0.type=1) (h1:f1.offset=1∧P.cellsOf f1.type=1) (h2:f2.offset=2∧P.cellsOf f2.type=1) (h3:f3.offset=3∧P.cellsOf f3.type=1)
 (o0:Opens P f0.type (fun x=>[a x]) ga) (o1:Opens P f1.type (fun x=>[b x]) gb) (o2:Opens P f2.type (fun x=>[c x]) gc) (o3:Opens P f3.type (fun x=>[d x]) gd):
 Opens P t (fun x:α×β×γ×δ=>[a x.1,b x.2.1,c x.2.2.1,d x.2.2.2]) (fun x=>ga x.1∧gb x.2.1∧gc x.2.2.1∧gd x.2.2.2):=by
 intro H enc w spare held fuel cs y h
 obtain⟨hl,n,hf⟩:=b2k ht hn (fun i f hi=>by
  match i,hi with
  |0,hi=>simp at hi;subst hi;exact h0
  |1,hi=>simp at hi;subst hi;exact h1
  |2,hi=>simp at hi;subst hi;exact h2
  |3,hi=>simp at hi;subst hi;exact h3
  |n+4,hi=>simp at hi) h
 match cs,hl with
 |[c0,c1,c2,c3],_=>
  obtain⟨z0,e0⟩:=hf 0 _ c0 rfl rfl
  obtain⟨z1,e1⟩:=hf 1 _ c1 rfl rfl
  obtain⟨z2,e2⟩:=hf 2 _ c2 rfl rfl
  obtain⟨z3,e3⟩:=hf 3 _ c3 rfl rfl
  obtain⟨x0,g0,r0⟩:=o0 enc w _ _ _ _ _ e0
  obtain⟨x1,g1,r1⟩:=o1 enc w _ _ _ _ _ e1
  obtain⟨x2,g2,r2⟩:=o2 enc w _ _ _ _ _ e2
  obtain⟨x3,g3,r3⟩:=o3 enc w _ _ _ _ _ e3
  exact⟨(x0,x1,x2,x3),⟨g0,g1,g2,g3⟩,Jj (Ih.1 r0) (Jj (Ih.1 r1) (Jj (Ih.1 r2) r3))⟩
theorem opens_map{P:Program}{t:TypeId}{α β:Type}{f:α→List AV}{g:β→List AV}{p:α→Prop}{q:β→Prop}(m:α→β)(ho:Opens P t f p)(hf:∀x,f x=g (m x))(hg:∀x,p x→q (m x)):Opens P t g q:=by
 intro H enc w spare held fuel cs y h
 obtain⟨x,hx,hr⟩:=ho enc w _ _ fuel _ _ h
 exact⟨m x,hg x hx,by rw[←hf];exact hr⟩
end Go.Eng
end
section
set_option maxRecDepth 100000
namespace Go.My
open Go.Eng Go.Proofs
variable {G:GInv}
theorem b9s:Opens Tryz.prog 38 (fun l:List Int=>[Ad l]) (fun l=>l.length<2^63∧∀x∈l,inR .i64 x):=
 a1K (e:=3) rfl (by kernel_rfl) (by decide) (VN rfl)
theorem b9t:Opens Tryz.prog 92 (ndA false) GK:=
 opens_map (fun x:Int×List UInt8×List Int×Bool=>(⟨x.1,x.2.1,x.2.2.1,x.2.2.2⟩:Nd)) (b9r (t:=92) (P:=Tryz.prog) (a:=fun n=> .int .i64 n) (b:= .str) (c:=Ad) (d:= .bool)
  (gd:=fun _=>True) rfl (by kernel_rfl) ⟨by kernel_rfl,by kernel_rfl⟩ ⟨by kernel_rfl,by kernel_rfl⟩ ⟨by kernel_rfl,by kernel_rfl⟩ ⟨by kernel_rfl,by kernel_rfl⟩ (VN (k:= .i64) rfl) (b2j rfl) b9s (b2i rfl)) (fun _=>rfl) (fun x h=>⟨h.2.1,h.2.2.1.1⟩)
theorem b9u:Opens Tryz.prog 46 (fun l:List Nd=>[nds l]) Gl:=
 a1K (e:=92) rfl (by kernel_rfl) (by decide) b9t
end Go.My
end
section
namespace Go.My
open Go Go.ChangeShapes Go.RowKit
variable {H:Type} {enc:TypeId×Value→H} {P:Program} {w:World} {base:Nat} {spare:Nat→Bool} {held:Bool}
theorem b9v{t t' t'' t3 t4:TypeId}{args:Array Value}{ds:List (DataW H)}{ps:List MemPlace}(h:DataW.TrodAll enc P w base spare held [t,t',t'',t3,t4] args.toList ds ps):
 ∃v v' v'' v3 v4 d d' d'' d3 d4 p p' p'' p3 p4,args= #[v,v',v'',v3,v4]∧ds=[d,d',d'',d3,d4]∧ps=p++p'++p''++p3++p4∧DataW.Trod enc P w base spare held t v d p∧DataW.Trod enc P w base spare held t' v' d' p'∧DataW.Trod enc P w base spare held t'' v'' d'' p''∧DataW.Trod enc P w base spare held t3 v3 d3 p3∧DataW.Trod enc P w base spare held t4 v4 d4 p4:=by
 obtain⟨v,vs,d,ds',p,q,hargs,rfl,rfl,hd,hrest⟩:=trodAll_cons h
 obtain⟨v',vs',d',ds'',p',q',rfl,rfl,rfl,hd',hrest'⟩:=trodAll_cons hrest
 obtain⟨v'',vs'',d'',ds''',p'',q'',rfl,rfl,rfl,hd'',hrest''⟩:=trodAll_cons hrest'
 obtain⟨v3,vs3,d3,ds3,p3,q3,rfl,rfl,rfl,hd3,hrest3⟩:=trodAll_cons hrest''
 obtain⟨v4,vs4,d4,ds4,p4,q4,rfl,rfl,rfl,hd4,hrest4⟩:=trodAll_cons hrest3
 obtain⟨rfl,rfl,rfl⟩:=trodAll_nil hrest4
 exact⟨v,v',v'',v3,v4,d,d',d'',d3,d4,p,p',p'',p3,p4,by cases args;simp_all,rfl,by simp,hd,hd',hd'',hd3,hd4⟩
end Go.My
end
