/- joined -/
import Derived.Test.YtblmpjljedglaaaGreatDoorQI
set_option linter.unusedSimpArgs false
set_option linter.unusedVariables false
section
namespace Go.My
open Go.Eng Go.Proofs
variable {G:GInv}
structure BC where
 ind:Int
 ns:List Nd
 rd:Bool
def buA(c:BC)(s:Bs):AV:= .box 0 [.int .i64 c.ind,.sl true 0 2 Ru ruA s.rules,.sl true 0 5 Ch chA s.chunks,.sl true 0 3 Sn snA s.spans,.sl true 0 2 Ti tiA s.ties,nds c.ns,.str s.text,.bool c.rd]
abbrev xC {α:Type} (x:BC×List Ru×List Ch×List Sn×List Ti×List UInt8×α):Bs:=⟨x.2.1,x.2.2.1,x.2.2.2.1,x.2.2.2.2.1,x.2.2.2.2.2.1⟩
abbrev yBW (y:List Ru×List Ch×List Sn×List Ti×List UInt8):Bs:=⟨y.1,y.2.1,y.2.2.1,y.2.2.2.1,y.2.2.2.2⟩
abbrev BT:Type:=List Ru×List Ch×List Sn×List Ti×List UInt8
structure bB (s:Bs):Prop where
 ok:bOk s
 tt:tot s≤2^61
theorem Ha{s:Bs}(h:bB s):s.text.length≤2^61:=by have:=h.tt;unfold tot at this;omega
theorem a3r{a b:Int}{q:Ru→Prop}(h:q ⟨a,b⟩):∃x:Ru,a=x.vals∧b=x.cost∧q x:=⟨⟨a,b⟩,rfl,rfl,h⟩
theorem a3s{a b:Int}{q:Ti→Prop}(h:q ⟨a,b⟩):∃x:Ti,a=x.kid∧b=x.up∧q x:=⟨⟨a,b⟩,rfl,rfl,h⟩
theorem a3t{a b c:Int}{q:Sn→Prop}(h:q ⟨a,b,c⟩):∃x:Sn,a=x.fr∧b=x.tuu∧c=x.cost∧q x:=⟨⟨a,b,c⟩,rfl,rfl,rfl,h⟩
theorem Rv{t:List UInt8}{a b d:Int}{c:Bool}{q:Ch→Prop}(h:q ⟨t,a,b,c,d⟩):∃x:Ch,t=x.text∧a=x.rule∧b=x.fr∧c=x.space∧d=x.nest∧q x:=⟨⟨t,a,b,c,d⟩,rfl,rfl,rfl,rfl,rfl,h⟩
theorem Rx{rd:Bool}{v c:Int}{s:Bs}(h:rd=false∨(s.rules.length:Int)≥8):Bd rd v c s=s∧AM rd s= -1:=by
 have:FM rd s=false:=by
  rcases h with h|h
  ·simp [FM,h]
  ·simp [FM];intro _;omega
 simp [Bd,AM,this]
theorem a3u{rd:Bool}{v c:Int}{s:Bs}(h:rd=true)(h2:¬(s.rules.length:Int)≥8):Bd rd v c s=⟨s.rules++[⟨v,c⟩],s.chunks,s.spans,s.ties,s.text⟩∧AM rd s=s.rules.length:=by
 have:FM rd s=true:=by simp [FM,h];omega
 simp [Bd,AM,this]
def Ry(t:List UInt8)(r f:Int)(sp:Bool)(n:Int):Ch:=⟨t,r,f,sp,min n 40⟩
theorem b3N{r fr nest:Int}{sp:Bool}{s:Bs}(h:r≥0)(h2:(s.chunks.length:Int)<79):AU r fr sp nest s=⟨s.rules,s.chunks++[Ry s.text r fr sp nest],s.spans,s.ties,[]⟩:=by rw[AU,if_pos ⟨by omega,by omega⟩];rfl
theorem a3v{r fr nest:Int}{sp:Bool}{s:Bs}(h:¬r≥0∨¬(s.chunks.length:Int)<79)(h2:sp=true):AU r fr sp nest s=⟨s.rules,s.chunks,s.spans,s.ties,s.text++[32]⟩:=by rw[AU,if_neg (by omega),if_pos h2];rfl
theorem a3w{r fr nest:Int}{sp:Bool}{s:Bs}(h:¬r≥0∨¬(s.chunks.length:Int)<79)(h2:sp=false):AU r fr sp nest s=s:=by rw[AU,if_neg (by omega),if_neg (by simp [h2])]
theorem b3O{k u:Int}{s:Bs}(h:k≥0)(h1:u≥0)(h2:(s.ties.length:Int)<20):CH k u s=⟨s.rules,s.chunks,s.spans,s.ties++[⟨k,u⟩],s.text⟩:=by rw[CH,if_pos (by omega)]
theorem WH{k u:Int}{s:Bs}(h:(¬k≥0∨¬u≥0)∨¬(s.ties.length:Int)<20):CH k u s=s:=by rw[CH,if_neg (by omega)]
theorem a3x{f:Int}{s:Bs}(h:(s.chunks.length:Int)-1≥f)(h2:(s.spans.length:Int)<40):Fe f s=⟨s.rules,s.chunks,s.spans++[⟨f,(s.chunks.length:Int)-1,1⟩],s.ties,s.text⟩:=by rw[Fe,if_pos (by omega)]
theorem WI{f:Int}{s:Bs}(h:¬(s.chunks.length:Int)-1≥f∨¬(s.spans.length:Int)<40):Fe f s=s:=by rw[Fe,if_neg (by omega)]
def DD:Sig:= {X:=BC×List Ru×List Ch×List Sn×List Ti×List UInt8×Int×Int,args:=fun x=>[buA x.1 (xC x),.int .i64 x.2.2.2.2.2.2.1,.int .i64 x.2.2.2.2.2.2.2],pre:=fun x=>bB (xC x),Y:=BT,post:=fun x y=>yBW y=Bd x.1.rd x.2.2.2.2.2.2.1 x.2.2.2.2.2.2.2 (xC x),res:=fun x y=> .int .i64 (AM x.1.rd (xC x)),outs:=fun x y=>[buA x.1 (yBW y),.top,.top],keep:=true}
theorem MB:Ah G Tryz.prog 79 DD:=
 vcFun_okP [] [(27,⟨Ru,ruA⟩)] false (fun x=>[]) Tryz.func79 rfl (by decide) trivial (fun(x:BC×List Ru×List Ch×List Sn×List Ti×List UInt8×Int×Int)=>True∧Ab (!x.1.rd) (rA DD x [.int .i64 (-1:Int),.box 0 [.int .i64 x.1.ind,AV.sl true 0 2 Ru ruA (xC x).rules,AV.sl true 0 5 Ch chA (xC x).chunks,AV.sl true 0 3 Sn snA (xC x).spans,AV.sl true 0 2 Ti tiA (xC x).ties,nds x.1.ns,.str (xC x).text,.bool x.1.rd],.top,.top]) (Ab (decide ((↑(List.length (xC x).rules):Int)≥(8:Int))) (rA DD x [.int .i64 (-1:Int),.box 0 [.int .i64 x.1.ind,AV.sl true 0 2 Ru ruA (xC x).rules,AV.sl true 0 5 Ch chA (xC x).chunks,AV.sl true 0 3 Sn snA (xC x).spans,AV.sl true 0 2 Ti tiA (xC x).ties,nds x.1.ns,.str (xC x).text,.bool x.1.rd],.top,.top]) (∃(x_1:Ru),x.2.2.2.2.2.2.1=x_1.vals∧x.2.2.2.2.2.2.2=x_1.cost∧∃(zs:List Ru),AV.sl true 0 2 Ru ruA [x_1]=AV.sl true 0 2 Ru ruA zs∧Bg ruA∧AY (List.length (xC x).rules+List.length zs) (16:Nat)∧inR IntKind.i64 ((↑(List.length ((xC x).rules++zs)):Int)-(1:Int))∧∃(y:BT),yBW y=Bd x.1.rd x.2.2.2.2.2.2.1 x.2.2.2.2.2.2.2 (xC x)∧(↑(List.length ((xC x).rules++zs)):Int)-(1:Int)=AM x.1.rd (xC x)∧x.1.ind=x.1.ind∧AV.sl true 0 2 Ru ruA ((xC x).rules++zs)=AV.sl true 0 2 Ru ruA (yBW y).rules∧AV.sl true 0 5 Ch chA (xC x).chunks=AV.sl true 0 5 Ch chA (yBW y).chunks∧AV.sl true 0 3 Sn snA (xC x).spans=AV.sl true 0 3 Sn snA (yBW y).spans∧AV.sl true 0 2 Ti tiA (xC x).ties=AV.sl true 0 2 Ti tiA (yBW y).ties∧nds x.1.ns=nds x.1.ns∧(xC x).text=(yBW y).text∧x.1.rd=x.1.rd∧True))) (fun x=>by kernel_rfl) fun(x:BC×List Ru×List Ch×List Sn×List Ti×List UInt8×Int×Int) (hx:bB (xC x))=>(by
 dsimp only[buA,Bl,Bi,nds,rA,Bj,DD,Bm,Bn,Aq,Aw]
 obtain⟨⟨i,ns,rd⟩,r,c,s,t,u,a,b⟩:=x;dsimp only[xC] at hx ⊢
 have hx:bB ⟨r,c,s,t,u⟩:=hx
 have h1:=hx.ok.ru;dsimp only at h1
 (repeat' first|refine a3r ?_|(with_reducible first|rfl|exact True.intro|apply AG|apply And.intro|((first|apply Au|apply AE|apply Av|apply AF)<;>intro _))|(apply As<;>intro _)|apply AD|refine Af () ?_ ?_|((first|apply AK|apply AJ|apply AI|apply AH|apply AC|apply AB|apply AA|apply Az|apply Ax)<;>try dsimp only)|apply Af|(refine Prod.forall.2 ?_;intro _;try dsimp only)|(intro _;try dsimp only))
 all_goals try(first|(have hF:= @Rx rd a b ⟨r,c,s,t,u⟩ (.inl ‹_›))|(have hF:= @Rx rd a b ⟨r,c,s,t,u⟩ (.inr ‹_›))|(have hF:= @a3u rd a b ⟨r,c,s,t,u⟩ ‹_› ‹_›))
 all_goals first
  |rfl
  |(simp only[hF];done)
  |(simp only[hF,List.length_append,List.length_cons,List.length_nil];omega)
  |((try simp only[Aj,AY,List.length_append,List.length_cons,List.length_nil]);omega)
  |skip)
def CU:Sig:= {X:=BC×List Ru×List Ch×List Sn×List Ti×List UInt8×Int×Int×Bool×Int,args:=fun x=>[buA x.1 (xC x),.int .i64 x.2.2.2.2.2.2.1,.int .i64 x.2.2.2.2.2.2.2.1,.bool x.2.2.2.2.2.2.2.2.1,.int .i64 x.2.2.2.2.2.2.2.2.2],pre:=fun x=>bB (xC x),Y:=BT,post:=fun x y=>yBW y=AU x.2.2.2.2.2.2.1 x.2.2.2.2.2.2.2.1 x.2.2.2.2.2.2.2.2.1 x.2.2.2.2.2.2.2.2.2 (xC x),res:=fun x y=> .tup [],outs:=fun x y=>[buA x.1 (yBW y),.top,.top,.top,.top],keep:=true}
def b3P(x:BC×List Ru×List Ch×List Sn×List Ti×List UInt8×Int×Int×Bool×Int):LS:= {ι:=Unit,inv:=fun _=>x.2.2.2.2.2.2.1≥0∧((xC x).chunks.length:Int)<79,regs:=fun _=>[(0,buA x.1 ⟨(xC x).rules,(xC x).chunks++[Ry (xC x).text x.2.2.2.2.2.2.1 x.2.2.2.2.2.2.2.1 x.2.2.2.2.2.2.2.2.1 x.2.2.2.2.2.2.2.2.2],(xC x).spans,(xC x).ties,(xC x).text⟩)],als:=[],meas:=fun _=>0}
def Hb(x:BC×List Ru×List Ch×List Sn×List Ti×List UInt8×Int×Int×Bool×Int):Prop:=∃(x_1:Ch),(xC x).text=x_1.text∧x.2.2.2.2.2.2.1=x_1.rule∧x.2.2.2.2.2.2.2.1=x_1.fr∧x.2.2.2.2.2.2.2.2.1=x_1.space∧min x.2.2.2.2.2.2.2.2.2 (40:Int)=x_1.nest∧(∃(zs:List Ch),AV.sl true 0 5 Ch chA [x_1]=AV.sl true 0 5 Ch chA zs∧(Bg chA∧(AY (List.length (xC x).chunks+List.length zs) (48:Nat)∧(true=true∧(∃(i:Unit),(x.2.2.2.2.2.2.1≥(0:Int)∧(↑(List.length (xC x).chunks):Int)<(79:Int))∧((x.1.ind=x.1.ind∧AV.sl true 0 2 Ru ruA (xC x).rules=AV.sl true 0 2 Ru ruA (xC x).rules∧AV.sl true 0 5 Ch chA ((xC x).chunks++zs)=AV.sl true 0 5 Ch chA ((xC x).chunks++[Ry (xC x).text x.2.2.2.2.2.2.1 x.2.2.2.2.2.2.2.1 x.2.2.2.2.2.2.2.2.1 x.2.2.2.2.2.2.2.2.2])∧AV.sl true 0 3 Sn snA (xC x).spans=AV.sl true 0 3 Sn snA (xC x).spans∧AV.sl true 0 2 Ti tiA (xC x).ties=AV.sl true 0 2 Ti tiA (xC x).ties∧nds x.1.ns=nds x.1.ns∧(xC x).text=(xC x).text∧x.1.rd=x.1.rd∧True)∧True))))))
def WJ(x:BC×List Ru×List Ch×List Sn×List Ti×List UInt8×Int×Int×Bool×Int):Prop:=Ab x.2.2.2.2.2.2.2.2.1 ((↑(List.length (xC x).text+(1:Nat)):Int)≤IntKind.max IntKind.i64∧(rA CU x [.tup [],.box 0 [.int .i64 x.1.ind,AV.sl true 0 2 Ru ruA (xC x).rules,AV.sl true 0 5 Ch chA (xC x).chunks,AV.sl true 0 3 Sn snA (xC x).spans,AV.sl true 0 2 Ti tiA (xC x).ties,nds x.1.ns,.str ((xC x).text++ #[(32:UInt8)].toList),.bool x.1.rd],.top,.top,.top,.top])) (rA CU x [.tup [],.box 0 [.int .i64 x.1.ind,AV.sl true 0 2 Ru ruA (xC x).rules,AV.sl true 0 5 Ch chA (xC x).chunks,AV.sl true 0 3 Sn snA (xC x).spans,AV.sl true 0 2 Ti tiA (xC x).ties,nds x.1.ns,.str (xC x).text,.bool x.1.rd],.top,.top,.top,.top])
theorem MC:Ah G Tryz.prog 80 CU:=
 vcFun_okP [] [(28,⟨Ch,chA⟩)] false (fun x=>[(100002,b3P x)]) Tryz.func80 rfl (by decide) trivial (fun(x:BC×List Ru×List Ch×List Sn×List Ti×List UInt8×Int×Int×Bool×Int)=>True∧Ab (decide (x.2.2.2.2.2.2.1≥(0:Int))) (Ab (decide ((↑(List.length (xC x).chunks):Int)<(79:Int))) (true=true∧(((Hb x)∧(Hb x))∧((Hb x)∧((Hb x)∧((Hb x)∧(Hb x))))∧((Hb x)∧((Hb x)∧((Hb x)∧(Hb x)))))∧∀(i:Unit),x.2.2.2.2.2.2.1≥(0:Int)∧(↑(List.length (xC x).chunks):Int)<(79:Int)→rA CU x [.tup [],.box 0 [.int .i64 x.1.ind,AV.sl true 0 2 Ru ruA (xC x).rules,AV.sl true 0 5 Ch chA ((xC x).chunks++[Ry (xC x).text x.2.2.2.2.2.2.1 x.2.2.2.2.2.2.2.1 x.2.2.2.2.2.2.2.2.1 x.2.2.2.2.2.2.2.2.2]),AV.sl true 0 3 Sn snA (xC x).spans,AV.sl true 0 2 Ti tiA (xC x).ties,nds x.1.ns,.str #[].toList,.bool x.1.rd],.top,.top,.top,.top]) (WJ x)) (WJ x)) (fun x=>by kernel_rfl) fun(x:BC×List Ru×List Ch×List Sn×List Ti×List UInt8×Int×Int×Bool×Int) (hx:bB (xC x))=>(by
 dsimp only[WJ,Hb,buA,Bl,Bi,nds,rA,Bj,CU,Bm,Bn,Aq,Aw]
 obtain⟨⟨i,ns,rd⟩,r,c,s,t,u,a,b,d,e⟩:=x;dsimp only[xC] at hx ⊢
 have hx:bB ⟨r,c,s,t,u⟩:=hx
 have h1:=hx.ok.ch;have h2:=Ha hx;dsimp only at h1 h2
 (repeat' first|refine Rv ?_|(with_reducible first|rfl|exact True.intro|apply AG|apply And.intro|((first|apply Au|apply AE|apply Av|apply AF)<;>intro _))|(apply As<;>intro _)|apply AD|refine Af () ?_ ?_|((first|apply AK|apply AJ|apply AI|apply AH|apply AC|apply AB|apply AA|apply Az|apply Ax)<;>try dsimp only)|apply Af|(refine Prod.forall.2 ?_;intro _;try dsimp only)|(intro _;try dsimp only))
 all_goals try(first|(have hF:= @b3N a b e d ⟨r,c,s,t,u⟩ ‹_› ‹_›)|(have hF:= @a3v a b e d ⟨r,c,s,t,u⟩ (.inl ‹_›) ‹_›)|(have hF:= @a3v a b e d ⟨r,c,s,t,u⟩ (.inr ‹_›) ‹_›)|(have hF:= @a3w a b e d ⟨r,c,s,t,u⟩ (.inl ‹_›) ‹_›)|(have hF:= @a3w a b e d ⟨r,c,s,t,u⟩ (.inr ‹_›) ‹_›))
 all_goals first
  |rfl
  |(simp only[hF];done)
  |((try simp only[Aj,AY,List.length_append,List.length_cons,List.length_nil]);omega)
  |skip)
def Im:Sig:= {X:=BC×List Ru×List Ch×List Sn×List Ti×List UInt8×Int×Int,args:=fun x=>[buA x.1 (xC x),.int .i64 x.2.2.2.2.2.2.1,.int .i64 x.2.2.2.2.2.2.2],pre:=fun x=>bB (xC x),Y:=BT,post:=fun x y=>yBW y=CH x.2.2.2.2.2.2.1 x.2.2.2.2.2.2.2 (xC x),res:=fun x y=> .tup [],outs:=fun x y=>[buA x.1 (yBW y),.top,.top],keep:=true}
def Rz(x:BC×List Ru×List Ch×List Sn×List Ti×List UInt8×Int×Int):Prop:=rA Im x [.tup [],.box 0 [.int .i64 x.1.ind,AV.sl true 0 2 Ru ruA (xC x).rules,AV.sl true 0 5 Ch chA (xC x).chunks,AV.sl true 0 3 Sn snA (xC x).spans,AV.sl true 0 2 Ti tiA (xC x).ties,nds x.1.ns,.str (xC x).text,.bool x.1.rd],.top,.top]
theorem a3y:Ah G Tryz.prog 140 Im:=
 vcFun_okP [] [(30,⟨Ti,tiA⟩)] false (fun x=>[]) Tryz.func140 rfl (by decide) trivial (fun(x:BC×List Ru×List Ch×List Sn×List Ti×List UInt8×Int×Int)=>True∧Ab (decide (x.2.2.2.2.2.2.1≥(0:Int))) (Ab (decide (x.2.2.2.2.2.2.2≥(0:Int))) (Ab (decide ((↑(List.length (xC x).ties):Int)<(20:Int))) (∃(x_1:Ti),x.2.2.2.2.2.2.1=x_1.kid∧x.2.2.2.2.2.2.2=x_1.up∧∃(zs:List Ti),AV.sl true 0 2 Ti tiA [x_1]=AV.sl true 0 2 Ti tiA zs∧Bg tiA∧AY (List.length (xC x).ties+List.length zs) (16:Nat)∧∃(y:BT),yBW y=CH x.2.2.2.2.2.2.1 x.2.2.2.2.2.2.2 (xC x)∧x.1.ind=x.1.ind∧AV.sl true 0 2 Ru ruA (xC x).rules=AV.sl true 0 2 Ru ruA (yBW y).rules∧AV.sl true 0 5 Ch chA (xC x).chunks=AV.sl true 0 5 Ch chA (yBW y).chunks∧AV.sl true 0 3 Sn snA (xC x).spans=AV.sl true 0 3 Sn snA (yBW y).spans∧AV.sl true 0 2 Ti tiA ((xC x).ties++zs)=AV.sl true 0 2 Ti tiA (yBW y).ties∧nds x.1.ns=nds x.1.ns∧(xC x).text=(yBW y).text∧x.1.rd=x.1.rd∧True) (Rz x)) (Rz x)) (Rz x)) (fun x=>by kernel_rfl) fun(x:BC×List Ru×List Ch×List Sn×List Ti×List UInt8×Int×Int) (hx:bB (xC x))=>(by
 dsimp only[Rz,buA,Bl,Bi,nds,rA,Bj,Im,Bm,Bn,Aq,Aw]
 obtain⟨⟨i,ns,rd⟩,r,c,s,t,u,a,b⟩:=x;dsimp only[xC] at hx ⊢
 have hx:bB ⟨r,c,s,t,u⟩:=hx
 have h1:=hx.ok.ti;dsimp only at h1
 (repeat' first|refine a3s ?_|(with_reducible first|rfl|exact True.intro|apply AG|apply And.intro|((first|apply Au|apply AE|apply Av|apply AF)<;>intro _))|(apply As<;>intro _)|apply AD|refine Af () ?_ ?_|((first|apply AK|apply AJ|apply AI|apply AH|apply AC|apply AB|apply AA|apply Az|apply Ax)<;>try dsimp only)|apply Af|(refine Prod.forall.2 ?_;intro _;try dsimp only)|(intro _;try dsimp only))
 all_goals try(first|(have hF:= @b3O a b ⟨r,c,s,t,u⟩ ‹_› ‹_› ‹_›)|(have hF:= @WH a b ⟨r,c,s,t,u⟩ (.inl (.inl ‹_›)))|(have hF:= @WH a b ⟨r,c,s,t,u⟩ (.inl (.inr ‹_›)))|(have hF:= @WH a b ⟨r,c,s,t,u⟩ (.inr ‹_›)))
 all_goals first
  |rfl
  |(simp only[hF];done)
  |((try simp only[Aj,AY,List.length_append,List.length_cons,List.length_nil]);omega)
  |skip)
def La:Sig:= {X:=BC×List Ru×List Ch×List Sn×List Ti×List UInt8×Int,args:=fun x=>[buA x.1 (xC x),.int .i64 x.2.2.2.2.2.2],pre:=fun x=>bB (xC x),Y:=BT,post:=fun x y=>yBW y=Fe x.2.2.2.2.2.2 (xC x),res:=fun x y=> .tup [],outs:=fun x y=>[buA x.1 (yBW y),.top],keep:=true}
theorem b3Q:Ah G Tryz.prog 141 La:=
 vcFun_okP [] [(29,⟨Sn,snA⟩)] false (fun x=>[]) Tryz.func141 rfl (by decide) trivial (fun(x:BC×List Ru×List Ch×List Sn×List Ti×List UInt8×Int)=>True∧inR IntKind.i64 ((↑(List.length (xC x).chunks):Int)-(1:Int))∧Ab (decide ((↑(List.length (xC x).chunks):Int)-(1:Int)≥x.2.2.2.2.2.2)) (Ab (decide ((↑(List.length (xC x).spans):Int)<(40:Int))) (∃(x_1:Sn),x.2.2.2.2.2.2=x_1.fr∧(↑(List.length (xC x).chunks):Int)-(1:Int)=x_1.tuu∧(1:Int)=x_1.cost∧∃(zs:List Sn),AV.sl true 0 3 Sn snA [x_1]=AV.sl true 0 3 Sn snA zs∧Bg snA∧AY (List.length (xC x).spans+List.length zs) (24:Nat)∧∃(y:BT),yBW y=Fe x.2.2.2.2.2.2 (xC x)∧x.1.ind=x.1.ind∧AV.sl true 0 2 Ru ruA (xC x).rules=AV.sl true 0 2 Ru ruA (yBW y).rules∧AV.sl true 0 5 Ch chA (xC x).chunks=AV.sl true 0 5 Ch chA (yBW y).chunks∧AV.sl true 0 3 Sn snA ((xC x).spans++zs)=AV.sl true 0 3 Sn snA (yBW y).spans∧AV.sl true 0 2 Ti tiA (xC x).ties=AV.sl true 0 2 Ti tiA (yBW y).ties∧nds x.1.ns=nds x.1.ns∧(xC x).text=(yBW y).text∧x.1.rd=x.1.rd∧True) (rA La x [.tup [],.box 0 [.int .i64 x.1.ind,AV.sl true 0 2 Ru ruA (xC x).rules,AV.sl true 0 5 Ch chA (xC x).chunks,AV.sl true 0 3 Sn snA (xC x).spans,AV.sl true 0 2 Ti tiA (xC x).ties,nds x.1.ns,.str (xC x).text,.bool x.1.rd],.top])) (rA La x [.tup [],.box 0 [.int .i64 x.1.ind,AV.sl true 0 2 Ru ruA (xC x).rules,AV.sl true 0 5 Ch chA (xC x).chunks,AV.sl true 0 3 Sn snA (xC x).spans,AV.sl true 0 2 Ti tiA (xC x).ties,nds x.1.ns,.str (xC x).text,.bool x.1.rd],.top])) (fun x=>by kernel_rfl) fun(x:BC×List Ru×List Ch×List Sn×List Ti×List UInt8×Int) (hx:bB (xC x))=>(by
 dsimp only[buA,Bl,Bi,nds,rA,Bj,La,Bm,Bn,Aq,Aw]
 obtain⟨⟨i,ns,rd⟩,r,c,s,t,u,a⟩:=x;dsimp only[xC] at hx ⊢
 have hx:bB ⟨r,c,s,t,u⟩:=hx
 have h1:=hx.ok.sp;have h2:=hx.ok.ch;dsimp only at h1 h2
 (repeat' first|refine a3t ?_|(with_reducible first|rfl|exact True.intro|apply AG|apply And.intro|((first|apply Au|apply AE|apply Av|apply AF)<;>intro _))|(apply As<;>intro _)|apply AD|refine Af () ?_ ?_|((first|apply AK|apply AJ|apply AI|apply AH|apply AC|apply AB|apply AA|apply Az|apply Ax)<;>try dsimp only)|apply Af|(refine Prod.forall.2 ?_;intro _;try dsimp only)|(intro _;try dsimp only))
 all_goals try(first|(have hF:= @a3x a ⟨r,c,s,t,u⟩ ‹_› ‹_›)|(have hF:= @WI a ⟨r,c,s,t,u⟩ (.inl ‹_›))|(have hF:= @WI a ⟨r,c,s,t,u⟩ (.inr ‹_›)))
 all_goals first
  |rfl
  |(simp only[hF];done)
  |((try simp only[Aj,AY,List.length_append,List.length_cons,List.length_nil]);omega)
  |skip)
end Go.My
end
section
namespace Go.My
open Go.Eng
def bR(m:Nat)(s:Bs):Prop:=bOk s∧tot s+m≤2^61
theorem CV{m:Nat}{s:Bs}(h:bR m s):bB s:=⟨h.1,by have:=h.2;omega⟩
theorem MD{rd:Bool}{m k n:Nat}{s t:Bs}(h:bR m s)(hl:bLe rd k s t∧(bOk s→bOk t))(hm:n+k≤m):bR n t:=⟨hl.2 h.1,by have:=hl.1.tt;have:=h.2;omega⟩
theorem Dg{m n:Nat}{s:Bs}(h:bR m s)(hm:n≤m):bR n s:=⟨h.1,by have:=h.2;omega⟩
theorem Jq{m n:Nat}{t:List UInt8}{s:Bs}(h:bR m s)(hm:n+t.length≤m):bR n (Am t s):=MD (rd:=true) h ⟨Ec,Ed⟩ hm
theorem Jr{r fr nest:Int}{sp:Bool}{m n:Nat}{s:Bs}(h:bR m s)(hm:n+1≤m):bR n (AU r fr sp nest s):=MD (rd:=true) h ⟨Gz,GA⟩ hm
theorem HD{rd:Bool}{v c:Int}{m:Nat}{s:Bs}(h:bR m s):bR m (Bd rd v c s):=MD (rd:=rd) (k:=0) h ⟨Mi,Mj⟩ (by omega)
structure lpS (rd:Bool) (F:List Int→Int→Bs→Bs) (st:Int→Int→Bs→Bs) (w:Int→Nat) (ks:List Int):Prop where
 e0:∀i s,F [] i s=s
 e1:∀c l i s,0≤i→F (c::l) i s=F l (i+1) (st c i s)
 le:∀c∈ks,∀i s,bLe rd (w c) s (st c i s)∧(bOk s→bOk (st c i s))
def HE(F:List Int→Int→Bs→Bs)(w:Int→Nat)(ks:List Int)(m:Nat)(s0:Bs)(i:Int)(s:Bs):Prop:=
 (0≤i∧i≤ks.length)∧F (ks.drop i.toNat) i s=F ks 0 s0∧bR (wL w (ks.drop i.toNat)+m) s
theorem RA{F:List Int→Int→Bs→Bs}{w:Int→Nat}{ks:List Int}{m:Nat}{s0:Bs}(h:bR (wL w ks+m) s0):HE F w ks m s0 0 s0:=⟨by omega,rfl,h⟩
theorem Ow{rd:Bool}{F:List Int→Int→Bs→Bs}{st:Int→Int→Bs→Bs}{w:Int→Nat}{ks:List Int}{m:Nat}{s0 s:Bs}{i c:Int}(hs:lpS rd F st w ks)(h:HE F w ks m s0 i s)(hc:ks[i.toNat]? =some c):HE F w ks m s0 (i+1) (st c i s):=by
 have hl:=(Cx hc).1
 have h2:=h.2.1;have h3:=h.2.2
 rw[Dm hc] at h2 h3
 rw[hs.e1 _ _ _ _ h.1.1] at h2
 rw[Db] at h3
 refine⟨by have:=h.1;omega,?_,?_⟩
 ·rw[BG h.1.1];exact h2
 ·rw[BG h.1.1];exact MD h3 (hs.le c (AZ hc) i s) (by omega)
theorem ME{rd:Bool}{F:List Int→Int→Bs→Bs}{st:Int→Int→Bs→Bs}{w:Int→Nat}{ks:List Int}{m:Nat}{s0 s:Bs}{i:Int}(hs:lpS rd F st w ks)(h:HE F w ks m s0 i s)(hi:¬i<ks.length):s=F ks 0 s0∧bR m s:=by
 have h2:=h.2.1;have h3:=h.2.2
 rw[List.drop_of_length_le (by omega)] at h2 h3
 rw[hs.e0] at h2
 exact⟨h2,Dg h3 (by omega)⟩
theorem Ox{F:List Int→Int→Bs→Bs}{w:Int→Nat}{ks:List Int}{m:Nat}{s0 s:Bs}{i:Int}(h:HE F w ks m s0 i s):0≤i∧i≤ks.length:=h.1
theorem RB{F:List Int→Int→Bs→Bs}{w:Int→Nat}{ks:List Int}{m:Nat}{s0 s:Bs}{i c:Int}(h:HE F w ks m s0 i s)(hc:ks[i.toNat]? =some c):bR (w c+m) s:=by
 have h3:=h.2.2
 rw[Dm hc,Db] at h3
 exact Dg h3 (by omega)
def itF(f:Int→Int→Bs→Bs)(r g inner:Int)(l:List Int)(i:Int)(s:Bs):Bs:=itL f r g inner l (decide (i=0)) s
def itS(f:Int→Int→Bs→Bs)(r g inner:Int)(c i:Int)(s:Bs):Bs:=f c inner (if i=0 then s else AU r g true inner (Am [44] s))
theorem b3R{rd:Bool}{w:Int→Nat}{f:Int→Int→Bs→Bs}{r g inner:Int}{ks:List Int}(h:stp rd w f ks):lpS rd (itF f r g inner) (itS f r g inner) (fun c=>2+w c) ks where
 e0 i s:=rfl
 e1 c l i s hi:=by
  rw[itF,itL,itF,itS,decide_eq_false (show¬i+1=0 by omega)]
  by_cases e:i=0<;>simp [e]
 le c hc i s:=by
  have h1:bLe rd 2 s (if i=0 then s else AU r g true inner (Am [44] s))∧(bOk s→bOk (if i=0 then s else AU r g true inner (Am [44] s))):=by
   split
   ·exact⟨Ct Fs (by omega),id⟩
   ·exact⟨BP (m:=1) (n:=1) (Ec (t:=[44])) Gz,fun ho=>GA (Ed ho)⟩
  have h2:=h c hc inner (if i=0 then s else AU r g true inner (Am [44] s))
  exact⟨BP h1.1 h2.1,fun ho=>h2.2 (h1.2 ho)⟩
def RC(ns:List Nd)(f:Int→Int→Bs→Bs)(r inner:Int)(t:List UInt8)(l:List Int)(i:Int)(s:Bs):Bs:=chL ns f r inner t l (decide (i=0)) s
def RD(ns:List Nd)(f:Int→Int→Bs→Bs)(r inner:Int)(t:List UInt8)(c i:Int)(s:Bs):Bs:=HZ ns f r inner c (if i=0 then s else AU r 1 true inner (Am (32::t) s))
theorem b3S{rd:Bool}{w:Int→Nat}{ns:List Nd}{f:Int→Int→Bs→Bs}{r inner:Int}{t:List UInt8}{ks:List Int}(ht:t.length≤2)(h:stp rd w f ks):lpS rd (RC ns f r inner t) (RD ns f r inner t) (fun c=>4+w c) ks where
 e0 i s:=rfl
 e1 c l i s hi:=by
  rw[RC,chL,RC,RD,decide_eq_false (show¬i+1=0 by omega)]
  by_cases e:i=0<;>simp [e]
 le c hc i s:=by
  have h1:bLe rd 4 s (if i=0 then s else AU r 1 true inner (Am (32::t) s))∧(bOk s→bOk (if i=0 then s else AU r 1 true inner (Am (32::t) s))):=by
   split
   ·exact⟨Ct Fs (by omega),id⟩
   ·exact⟨Ct (BP (n:=1) Ec Gz) (by simp;omega),fun ho=>GA (Ed ho)⟩
  have h2:=a0Y (ns:=ns) (r:=r) (inner:=inner) (s:=if i=0 then s else AU r 1 true inner (Am (32::t) s)) (h c hc)
  exact⟨BP h1.1 h2.1,fun ho=>h2.2 (h1.2 ho)⟩
def pkS(ns:List Nd)(f:Int→Int→Bs→Bs)(r inner:Int)(c i:Int)(s:Bs):Bs:=Ia ns f r inner c (if i=0 then s else Am (pkT i) (AU r 1 true inner s))
theorem b3T{rd:Bool}{w:Int→Nat}{ns:List Nd}{f:Int→Int→Bs→Bs}{r inner:Int}{ks:List Int}(h:stp rd w f ks):lpS rd (pkL ns f r inner) (pkS ns f r inner) (fun c=>3+w c) ks where
 e0 i s:=rfl
 e1 c l i s hi:=rfl
 le c hc i s:=by
  have h1:bLe rd 3 s (if i=0 then s else Am (pkT i) (AU r 1 true inner s))∧(bOk s→bOk (if i=0 then s else Am (pkT i) (AU r 1 true inner s))):=by
   split
   ·exact⟨Ct Fs (by omega),id⟩
   ·exact⟨Ct (BP (m:=1) Gz Ec) (by have:= @Vv i;omega),fun ho=>Ed (GA ho)⟩
  have h2:=a0Z (ns:=ns) (r:=r) (inner:=inner) (s:=if i=0 then s else Am (pkT i) (AU r 1 true inner s)) (h c hc)
  exact⟨BP h1.1 h2.1,fun ho=>h2.2 (h1.2 ho)⟩
def caF(f:Int→Int→Bs→Bs)(r inner:Int)(l:List Int)(i:Int)(s:Bs):Bs:=caL f r inner l s
def caS(f:Int→Int→Bs→Bs)(r inner:Int)(c i:Int)(s:Bs):Bs:=f c inner (Am [46,46] (AU r 1 false inner s))
theorem b3U{rd:Bool}{w:Int→Nat}{f:Int→Int→Bs→Bs}{r inner:Int}{ks:List Int}(h:stp rd w f ks):lpS rd (caF f r inner) (caS f r inner) (fun c=>3+w c) ks where
 e0 i s:=rfl
 e1 c l i s hi:=rfl
 le c hc i s:=by
  have h1:bLe rd 3 s (Am [46,46] (AU r 1 false inner s))∧(bOk s→bOk (Am [46,46] (AU r 1 false inner s))):=
   ⟨Ct (BP (m:=1) Gz Ec) (by simp),fun ho=>Ed (GA ho)⟩
  have h2:=h c hc inner (Am [46,46] (AU r 1 false inner s))
  exact⟨BP h1.1 h2.1,fun ho=>h2.2 (h1.2 ho)⟩
theorem Oy{w:Int→Nat}{k:Nat}:∀ {l:List Int},wL (fun c=>k+w c) l=k*l.length+wL w l
 |[]=>by simp [wL]
 |c::l=>by rw[Db,Db,Oy,List.length_cons,Nat.mul_succ];omega
theorem RE{ns:List Nd}{rd:Bool}{n:Nat}{k a:Int}{s:Bs}(h:BB ns k)(hk:k<n)(h7:Al ns k=7∨Al ns k=8):Dy s.rules.length (bV ns rd n k a s)=Gy rd (Aa ns k) s:=by
 have hv:AX (Al ns k)=true:=by rcases h7 with e|e<;>rw[e]<;>rfl
 have hle:=(Ml (rd:=rd) (a:=a) (s:=s) h hk hv).1
 have hr:=Bc.1 h.1
 obtain⟨m,rfl⟩:∃m,n=m+1:=⟨n-1,by omega⟩
 unfold Al at h7
 have hs:stp rd (tW ns m) (bV ns rd m) (Aa ns k).kids:=b1N h hk hv fun c hc=>hc
 rw[Gy,if_pos h7,AM]
 by_cases hb:FM rd s=true
 ·rw[if_pos hb]
  have h1:(Bd rd 2 1 s).rules.length=s.rules.length+1:=by rw[Bd,if_pos hb];simp
  have h2:(Bd rd 2 1 s).rules.length≤(bV ns rd (m+1) k a s).rules.length:=by
   rw[bV]
   unfold bV1
   rcases h7 with e|e
   ·simp only[e,Kz]
    exact(Vu (t:=(Aa ns k).text) (Vz h e) hs).1.ru
   ·simp only[e,Mh]
    exact(Vw hs).1.ru
  rw[Dy,if_pos (by omega)]
 ·rw[if_neg hb]
  have:=hle.fu (by simpa using hb)
  rw[Dy,this,if_neg (by omega)]
end Go.My
end
section
namespace Go.My
open Go.Eng Go.Proofs
variable {G:GInv}
abbrev zBW (x:List Ru×List Ch×List Sn×List Ti×List UInt8×Int):Bs:=⟨x.1,x.2.1,x.2.2.1,x.2.2.2.1,x.2.2.2.2.1⟩
abbrev zI (x:List Ru×List Ch×List Sn×List Ti×List UInt8×Int):Int:=x.2.2.2.2.2
def isB(w t:Bs):Prop:=t=w
structure vlP (ns:List Nd) (n:Nat) (s:Bs) (k a:Int):Prop where
 up:BB ns k
 lt:k<n
 vl:AX (Al ns k)=true
 rm:bR (tW ns n k) s
 ar:0≤a∧a≤40
def BJ(c:BC)(n:Nat)(s:Bs)(k a:Int)(o:Int)(t:Bs):Prop:=t=bV c.ns c.rd n k a s∧o=Gy c.rd (Aa c.ns k) s
def Cf(n:Nat):Sig:= {X:=BC×List Ru×List Ch×List Sn×List Ti×List UInt8×Int×Int,args:=fun x=>[buA x.1 (xC x),.int .i64 x.2.2.2.2.2.2.1,.int .i64 x.2.2.2.2.2.2.2],pre:=fun x=>vlP x.1.ns n (xC x) x.2.2.2.2.2.2.1 x.2.2.2.2.2.2.2,Y:=Int×BT,post:=fun x y=>BJ x.1 n (xC x) x.2.2.2.2.2.2.1 x.2.2.2.2.2.2.2 y.1 (yBW y.2),res:=fun x y=> .int .i64 y.1,outs:=fun x y=>[buA x.1 (yBW y.2),.top,.top],keep:=true}
def kdP(ns:List Nd)(n:Nat)(ks:List Int):Prop:=∀c∈ks,BB ns c∧c<n∧AX (Al ns c)=true
theorem RF{ns:List Nd}{rd:Bool}{n:Nat}{ks:List Int}(h:kdP ns n ks):stp rd (tW ns n) (bV ns rd n) ks:=fun c hc a s=>Ml (h c hc).1 (h c hc).2.1 (h c hc).2.2
theorem MF{a:Int}(h:0≤a∧a≤40):0≤up4 a∧up4 a≤40:=by unfold up4;omega
structure liP (c:BC) (n:Nat) (s:Bs) (op:List UInt8) (ks:List Int) (en:List UInt8) (a:Int):Prop where
 kd:kdP c.ns n ks
 kl:ks.length≤12
 ol:op.length≤1
 el:en.length≤1
 rm:bR (28+wL (tW c.ns n) ks) s
 ar:0≤a∧a≤40
def liR(c:BC)(s:Bs)(op:List UInt8):Int:=AM c.rd (Am op s)
def li0(c:BC)(s:Bs)(op:List UInt8)(ks:List Int)(a:Int):Bs:=AU (liR c s op) 1 false (up4 a) (Bd c.rd (min (ks.length:Int) 2+1) 1 (Am op s))
def WK(c:BC)(n:Nat)(s:Bs)(op:List UInt8)(ks:List Int)(a:Int):List Int→Int→Bs→Bs:=itF (bV c.ns c.rd n) (liR c s op) (min (ks.length:Int) 2) (up4 a)
def liI(c:BC)(n:Nat)(s:Bs)(op:List UInt8)(ks:List Int)(a:Int)(i:Int)(t:Bs):Prop:=
 HE (WK c n s op ks a) (fun k=>2+tW c.ns n k) ks 2 (li0 c s op ks a) i t
theorem b3V{c:BC}{n:Nat}{ks:List Int}:wL (fun k=>2+tW c.ns n k) ks=2*ks.length+wL (tW c.ns n) ks:=Oy
theorem WL{c:BC}{n:Nat}{s:Bs}{op:List UInt8}{ks:List Int}{en:List UInt8}{a:Int}(h:liP c n s op ks en a):bR (27+wL (tW c.ns n) ks) (Am op s):=Jq h.rm (by have:=h.ol;omega)
theorem RG{c:BC}{n:Nat}{s:Bs}{op:List UInt8}{ks:List Int}{en:List UInt8}{a:Int}(h:liP c n s op ks en a):bB (Am op s):=CV (WL h)
theorem a3z{c:BC}{n:Nat}{s t:Bs}{op:List UInt8}{ks:List Int}{en:List UInt8}{a:Int}(h:liP c n s op ks en a)(ht:t=Bd c.rd (min (ks.length:Int) 2+1) 1 (Am op s)):bB t:=by subst ht;exact CV (HD (WL h))
theorem a3A{c:BC}{n:Nat}{s t u:Bs}{op:List UInt8}{ks:List Int}{en:List UInt8}{a:Int}(h:liP c n s op ks en a)(hu:u=AU (AM c.rd (Am op s)) 1 false (min (a+4) 40) t)(ht:t=Bd c.rd (min (ks.length:Int) 2+1) 1 (Am op s)):liI c n s op ks a 0 u:=by
 subst hu;subst ht
 have h1:bR (wL (fun k=>2+tW c.ns n k) ks+2) (li0 c s op ks a):=by
  rw[b3V];exact Jr (HD (WL h)) (by have:=h.kl;omega)
 exact RA (F:=WK c n s op ks a) h1
theorem liS{c:BC}{n:Nat}{s:Bs}{op:List UInt8}{ks:List Int}{en:List UInt8}{a:Int}(h:liP c n s op ks en a):lpS c.rd (WK c n s op ks a) (itS (bV c.ns c.rd n) (liR c s op) (min (ks.length:Int) 2) (up4 a)) (fun k=>2+tW c.ns n k) ks:=b3R (RF h.kd)
theorem WM{c:BC}{n:Nat}{s t:Bs}{op:List UInt8}{ks:List Int}{a i:Int}(h:liI c n s op ks a i t):0≤i∧i≤ks.length:=Ox h
theorem RH{c:BC}{n:Nat}{s t:Bs}{op:List UInt8}{ks:List Int}{a i k:Int}(h:liI c n s op ks a i t)(hc:ks[i.toNat]? =some k):bR (tW c.ns n k+2) t:=Dg (RB h hc) (by omega)
theorem WN{c:BC}{n:Nat}{s t:Bs}{op:List UInt8}{ks:List Int}{a i k:Int}(h:liI c n s op ks a i t)(hc:ks[i.toNat]? =some k):t.text.length≤2^61:=Ha (CV (RH h hc))
theorem a3B{c:BC}{n:Nat}{s t:Bs}{op:List UInt8}{ks:List Int}{a i k:Int}(h:liI c n s op ks a i t)(hc:ks[i.toNat]? =some k):bB (Am [44] t):=CV (m:=1) (Jq (RH h hc) (by show 1+1≤_;omega))
theorem a3C{c:BC}{n:Nat}{s t:Bs}{op:List UInt8}{ks:List Int}{en:List UInt8}{a i k:Int}(h:liI c n s op ks a i t)(hx:liP c n s op ks en a)(hc:ks[i.toNat]? =some k):vlP c.ns n t k (min (a+4) 40):=
 ⟨(hx.kd k (AZ hc)).1,(hx.kd k (AZ hc)).2.1,(hx.kd k (AZ hc)).2.2,Dg (RH h hc) (by omega),MF hx.ar⟩
theorem a3D{c:BC}{n:Nat}{s t u:Bs}{op:List UInt8}{ks:List Int}{en:List UInt8}{a i k:Int}(h:liI c n s op ks a i t)(hu:u=AU (AM c.rd (Am op s)) (min (ks.length:Int) 2) true (min (a+4) 40) (Am [44] t))(hx:liP c n s op ks en a)(hc:ks[i.toNat]? =some k):vlP c.ns n u k (min (a+4) 40):=by
 subst hu
 exact⟨(hx.kd k (AZ hc)).1,(hx.kd k (AZ hc)).2.1,(hx.kd k (AZ hc)).2.2,Jr (Jq (n:=tW c.ns n k+1) (RH h hc) (by simp)) (by omega),MF hx.ar⟩
theorem a3E{c:BC}{n:Nat}{s t u:Bs}{op:List UInt8}{ks:List Int}{en:List UInt8}{a i k o:Int}(hu:BJ c n t k (min (a+4) 40) o u)(h:liI c n s op ks a i t)(hx:liP c n s op ks en a)(hc:ks[i.toNat]? =some k)(hi:¬i>0):liI c n s op ks a (i+1) u:=by
 have:=Ow (liS hx) h hc
 have e:i=0:=by have:=(Ox h);omega
 rw[hu.1]
 rw[itS,if_pos e] at this
 exact this
theorem a3F{c:BC}{n:Nat}{s t u v:Bs}{op:List UInt8}{ks:List Int}{en:List UInt8}{a i k o:Int}(h:liI c n s op ks a i t)(hu:BJ c n v k (min (a+4) 40) o u)(hv:v=AU (AM c.rd (Am op s)) (min (ks.length:Int) 2) true (min (a+4) 40) (Am [44] t))(hx:liP c n s op ks en a)(hc:ks[i.toNat]? =some k)(hi:i>0):liI c n s op ks a (i+1) u:=by
 have:=Ow (liS hx) h hc
 rw[hu.1,hv]
 rw[itS,if_neg (by omega)] at this
 exact this
theorem a3G{c:BC}{n:Nat}{s t:Bs}{op:List UInt8}{ks:List Int}{en:List UInt8}{a i:Int}(h:liI c n s op ks a i t)(hx:liP c n s op ks en a)(hi:¬i<ks.length):bB t:=CV (ME (liS hx) h hi).2
theorem a3H{c:BC}{n:Nat}{s t u:Bs}{op:List UInt8}{ks:List Int}{en:List UInt8}{a i:Int}(hu:u=AU (AM c.rd (Am op s)) 1 false a t)(h:liI c n s op ks a i t)(hx:liP c n s op ks en a)(hi:¬i<ks.length):u.text.length≤2^61:=by
 subst hu
 exact Ha (CV (m:=1) (Jr (ME (liS hx) h hi).2 (by omega)))
theorem a3I{c:BC}{n:Nat}{s t u:Bs}{op:List UInt8}{ks:List Int}{en:List UInt8}{a i:Int}(hu:u=AU (AM c.rd (Am op s)) 1 false a t)(h:liI c n s op ks a i t)(hx:liP c n s op ks en a)(hi:¬i<ks.length)(hk:(ks.length:Int)>0):isB (Eb c.rd (bV c.ns c.rd n) op ks en a s) (Am en u):=by
 have:=(ME (liS hx) h hi).1
 subst hu
 unfold isB
 rw[Eb,if_neg (by intro e;rw[e] at hk;simp at hk),this,show((min ks.length 2:Nat):Int)=min (ks.length:Int) 2 by omega]
 rfl
theorem a3J{c:BC}{n:Nat}{s:Bs}{op:List UInt8}{ks:List Int}{en:List UInt8}{a:Int}(hk:¬(ks.length:Int)>0):isB (Eb c.rd (bV c.ns c.rd n) op ks en a s) (Am en (Am op s)):=by
 unfold isB;rw[Eb,if_pos (List.eq_nil_of_length_eq_zero (by omega))]
attribute [local irreducible] liI
def Js(n:Nat):Sig:= {X:=BC×List Ru×List Ch×List Sn×List Ti×List UInt8×List UInt8×List Int×List UInt8×Int,args:=fun x=>[buA x.1 (xC x),.str x.2.2.2.2.2.2.1,Ad x.2.2.2.2.2.2.2.1,.str x.2.2.2.2.2.2.2.2.1,.int .i64 x.2.2.2.2.2.2.2.2.2],pre:=fun x=>liP x.1 n (xC x) x.2.2.2.2.2.2.1 x.2.2.2.2.2.2.2.1 x.2.2.2.2.2.2.2.2.1 x.2.2.2.2.2.2.2.2.2,Y:=BT,post:=fun x y=>isB (Eb x.1.rd (bV x.1.ns x.1.rd n) x.2.2.2.2.2.2.1 x.2.2.2.2.2.2.2.1 x.2.2.2.2.2.2.2.2.1 x.2.2.2.2.2.2.2.2.2 (xC x)) (yBW y),res:=fun x y=> .tup [],outs:=fun x y=>[buA x.1 (yBW y),.top,.top,.top,.top],keep:=true}
def Oz(n:Nat)(x:BC×List Ru×List Ch×List Sn×List Ti×List UInt8×List UInt8×List Int×List UInt8×Int):LS:= {ι:=List Ru×List Ch×List Sn×List Ti×List UInt8×Int,inv:=fun i=>liI x.1 n (xC x) x.2.2.2.2.2.2.1 x.2.2.2.2.2.2.2.1 x.2.2.2.2.2.2.2.2.2 (zI i) (zBW i),regs:=fun i=>[(0,buA x.1 (zBW i)),(3,.str x.2.2.2.2.2.2.2.2.1),(4,.int .i64 x.2.2.2.2.2.2.2.2.2),(10,.int .i64 (min (x.2.2.2.2.2.2.2.2.2+4) 40)),(11,.int .i64 (min (x.2.2.2.2.2.2.2.1.length:Int) 2)),(12,.int .i64 (AM x.1.rd (Am x.2.2.2.2.2.2.1 (xC x)))),(40,Ad x.2.2.2.2.2.2.2.1),(41,.int .i64 x.2.2.2.2.2.2.2.1.length),(42,.int .i64 (zI i))],als:=[],meas:=fun i=>x.2.2.2.2.2.2.2.1.length-(zI i).toNat}
theorem b3W(n:Nat)(hc:Ah G Go.Proofs.Tryz.prog 81 (Cf n)):Ah G Tryz.prog 112 (Js n):=
 vcFun_okP [(79,0,DD),(80,0,CU),(81,0,(Cf n))] [] false (fun x=>[(7,Oz n x)]) Tryz.func112 rfl (by decide) ⟨MB,MC,hc,trivial⟩ (fun(x:BC×List Ru×List Ch×List Sn×List Ti×List UInt8×List UInt8×List Int×List UInt8×Int)=>True∧(↑(List.length (xC x).text+List.length x.2.2.2.2.2.2.1):Int)≤IntKind.max IntKind.i64∧Ab (decide ((↑(List.length x.2.2.2.2.2.2.2.1):Int)>(0:Int))) (inR IntKind.i64 (x.2.2.2.2.2.2.2.2.2+(4:Int))∧inR IntKind.i64 (min (↑(List.length x.2.2.2.2.2.2.2.1):Int) (2:Int)+(1:Int))∧cA DD [.box 0 [.int .i64 x.1.ind,AV.sl true 0 2 Ru ruA (xC x).rules,AV.sl true 0 5 Ch chA (xC x).chunks,AV.sl true 0 3 Sn snA (xC x).spans,AV.sl true 0 2 Ti tiA (xC x).ties,nds x.1.ns,.str ((xC x).text++x.2.2.2.2.2.2.1),.bool x.1.rd],.int .i64 (min (↑(List.length x.2.2.2.2.2.2.2.1):Int) (2:Int)+(1:Int)),.int .i64 (1:Int)] fun x_1 y=>cA CU [.box 0 [.int .i64 x_1.1.ind,AV.sl true 0 2 Ru ruA (yBW y).rules,AV.sl true 0 5 Ch chA (yBW y).chunks,AV.sl true 0 3 Sn snA (yBW y).spans,AV.sl true 0 2 Ti tiA (yBW y).ties,nds x_1.1.ns,.str (yBW y).text,.bool x_1.1.rd],.int .i64 (AM x_1.1.rd (xC x_1)),.int .i64 (1:Int),.bool false,.int .i64 (min (x.2.2.2.2.2.2.2.2.2+(4:Int)) (40:Int))] fun x_2 y=>eA (Oz n x) [.box 0 [.int .i64 x_2.1.ind,AV.sl true 0 2 Ru ruA (yBW y).rules,AV.sl true 0 5 Ch chA (yBW y).chunks,AV.sl true 0 3 Sn snA (yBW y).spans,AV.sl true 0 2 Ti tiA (yBW y).ties,nds x_2.1.ns,.str (yBW y).text,.bool x_2.1.rd],.str x.2.2.2.2.2.2.2.2.1,.int .i64 x.2.2.2.2.2.2.2.2.2,.int .i64 (min (x.2.2.2.2.2.2.2.2.2+(4:Int)) (40:Int)),.int .i64 (min (↑(List.length x.2.2.2.2.2.2.2.1):Int) (2:Int)),.int .i64 (AM x_1.1.rd (xC x_1)),Ad x.2.2.2.2.2.2.2.1,.int .i64 (↑(List.length x.2.2.2.2.2.2.2.1):Int),.int .i64 (0:Int)]∧∀(i:List Ru×List Ch×List Sn×List Ti×List UInt8×Int),liI x.1 n (xC x) x.2.2.2.2.2.2.1 x.2.2.2.2.2.2.2.1 x.2.2.2.2.2.2.2.2.2 (zI i) (zBW i)→Ab (decide (zI i<(↑(List.length x.2.2.2.2.2.2.2.1):Int))) (((0:Int)≤zI i∧zI i<(↑(List.length x.2.2.2.2.2.2.2.1):Int))∧∀(e:Int),x.2.2.2.2.2.2.2.1[Int.toNat (zI i)]? =some e→Ab (decide (zI i>(0:Int))) ((↑(List.length (zBW i).text+(1:Nat)):Int)≤IntKind.max IntKind.i64∧cA CU [.box 0 [.int .i64 x.1.ind,AV.sl true 0 2 Ru ruA (zBW i).rules,AV.sl true 0 5 Ch chA (zBW i).chunks,AV.sl true 0 3 Sn snA (zBW i).spans,AV.sl true 0 2 Ti tiA (zBW i).ties,nds x.1.ns,.str ((zBW i).text++ #[(44:UInt8)].toList),.bool x.1.rd],.int .i64 (AM x.1.rd (Am x.2.2.2.2.2.2.1 (xC x))),.int .i64 (min (↑(List.length x.2.2.2.2.2.2.2.1):Int) (2:Int)),.bool true,.int .i64 (min (x.2.2.2.2.2.2.2.2.2+(4:Int)) (40:Int))] fun x_3 y=>cA (Cf n) [.box 0 [.int .i64 x_3.1.ind,AV.sl true 0 2 Ru ruA (yBW y).rules,AV.sl true 0 5 Ch chA (yBW y).chunks,AV.sl true 0 3 Sn snA (yBW y).spans,AV.sl true 0 2 Ti tiA (yBW y).ties,nds x_3.1.ns,.str (yBW y).text,.bool x_3.1.rd],.int .i64 e,.int .i64 (min (x.2.2.2.2.2.2.2.2.2+(4:Int)) (40:Int))] fun x_4 y=>inR IntKind.i64 (zI i+(1:Int))∧eN (Oz n x) i [.box 0 [.int .i64 x_4.1.ind,AV.sl true 0 2 Ru ruA (yBW y.2).rules,AV.sl true 0 5 Ch chA (yBW y.2).chunks,AV.sl true 0 3 Sn snA (yBW y.2).spans,AV.sl true 0 2 Ti tiA (yBW y.2).ties,nds x_4.1.ns,.str (yBW y.2).text,.bool x_4.1.rd],.str x.2.2.2.2.2.2.2.2.1,.int .i64 x.2.2.2.2.2.2.2.2.2,.int .i64 (min (x.2.2.2.2.2.2.2.2.2+(4:Int)) (40:Int)),.int .i64 (min (↑(List.length x.2.2.2.2.2.2.2.1):Int) (2:Int)),.int .i64 (AM x.1.rd (Am x.2.2.2.2.2.2.1 (xC x))),Ad x.2.2.2.2.2.2.2.1,.int .i64 (↑(List.length x.2.2.2.2.2.2.2.1):Int),.int .i64 (zI i+(1:Int))]) (cA (Cf n) [.box 0 [.int .i64 x.1.ind,AV.sl true 0 2 Ru ruA (zBW i).rules,AV.sl true 0 5 Ch chA (zBW i).chunks,AV.sl true 0 3 Sn snA (zBW i).spans,AV.sl true 0 2 Ti tiA (zBW i).ties,nds x.1.ns,.str (zBW i).text,.bool x.1.rd],.int .i64 e,.int .i64 (min (x.2.2.2.2.2.2.2.2.2+(4:Int)) (40:Int))] fun x_3 y=>inR IntKind.i64 (zI i+(1:Int))∧eN (Oz n x) i [.box 0 [.int .i64 x_3.1.ind,AV.sl true 0 2 Ru ruA (yBW y.2).rules,AV.sl true 0 5 Ch chA (yBW y.2).chunks,AV.sl true 0 3 Sn snA (yBW y.2).spans,AV.sl true 0 2 Ti tiA (yBW y.2).ties,nds x_3.1.ns,.str (yBW y.2).text,.bool x_3.1.rd],.str x.2.2.2.2.2.2.2.2.1,.int .i64 x.2.2.2.2.2.2.2.2.2,.int .i64 (min (x.2.2.2.2.2.2.2.2.2+(4:Int)) (40:Int)),.int .i64 (min (↑(List.length x.2.2.2.2.2.2.2.1):Int) (2:Int)),.int .i64 (AM x.1.rd (Am x.2.2.2.2.2.2.1 (xC x))),Ad x.2.2.2.2.2.2.2.1,.int .i64 (↑(List.length x.2.2.2.2.2.2.2.1):Int),.int .i64 (zI i+(1:Int))])) (cA CU [.box 0 [.int .i64 x.1.ind,AV.sl true 0 2 Ru ruA (zBW i).rules,AV.sl true 0 5 Ch chA (zBW i).chunks,AV.sl true 0 3 Sn snA (zBW i).spans,AV.sl true 0 2 Ti tiA (zBW i).ties,nds x.1.ns,.str (zBW i).text,.bool x.1.rd],.int .i64 (AM x.1.rd (Am x.2.2.2.2.2.2.1 (xC x))),.int .i64 (1:Int),.bool false,.int .i64 x.2.2.2.2.2.2.2.2.2] fun x_3 y=>(↑(List.length (yBW y).text+List.length x.2.2.2.2.2.2.2.2.1):Int)≤IntKind.max IntKind.i64∧rA (Js n) x [.tup [],.box 0 [.int .i64 x_3.1.ind,AV.sl true 0 2 Ru ruA (yBW y).rules,AV.sl true 0 5 Ch chA (yBW y).chunks,AV.sl true 0 3 Sn snA (yBW y).spans,AV.sl true 0 2 Ti tiA (yBW y).ties,nds x_3.1.ns,.str ((yBW y).text++x.2.2.2.2.2.2.2.2.1),.bool x_3.1.rd],.top,.top,.top,.top])) ((↑(List.length ((xC x).text++x.2.2.2.2.2.2.1)+List.length x.2.2.2.2.2.2.2.2.1):Int)≤IntKind.max IntKind.i64∧rA (Js n) x [.tup [],.box 0 [.int .i64 x.1.ind,AV.sl true 0 2 Ru ruA (xC x).rules,AV.sl true 0 5 Ch chA (xC x).chunks,AV.sl true 0 3 Sn snA (xC x).spans,AV.sl true 0 2 Ti tiA (xC x).ties,nds x.1.ns,.str ((xC x).text++x.2.2.2.2.2.2.1++x.2.2.2.2.2.2.2.2.1),.bool x.1.rd],.top,.top,.top,.top])) (fun x=>by kernel_rfl) fun(x:BC×List Ru×List Ch×List Sn×List Ti×List UInt8×List UInt8×List Int×List UInt8×Int) (hx:liP x.1 n (xC x) x.2.2.2.2.2.2.1 x.2.2.2.2.2.2.2.1 x.2.2.2.2.2.2.2.2.1 x.2.2.2.2.2.2.2.2.2)=>(by
 dsimp only[buA,cA,Bl,eA,eN,Oz,Ad,Bi,nds,rA,Bj,Js,DD,CU,Cf,Bm,Bn,Aq,Aw,mvL,lnL,mvE,lnE,mvG,mvH,lnG,lnH,Ba]
 obtain⟨b,r,c,s,t,u,op,ks,en,a⟩:=x;dsimp only[xC] at hx ⊢
 have hx:liP b n ⟨r,c,s,t,u⟩ op ks en a:=hx
 have h1:=hx.ar;have h2:=hx.kl
 (repeat' first|(with_reducible first|rfl|exact True.intro|apply AG|apply And.intro|((first|apply Au|apply AE|apply Av|apply AF)<;>intro _))|(apply As<;>intro _)|apply AD|refine Af () ?_ ?_|((first|apply AK|apply AJ|apply AI|apply AH|apply AC|apply AB|apply AA|apply Az|apply Ax)<;>try dsimp only)|apply Af|(refine Prod.forall.2 ?_;intro _;try dsimp only)|(intro _;try dsimp only))
 all_goals(try dsimp only[yBW,xC,zBW,zI] at*)
 all_goals first
  |with_reducible rfl
  |exact RG hx
  |exact a3z hx ‹_›
  |exact a3A hx ‹_› ‹_›
  |exact a3B ‹_› ‹_›
  |exact a3D ‹_› ‹_› hx ‹_›
  |exact a3C ‹_› hx ‹_›
  |exact a3F ‹_› ‹_› ‹_› hx ‹_› ‹_›
  |exact a3E ‹_› ‹_› hx ‹_› ‹_›
  |exact a3G ‹_› hx ‹_›
  |exact a3I ‹_› ‹_› hx ‹_› ‹_›
  |exact a3J ‹_›
  |(have hq:=WM (show liI _ _ _ _ _ _ _ _ by assumption);(try simp only[Aj]);omega)
  |(have hq:=WN (show liI _ _ _ _ _ _ _ _ by assumption) ‹_›;dsimp only at hq;(try simp only[Aj]);omega)
  |(have hq:=Ha (CV hx.rm);have hq2:=hx.ol;(try simp only[Aj]);omega)
  |(have hq:=Ha (RG hx);have hq2:=hx.el;(try simp only[Aj,List.length_append,Am] at*);omega)
  |(have hq:=a3H ‹_› ‹_› hx ‹_›;have hq2:=hx.el;(try simp only[Aj] at*);omega)
  |rfl
  |skip)
structure cnP (c:BC) (n:Nat) (s:Bs) (x:Nd) (a:Int):Prop where
 kd:kdP c.ns n x.kids
 kl:x.kids.length≤12
 tl:x.text.length≤2
 rm:bR (60+wL (tW c.ns n) x.kids) s
 ar:0≤a∧a≤40
def WO(c:BC)(n:Nat)(s:Bs)(x:Nd)(a:Int):List Int→Int→Bs→Bs:=RC c.ns (bV c.ns c.rd n) (AM c.rd s) a x.text
def Cg(c:BC)(n:Nat)(s:Bs)(x:Nd)(a:Int)(i:Int)(t:Bs):Prop:=HE (WO c n s x a) (fun k=>4+tW c.ns n k) x.kids 2 (Bd c.rd 2 1 s) i t
def cnB(c:BC)(s:Bs)(x:Nd)(a:Int)(i:Int)(z:Bs):Bs:=if i=0 then z else AU (AM c.rd s) 1 true a (Am (32::x.text) z)
def cnJ(c:BC)(n:Nat)(s:Bs)(x:Nd)(a:Int)(z:Bs)(i k:Int)(t:Bs):Prop:=(Cg c n s x a i z∧x.kids[i.toNat]? =some k)∧t=cnB c s x a i z
def Lb(c:BC)(n:Nat)(s:Bs)(kind a k:Int)(z:Bs):Bs:=if Al c.ns k=kind then CH (Dy z.rules.length (bV c.ns c.rd n k a z)) (AM c.rd s) (bV c.ns c.rd n k a z) else bV c.ns c.rd n k a z
def cnK(c:BC)(n:Nat)(s:Bs)(x:Nd)(a:Int)(z:Bs)(i:Int)(t:Bs)(e kind:Int):Prop:=
 ∃k u,(cnJ c n s x a z i k u∧kind=Al c.ns k)∧(e=u.chunks.length∧t=Lb c n s 7 a k u)
def cnQ(c:BC)(n:Nat)(s:Bs)(x:Nd)(a:Int)(o:Int)(t:Bs):Prop:=t=Kz c.ns c.rd (bV c.ns c.rd n) x a s∧o=AM c.rd s
theorem cnS{c:BC}{n:Nat}{s:Bs}{x:Nd}{a:Int}(h:cnP c n s x a):lpS c.rd (WO c n s x a) (RD c.ns (bV c.ns c.rd n) (AM c.rd s) a x.text) (fun k=>4+tW c.ns n k) x.kids:=b3S h.tl (RF h.kd)
theorem a3K{c:BC}{n:Nat}{s t:Bs}{x:Nd}{a:Int}(h:cnP c n s x a)(ht:t=Bd c.rd 2 1 s):Cg c n s x a 0 t:=by
 subst ht
 have h1:bR (wL (fun k=>4+tW c.ns n k) x.kids+2) (Bd c.rd 2 1 s):=by
  rw[Oy];exact Dg (HD h.rm) (by have:=h.kl;omega)
 exact RA (F:=WO c n s x a) h1
theorem OA{c:BC}{n:Nat}{s t:Bs}{x:Nd}{a i:Int}(h:Cg c n s x a i t):0≤i∧i≤x.kids.length:=Ox h
theorem WP{c:BC}{n:Nat}{s t:Bs}{x:Nd}{a i k:Int}(h:Cg c n s x a i t)(hc:x.kids[i.toNat]? =some k):bR (tW c.ns n k+4+2) t:=Dg (RB h hc) (by omega)
theorem a3L{c:BC}{n:Nat}{s t:Bs}{x:Nd}{a i k:Int}(h:Cg c n s x a i t)(hc:x.kids[i.toNat]? =some k):t.text.length+6≤2^61:=by
 have:=(WP h hc).2;unfold tot at this;omega
theorem WQ{c:BC}{n:Nat}{s t:Bs}{x:Nd}{a i k:Int}(hx:cnP c n s x a)(h:Cg c n s x a i t)(hc:x.kids[i.toNat]? =some k):bR (tW c.ns n k+3) (Am (32::x.text) t):=Jq (WP h hc) (by have:=hx.tl;rw[List.length_cons];omega)
theorem a3M{c:BC}{n:Nat}{s t:Bs}{x:Nd}{a i k:Int}(h:Cg c n s x a i t)(hc:x.kids[i.toNat]? =some k)(hi:¬i>0):cnJ c n s x a t i k t:=⟨⟨h,hc⟩,by rw[cnB,if_pos (by have:=OA h;omega)]⟩
theorem WR{c:BC}{n:Nat}{s t u:Bs}{x:Nd}{a i k:Int}(h:Cg c n s x a i t)(hu:u=AU (AM c.rd s) 1 true a (Am (32::x.text) t))(hc:x.kids[i.toNat]? =some k)(hi:i>0):cnJ c n s x a t i k u:=⟨⟨h,hc⟩,by rw[cnB,if_neg (by omega)];exact hu⟩
theorem RI{c:BC}{n:Nat}{s z t:Bs}{x:Nd}{a i k:Int}(hx:cnP c n s x a)(h:cnJ c n s x a z i k t):bR (tW c.ns n k+2) t:=by
 rw[h.2,cnB]
 split
 ·exact Dg (WP h.1.1 h.1.2) (by omega)
 ·exact Jr (WQ hx h.1.1 h.1.2) (by omega)
theorem WS{c:BC}{n:Nat}{s z t:Bs}{x:Nd}{a i k:Int}(h:cnJ c n s x a z i k t)(hx:cnP c n s x a):vlP c.ns n t k a:=by
 have hk:=hx.kd k (AZ h.1.2)
 exact⟨hk.1,hk.2.1,hk.2.2,Dg (RI hx h) (by omega),hx.ar⟩
theorem WT{c:BC}{n:Nat}{s t:Bs}{k a o:Int}{m:Nat}(h:vlP c.ns n s k a)(hq:BJ c n s k a o t)(hm:bR (tW c.ns n k+m) s):bR m t:=by
 rw[hq.1]
 exact MD hm (Ml (rd:=c.rd) h.up h.lt h.vl) (by omega)
theorem WU{c:BC}{n:Nat}{s z t u:Bs}{x:Nd}{a i k o:Int}(h:cnJ c n s x a z i k t)(hu:BJ c n t k a o u)(hx:cnP c n s x a):bB u:=CV (WT (WS h hx) hu (RI hx h))
theorem a3N{c:BC}{n:Nat}{s z t:Bs}{x:Nd}{a i k:Int}(h:cnJ c n s x a z i k t)(hx:cnP c n s x a):(0≤k∧k<c.ns.length)∧t.chunks.length≤79:=⟨Bc.1 (hx.kd k (AZ h.1.2)).1.1,(RI hx h).1.ch⟩
theorem Eg{ns:List Nd}{k:Int}{e:Nd}(h:ns[k.toNat]? =some e):Al ns k=e.kind:=by rw[Al,Br h]
theorem a3O{c:BC}{n:Nat}{s z t u:Bs}{x:Nd}{a i k o:Int}{e:Nd}(h:cnJ c n s x a z i k t)(hu:BJ c n t k a o u)(he:c.ns[k.toNat]? =some e)(hk:¬e.kind=7):cnK c n s x a z i u t.chunks.length e.kind:=
 ⟨k,t,⟨h,(Eg he).symm⟩,rfl,by rw[Lb,if_neg (by rw[Eg he];exact hk)];exact hu.1⟩
theorem a3P{c:BC}{n:Nat}{s z t u v:Bs}{x:Nd}{a i k o:Int}{e:Nd}(h:cnJ c n s x a z i k t)(hu:BJ c n t k a o u)(hv:v=CH o (AM c.rd s) u)(hx:cnP c n s x a)(he:c.ns[k.toNat]? =some e)(hk:e.kind=7):cnK c n s x a z i v t.chunks.length e.kind:=by
 refine⟨k,t,⟨h,(Eg he).symm⟩,rfl,?_⟩
 have hkp:=hx.kd k (AZ h.1.2)
 rw[Lb,if_pos (by rw[Eg he];exact hk),RE hkp.1 hkp.2.1 (.inl (by rw[Eg he];exact hk)),hv,hu.1,hu.2]
theorem RJ{c:BC}{n:Nat}{s z t:Bs}{x:Nd}{a i e kind:Int}(h:cnK c n s x a z i t e kind)(hx:cnP c n s x a):bB t:=by
 obtain⟨k,u,⟨h1,_⟩,_,h2⟩:=h
 have hb:=WU (o:=Gy c.rd (Aa c.ns k) u) h1 ⟨rfl,rfl⟩ hx
 rw[h2,Lb]
 split
 ·exact⟨Vt hb.ok,by have:=(Vs (rd:=true) (k:=Dy u.rules.length (bV c.ns c.rd n k a u)) (u:=AM c.rd s) (s:=bV c.ns c.rd n k a u)).tt;have:=hb.tt;omega⟩
 ·exact hb
theorem RK{c:BC}{n:Nat}{s z t:Bs}{x:Nd}{a i e kind:Int}(h:cnK c n s x a z i t e kind)(hx:cnP c n s x a):Cg c n s x a (i+1) (if kind=1∨kind=2∨kind=3 then t else Fe e t):=by
 obtain⟨k,u,⟨h1,hk⟩,he,h2⟩:=h
 have:=Ow (cnS hx) h1.1.1 h1.1.2
 rw[RD,show(if i=0 then z else AU (AM c.rd s) 1 true a (Am (32::x.text) z))=u from h1.2.symm,HZ] at this
 rw[hk,he,h2]
 exact this
theorem b3X{c:BC}{n:Nat}{s z t:Bs}{x:Nd}{a i e kind:Int}(h:cnK c n s x a z i t e kind)(hx:cnP c n s x a)(hk:kind=1∨kind=2∨kind=3):Cg c n s x a (i+1) t:=by
 have:=RK h hx;rwa [if_pos hk] at this
theorem b3Y{c:BC}{n:Nat}{s z t v:Bs}{x:Nd}{a i e kind:Int}(h:cnK c n s x a z i t e kind)(hv:v=Fe e t)(hx:cnP c n s x a)(hk:¬kind=1)(hk2:¬kind=2)(hk3:¬kind=3):Cg c n s x a (i+1) v:=by
 have:=RK h hx;rw[if_neg (by omega)] at this;rw[hv];exact this
theorem a3Q{c:BC}{n:Nat}{s t:Bs}{x:Nd}{a i:Int}(h:Cg c n s x a i t)(hx:cnP c n s x a)(hi:¬i<x.kids.length):cnQ c n s x a (AM c.rd s) t:=⟨(ME (cnS hx) h hi).1,rfl⟩
attribute [local irreducible] Cg cnJ cnK
abbrev wB (x:List Ru×List Ch×List Sn×List Ti×List UInt8×Int×Int):Bs:=⟨x.1,x.2.1,x.2.2.1,x.2.2.2.1,x.2.2.2.2.1⟩
def WV(n:Nat)(x:BC×List Ru×List Ch×List Sn×List Ti×List UInt8×Nd×Int)(i:List Ru×List Ch×List Sn×List Ti×List UInt8×Int):LS:= {ι:=Int×Unit,inv:=fun k=>zI i>0∧x.2.2.2.2.2.2.1.kids[(zI i).toNat]? =some k.1,regs:=fun k=>[(0,buA x.1 (Am (32::x.2.2.2.2.2.2.1.text) (zBW i))),(9,.int .i64 k.1),(2,.int .i64 x.2.2.2.2.2.2.2),(4,.box 0 (ndA false x.2.2.2.2.2.2.1)),(7,.int .i64 (AM x.1.rd (xC x))),(16,Ad x.2.2.2.2.2.2.1.kids),(17,.int .i64 x.2.2.2.2.2.2.1.kids.length),(18,.int .i64 (zI i))],als:=[],meas:=fun _=>0}
def RL(n:Nat)(x:BC×List Ru×List Ch×List Sn×List Ti×List UInt8×Nd×Int)(i:List Ru×List Ch×List Sn×List Ti×List UInt8×Int):LS:= {ι:=List Ru×List Ch×List Sn×List Ti×List UInt8×Int,inv:=fun j=>cnJ x.1 n (xC x) x.2.2.2.2.2.2.1 x.2.2.2.2.2.2.2 (zBW i) (zI i) (zI j) (zBW j),regs:=fun j=>[(0,buA x.1 (zBW j)),(9,.int .i64 (zI j)),(2,.int .i64 x.2.2.2.2.2.2.2),(4,.box 0 (ndA false x.2.2.2.2.2.2.1)),(7,.int .i64 (AM x.1.rd (xC x))),(16,Ad x.2.2.2.2.2.2.1.kids),(17,.int .i64 x.2.2.2.2.2.2.1.kids.length),(18,.int .i64 (zI i))],als:=[],meas:=fun _=>0}
def RM(n:Nat)(x:BC×List Ru×List Ch×List Sn×List Ti×List UInt8×Nd×Int)(i:List Ru×List Ch×List Sn×List Ti×List UInt8×Int):LS:= {ι:=List Ru×List Ch×List Sn×List Ti×List UInt8×Int×Int,inv:=fun j=>cnK x.1 n (xC x) x.2.2.2.2.2.2.1 x.2.2.2.2.2.2.2 (zBW i) (zI i) (wB j) j.2.2.2.2.2.1 j.2.2.2.2.2.2,regs:=fun j=>[(0,buA x.1 (wB j)),(10,.int .i64 j.2.2.2.2.2.1),(12,.int .i64 j.2.2.2.2.2.2),(2,.int .i64 x.2.2.2.2.2.2.2),(4,.box 0 (ndA false x.2.2.2.2.2.2.1)),(7,.int .i64 (AM x.1.rd (xC x))),(16,Ad x.2.2.2.2.2.2.1.kids),(17,.int .i64 x.2.2.2.2.2.2.1.kids.length),(18,.int .i64 (zI i))],als:=[],meas:=fun _=>0}
def OB(n:Nat)(x:BC×List Ru×List Ch×List Sn×List Ti×List UInt8×Nd×Int):LS:= {ι:=List Ru×List Ch×List Sn×List Ti×List UInt8×Int,inv:=fun i=>Cg x.1 n (xC x) x.2.2.2.2.2.2.1 x.2.2.2.2.2.2.2 (zI i) (zBW i),regs:=fun i=>[(0,buA x.1 (zBW i)),(2,.int .i64 x.2.2.2.2.2.2.2),(4,.box 0 (ndA false x.2.2.2.2.2.2.1)),(7,.int .i64 (AM x.1.rd (xC x))),(16,Ad x.2.2.2.2.2.2.1.kids),(17,.int .i64 x.2.2.2.2.2.2.1.kids.length),(18,.int .i64 (zI i))],als:=[],meas:=fun i=>x.2.2.2.2.2.2.1.kids.length-(zI i).toNat,sub:=fun i=>[(200008,RL n x i),(100006,WV n x i),(200013,RM n x i)]}
def MG(n:Nat):Sig:= {X:=BC×List Ru×List Ch×List Sn×List Ti×List UInt8×Nd×Int,args:=fun x=>[buA x.1 (xC x),.agg (ndA false x.2.2.2.2.2.2.1),.int .i64 x.2.2.2.2.2.2.2],pre:=fun x=>cnP x.1 n (xC x) x.2.2.2.2.2.2.1 x.2.2.2.2.2.2.2,Y:=Int×BT,post:=fun x y=>cnQ x.1 n (xC x) x.2.2.2.2.2.2.1 x.2.2.2.2.2.2.2 y.1 (yBW y.2),res:=fun x y=> .int .i64 y.1,outs:=fun x y=>[buA x.1 (yBW y.2),.top,.top],keep:=true}
def RN(n:Nat)(x:BC×List Ru×List Ch×List Sn×List Ti×List UInt8×Nd×Int)(i:List Ru×List Ch×List Sn×List Ti×List UInt8×Int)(i_2:List Ru×List Ch×List Sn×List Ti×List UInt8×Int×Int):Prop:=eN (OB n x) i [.box 0 [.int .i64 x.1.ind,AV.sl true 0 2 Ru ruA (wB i_2).rules,AV.sl true 0 5 Ch chA (wB i_2).chunks,AV.sl true 0 3 Sn snA (wB i_2).spans,AV.sl true 0 2 Ti tiA (wB i_2).ties,nds x.1.ns,.str (wB i_2).text,.bool x.1.rd],.int .i64 x.2.2.2.2.2.2.2,.box 0 [.int .i64 x.2.2.2.2.2.2.1.kind,.str x.2.2.2.2.2.2.1.text,Ad x.2.2.2.2.2.2.1.kids,.bool x.2.2.2.2.2.2.1.blank],.int .i64 (AM x.1.rd (xC x)),Ad x.2.2.2.2.2.2.1.kids,.int .i64 (↑(List.length x.2.2.2.2.2.2.1.kids):Int),.int .i64 (zI i+(1:Int))]
def WW(n:Nat)(x:BC×List Ru×List Ch×List Sn×List Ti×List UInt8×Nd×Int)(e:Int)(i:List Ru×List Ch×List Sn×List Ti×List UInt8×Int):Prop:=(↑((1:Nat)+List.length x.2.2.2.2.2.2.1.text):Int)≤IntKind.max IntKind.i64∧((↑(List.length (zBW i).text+List.length (#[(32:UInt8)].toList++x.2.2.2.2.2.2.1.text)):Int)≤IntKind.max IntKind.i64∧(true=true∧(eA (WV n x i) [.box 0 [.int .i64 x.1.ind,AV.sl true 0 2 Ru ruA (zBW i).rules,AV.sl true 0 5 Ch chA (zBW i).chunks,AV.sl true 0 3 Sn snA (zBW i).spans,AV.sl true 0 2 Ti tiA (zBW i).ties,nds x.1.ns,.str ((zBW i).text++(#[(32:UInt8)].toList++x.2.2.2.2.2.2.1.text)),.bool x.1.rd],.int .i64 e,.int .i64 x.2.2.2.2.2.2.2,.box 0 [.int .i64 x.2.2.2.2.2.2.1.kind,.str x.2.2.2.2.2.2.1.text,Ad x.2.2.2.2.2.2.1.kids,.bool x.2.2.2.2.2.2.1.blank],.int .i64 (AM x.1.rd (xC x)),Ad x.2.2.2.2.2.2.1.kids,.int .i64 (↑(List.length x.2.2.2.2.2.2.1.kids):Int),.int .i64 (zI i)])))
theorem b3Z(n:Nat)(hc:Ah G Go.Proofs.Tryz.prog 81 (Cf n)):Ah G Tryz.prog 113 (MG n):=
 vcFun_okP [(79,0,DD),(80,0,CU),(81,0,(Cf n)),(140,0,Im),(141,0,La)] [] false (fun x=>[(3,OB n x)]) Tryz.func113 rfl (by decide) ⟨MB,MC,hc,a3y,b3Q,trivial⟩ (fun(x:BC×List Ru×List Ch×List Sn×List Ti×List UInt8×Nd×Int)=>True∧cA DD [.box 0 [.int .i64 x.1.ind,AV.sl true 0 2 Ru ruA (xC x).rules,AV.sl true 0 5 Ch chA (xC x).chunks,AV.sl true 0 3 Sn snA (xC x).spans,AV.sl true 0 2 Ti tiA (xC x).ties,nds x.1.ns,.str (xC x).text,.bool x.1.rd],.int .i64 (2:Int),.int .i64 (1:Int)] fun x_1 y=>eA (OB n x) [.box 0 [.int .i64 x_1.1.ind,AV.sl true 0 2 Ru ruA (yBW y).rules,AV.sl true 0 5 Ch chA (yBW y).chunks,AV.sl true 0 3 Sn snA (yBW y).spans,AV.sl true 0 2 Ti tiA (yBW y).ties,nds x_1.1.ns,.str (yBW y).text,.bool x_1.1.rd],.int .i64 x.2.2.2.2.2.2.2,.box 0 [.int .i64 x.2.2.2.2.2.2.1.kind,.str x.2.2.2.2.2.2.1.text,Ad x.2.2.2.2.2.2.1.kids,.bool x.2.2.2.2.2.2.1.blank],.int .i64 (AM x_1.1.rd (xC x_1)),Ad x.2.2.2.2.2.2.1.kids,.int .i64 (↑(List.length x.2.2.2.2.2.2.1.kids):Int),.int .i64 (0:Int)]∧∀(i:List Ru×List Ch×List Sn×List Ti×List UInt8×Int),Cg x.1 n (xC x) x.2.2.2.2.2.2.1 x.2.2.2.2.2.2.2 (zI i) (zBW i)→Ab (decide (zI i<(↑(List.length x.2.2.2.2.2.2.1.kids):Int))) (((0:Int)≤zI i∧zI i<(↑(List.length x.2.2.2.2.2.2.1.kids):Int))∧∀(e:Int),x.2.2.2.2.2.2.1.kids[Int.toNat (zI i)]? =some e→Ab (decide (zI i>(0:Int))) (true=true∧((WW n x e i)∧(WW n x e i))∧∀(i_1:Int×Unit),zI i>(0:Int)∧x.2.2.2.2.2.2.1.kids[Int.toNat (zI i)]? =some i_1.1→cA CU [.box 0 [.int .i64 x.1.ind,AV.sl true 0 2 Ru ruA (Am ((32:UInt8)::x.2.2.2.2.2.2.1.text) (zBW i)).rules,AV.sl true 0 5 Ch chA (Am ((32:UInt8)::x.2.2.2.2.2.2.1.text) (zBW i)).chunks,AV.sl true 0 3 Sn snA (Am ((32:UInt8)::x.2.2.2.2.2.2.1.text) (zBW i)).spans,AV.sl true 0 2 Ti tiA (Am ((32:UInt8)::x.2.2.2.2.2.2.1.text) (zBW i)).ties,nds x.1.ns,.str (Am ((32:UInt8)::x.2.2.2.2.2.2.1.text) (zBW i)).text,.bool x.1.rd],.int .i64 (AM x.1.rd (xC x)),.int .i64 (1:Int),.bool true,.int .i64 x.2.2.2.2.2.2.2] fun x_2 y=>eA (RL n x i) [.box 0 [.int .i64 x_2.1.ind,AV.sl true 0 2 Ru ruA (yBW y).rules,AV.sl true 0 5 Ch chA (yBW y).chunks,AV.sl true 0 3 Sn snA (yBW y).spans,AV.sl true 0 2 Ti tiA (yBW y).ties,nds x_2.1.ns,.str (yBW y).text,.bool x_2.1.rd],.int .i64 i_1.1,.int .i64 x.2.2.2.2.2.2.2,.box 0 [.int .i64 x.2.2.2.2.2.2.1.kind,.str x.2.2.2.2.2.2.1.text,Ad x.2.2.2.2.2.2.1.kids,.bool x.2.2.2.2.2.2.1.blank],.int .i64 (AM x.1.rd (xC x)),Ad x.2.2.2.2.2.2.1.kids,.int .i64 (↑(List.length x.2.2.2.2.2.2.1.kids):Int),.int .i64 (zI i)]) (eA (RL n x i) [.box 0 [.int .i64 x.1.ind,AV.sl true 0 2 Ru ruA (zBW i).rules,AV.sl true 0 5 Ch chA (zBW i).chunks,AV.sl true 0 3 Sn snA (zBW i).spans,AV.sl true 0 2 Ti tiA (zBW i).ties,nds x.1.ns,.str (zBW i).text,.bool x.1.rd],.int .i64 e,.int .i64 x.2.2.2.2.2.2.2,.box 0 [.int .i64 x.2.2.2.2.2.2.1.kind,.str x.2.2.2.2.2.2.1.text,Ad x.2.2.2.2.2.2.1.kids,.bool x.2.2.2.2.2.2.1.blank],.int .i64 (AM x.1.rd (xC x)),Ad x.2.2.2.2.2.2.1.kids,.int .i64 (↑(List.length x.2.2.2.2.2.2.1.kids):Int),.int .i64 (zI i)])∧∀(i_1:List Ru×List Ch×List Sn×List Ti×List UInt8×Int),cnJ x.1 n (xC x) x.2.2.2.2.2.2.1 x.2.2.2.2.2.2.2 (zBW i) (zI i) (zI i_1) (zBW i_1)→cA (Cf n) [.box 0 [.int .i64 x.1.ind,AV.sl true 0 2 Ru ruA (zBW i_1).rules,AV.sl true 0 5 Ch chA (zBW i_1).chunks,AV.sl true 0 3 Sn snA (zBW i_1).spans,AV.sl true 0 2 Ti tiA (zBW i_1).ties,nds x.1.ns,.str (zBW i_1).text,.bool x.1.rd],.int .i64 (zI i_1),.int .i64 x.2.2.2.2.2.2.2] fun x_2 y=>((0:Int)≤zI i_1∧zI i_1<(↑(List.length x_2.1.ns):Int))∧∀(e:Nd),x_2.1.ns[Int.toNat (zI i_1)]? =some e→Ab (e.kind==(7:Int)) (cA Im [.box 0 [.int .i64 x_2.1.ind,AV.sl true 0 2 Ru ruA (yBW y.2).rules,AV.sl true 0 5 Ch chA (yBW y.2).chunks,AV.sl true 0 3 Sn snA (yBW y.2).spans,AV.sl true 0 2 Ti tiA (yBW y.2).ties,nds x_2.1.ns,.str (yBW y.2).text,.bool x_2.1.rd],.int .i64 y.1,.int .i64 (AM x.1.rd (xC x))] fun x_3 y=>eA (RM n x i) [.box 0 [.int .i64 x_3.1.ind,AV.sl true 0 2 Ru ruA (yBW y).rules,AV.sl true 0 5 Ch chA (yBW y).chunks,AV.sl true 0 3 Sn snA (yBW y).spans,AV.sl true 0 2 Ti tiA (yBW y).ties,nds x_3.1.ns,.str (yBW y).text,.bool x_3.1.rd],.int .i64 (↑(List.length (zBW i_1).chunks):Int),.int .i64 e.kind,.int .i64 x.2.2.2.2.2.2.2,.box 0 [.int .i64 x.2.2.2.2.2.2.1.kind,.str x.2.2.2.2.2.2.1.text,Ad x.2.2.2.2.2.2.1.kids,.bool x.2.2.2.2.2.2.1.blank],.int .i64 (AM x.1.rd (xC x)),Ad x.2.2.2.2.2.2.1.kids,.int .i64 (↑(List.length x.2.2.2.2.2.2.1.kids):Int),.int .i64 (zI i)]) (eA (RM n x i) [.box 0 [.int .i64 x_2.1.ind,AV.sl true 0 2 Ru ruA (yBW y.2).rules,AV.sl true 0 5 Ch chA (yBW y.2).chunks,AV.sl true 0 3 Sn snA (yBW y.2).spans,AV.sl true 0 2 Ti tiA (yBW y.2).ties,nds x_2.1.ns,.str (yBW y.2).text,.bool x_2.1.rd],.int .i64 (↑(List.length (zBW i_1).chunks):Int),.int .i64 e.kind,.int .i64 x.2.2.2.2.2.2.2,.box 0 [.int .i64 x.2.2.2.2.2.2.1.kind,.str x.2.2.2.2.2.2.1.text,Ad x.2.2.2.2.2.2.1.kids,.bool x.2.2.2.2.2.2.1.blank],.int .i64 (AM x.1.rd (xC x)),Ad x.2.2.2.2.2.2.1.kids,.int .i64 (↑(List.length x.2.2.2.2.2.2.1.kids):Int),.int .i64 (zI i)])∧∀(i_2:List Ru×List Ch×List Sn×List Ti×List UInt8×Int×Int),cnK x.1 n (xC x) x.2.2.2.2.2.2.1 x.2.2.2.2.2.2.2 (zBW i) (zI i) (wB i_2) i_2.2.2.2.2.2.1 i_2.2.2.2.2.2.2→Ab (i_2.2.2.2.2.2.2 != (1:Int)) (Ab (i_2.2.2.2.2.2.2 != (2:Int)) (Ab (i_2.2.2.2.2.2.2 != (3:Int)) (cA La [.box 0 [.int .i64 x.1.ind,AV.sl true 0 2 Ru ruA (wB i_2).rules,AV.sl true 0 5 Ch chA (wB i_2).chunks,AV.sl true 0 3 Sn snA (wB i_2).spans,AV.sl true 0 2 Ti tiA (wB i_2).ties,nds x.1.ns,.str (wB i_2).text,.bool x.1.rd],.int .i64 i_2.2.2.2.2.2.1] fun x_3 y=>inR IntKind.i64 (zI i+(1:Int))∧eN (OB n x) i [.box 0 [.int .i64 x_3.1.ind,AV.sl true 0 2 Ru ruA (yBW y).rules,AV.sl true 0 5 Ch chA (yBW y).chunks,AV.sl true 0 3 Sn snA (yBW y).spans,AV.sl true 0 2 Ti tiA (yBW y).ties,nds x_3.1.ns,.str (yBW y).text,.bool x_3.1.rd],.int .i64 x.2.2.2.2.2.2.2,.box 0 [.int .i64 x.2.2.2.2.2.2.1.kind,.str x.2.2.2.2.2.2.1.text,Ad x.2.2.2.2.2.2.1.kids,.bool x.2.2.2.2.2.2.1.blank],.int .i64 (AM x.1.rd (xC x)),Ad x.2.2.2.2.2.2.1.kids,.int .i64 (↑(List.length x.2.2.2.2.2.2.1.kids):Int),.int .i64 (zI i+(1:Int))]) (inR IntKind.i64 (zI i+(1:Int))∧(RN n x i i_2))) (inR IntKind.i64 (zI i+(1:Int))∧(RN n x i i_2))) (inR IntKind.i64 (zI i+(1:Int))∧(RN n x i i_2))) (rA (MG n) x [.int .i64 (AM x.1.rd (xC x)),.box 0 [.int .i64 x.1.ind,AV.sl true 0 2 Ru ruA (zBW i).rules,AV.sl true 0 5 Ch chA (zBW i).chunks,AV.sl true 0 3 Sn snA (zBW i).spans,AV.sl true 0 2 Ti tiA (zBW i).ties,nds x.1.ns,.str (zBW i).text,.bool x.1.rd],.top,.top])) (fun x=>by kernel_rfl) fun(x:BC×List Ru×List Ch×List Sn×List Ti×List UInt8×Nd×Int) (hx:cnP x.1 n (xC x) x.2.2.2.2.2.2.1 x.2.2.2.2.2.2.2)=>(by
 dsimp only[WW,RN,buA,cA,Bl,RM,OB,WV,RL,eA,eN,Ad,Bi,nds,rA,Bj,MG,DD,La,CU,Im,Cf,Bm,Bn,Aq,Aw,mvL,lnL,mvE,lnE,mvG,mvH,lnG,lnH,Ba]
 obtain⟨b,r,c,s,t,u,x,a⟩:=x;dsimp only[xC] at hx ⊢
 have hx:cnP b n ⟨r,c,s,t,u⟩ x a:=hx
 have h1:=hx.ar;have h2:=hx.kl;have h3:=hx.tl
 (repeat' first|(with_reducible first|rfl|exact True.intro|apply AG|apply And.intro|((first|apply Au|apply AE|apply Av|apply AF)<;>intro _))|(apply As<;>intro _)|apply AD|refine Af () ?_ ?_|((first|apply AK|apply AJ|apply AI|apply AH|apply AC|apply AB|apply AA|apply Az|apply Ax)<;>try dsimp only)|apply Af|(refine Prod.forall.2 ?_;intro _;try dsimp only)|(intro _;try dsimp only))
 all_goals(try dsimp only[yBW,xC,zBW,zI,wB] at*)
 all_goals first
  |with_reducible rfl
  |exact CV hx.rm
  |exact a3K hx ‹_›
  |exact CV (WQ hx ‹_› ‹_›)
  |exact a3M ‹_› ‹_› ‹_›
  |exact WR ‹_› ‹_› ‹_› ‹_›
  |exact WR ‹_› ‹_› (show _∧x.kids[_]? =some _ by assumption).2 ‹_›
  |exact WS ‹_› hx
  |exact WU ‹_› ‹_› hx
  |exact a3O ‹_› ‹_› ‹_› ‹_›
  |exact a3P ‹_› ‹_› ‹_› hx ‹_› ‹_›
  |exact RJ ‹_› hx
  |exact b3X ‹_› hx (by omega)
  |exact b3Y ‹_› ‹_› hx ‹_› ‹_› ‹_›
  |exact a3Q ‹_› hx ‹_›
  |(have hq:=OA (show Cg _ _ _ _ _ _ _ by assumption);(try simp only[Aj]);omega)
  |(have hq:=a3L (show Cg _ _ _ _ _ _ _ by assumption) ‹_›;dsimp only at hq;(try simp only[Aj,List.length_append,List.length_cons,List.length_nil]);omega)
  |(have hq:=a3N (show cnJ _ _ _ _ _ _ _ _ _ by assumption) hx;dsimp only at hq;(try simp only[Aj]);omega)
  |exact⟨by assumption,by assumption⟩
  |exact()
  |rfl
  |skip)
end Go.My
end
section
namespace Go.My
open Go.Eng Go.Proofs
variable {G:GInv}
structure pnP (c:BC) (n:Nat) (s:Bs) (x:Nd) (a:Int):Prop where
 kd:kdP c.ns n x.kids
 kl:x.kids.length≤3
 rm:bR (60+wL (tW c.ns n) x.kids) s
 ar:0≤a∧a≤40
def pnF(c:BC)(n:Nat)(s:Bs)(a:Int):List Int→Int→Bs→Bs:=pkL c.ns (bV c.ns c.rd n) (AM c.rd s) a
def pnI(c:BC)(n:Nat)(s:Bs)(x:Nd)(a:Int)(i:Int)(t:Bs):Prop:=HE (pnF c n s a) (fun k=>3+tW c.ns n k) x.kids 2 (Bd c.rd 2 1 s) i t
def pnB(c:BC)(s:Bs)(a:Int)(i:Int)(z:Bs):Bs:=if i=0 then z else Am (pkT i) (AU (AM c.rd s) 1 true a z)
def pnJ(c:BC)(n:Nat)(s:Bs)(x:Nd)(a:Int)(z:Bs)(i k:Int)(t:Bs):Prop:=(pnI c n s x a i z∧x.kids[i.toNat]? =some k)∧t=pnB c s a i z
def pnQ(c:BC)(n:Nat)(s:Bs)(x:Nd)(a:Int)(o:Int)(t:Bs):Prop:=t=Mh c.ns c.rd (bV c.ns c.rd n) x a s∧o=AM c.rd s
theorem pnS{c:BC}{n:Nat}{s:Bs}{x:Nd}{a:Int}(h:pnP c n s x a):lpS c.rd (pnF c n s a) (pkS c.ns (bV c.ns c.rd n) (AM c.rd s) a) (fun k=>3+tW c.ns n k) x.kids:=b3T (RF h.kd)
theorem a3R{c:BC}{n:Nat}{s t:Bs}{x:Nd}{a:Int}(h:pnP c n s x a)(ht:t=Bd c.rd 2 1 s):pnI c n s x a 0 t:=by
 subst ht
 have h1:bR (wL (fun k=>3+tW c.ns n k) x.kids+2) (Bd c.rd 2 1 s):=by
  rw[Oy];exact Dg (HD h.rm) (by have:=h.kl;omega)
 exact RA (F:=pnF c n s a) h1
theorem RO{c:BC}{n:Nat}{s t:Bs}{x:Nd}{a i:Int}(h:pnI c n s x a i t):0≤i∧i≤x.kids.length:=Ox h
theorem WX{c:BC}{n:Nat}{s t:Bs}{x:Nd}{a i k:Int}(h:pnI c n s x a i t)(hc:x.kids[i.toNat]? =some k):bR (tW c.ns n k+3+2) t:=Dg (RB h hc) (by omega)
theorem a3S{c:BC}{n:Nat}{s t:Bs}{x:Nd}{a i k:Int}(h:pnI c n s x a i t)(hc:x.kids[i.toNat]? =some k):bB t:=CV (WX h hc)
theorem a3T{c:BC}{n:Nat}{s t u:Bs}{x:Nd}{a i k:Int}(h:pnI c n s x a i t)(hu:u=AU (AM c.rd s) 1 true a t)(hc:x.kids[i.toNat]? =some k):bR (tW c.ns n k+4) u:=by
 subst hu;exact Jr (WX h hc) (by omega)
theorem a3U{c:BC}{n:Nat}{s t u:Bs}{x:Nd}{a i k:Int}(h:pnI c n s x a i t)(hu:u=AU (AM c.rd s) 1 true a t)(hc:x.kids[i.toNat]? =some k):u.text.length+4≤2^61:=by
 have:=(a3T h hu hc).2;unfold tot at this;omega
theorem a3V{c:BC}{n:Nat}{s t:Bs}{x:Nd}{a i k:Int}(h:pnI c n s x a i t)(hc:x.kids[i.toNat]? =some k)(hi:¬i>0):pnJ c n s x a t i k t:=⟨⟨h,hc⟩,by rw[pnB,if_pos (by have:=RO h;omega)]⟩
theorem b4a{c:BC}{n:Nat}{s t u:Bs}{x:Nd}{a i k:Int}(h:pnI c n s x a i t)(hc:x.kids[i.toNat]? =some k)(hi:i>0)(hu:u=AU (AM c.rd s) 1 true a t):pnJ c n s x a t i k (Am (pkT i) u):=⟨⟨h,hc⟩,by rw[pnB,if_neg (by omega),hu]⟩
theorem WY{c:BC}{n:Nat}{s z t:Bs}{x:Nd}{a i k:Int}(h:pnJ c n s x a z i k t):bR (tW c.ns n k+2) t:=by
 rw[h.2,pnB]
 split
 ·exact Dg (WX h.1.1 h.1.2) (by omega)
 ·exact Jq (a3T h.1.1 rfl h.1.2) (by have:= @Vv i;omega)
theorem WZ{c:BC}{n:Nat}{s z t:Bs}{x:Nd}{a i k:Int}(h:pnJ c n s x a z i k t)(hx:pnP c n s x a):vlP c.ns n t k a:=by
 have hk:=hx.kd k (AZ h.1.2)
 exact⟨hk.1,hk.2.1,hk.2.2,Dg (WY h) (by omega),hx.ar⟩
theorem a3W{c:BC}{n:Nat}{s z t u:Bs}{x:Nd}{a i k o:Int}(h:pnJ c n s x a z i k t)(hu:BJ c n t k a o u)(hx:pnP c n s x a):bB u:=CV (WT (WZ h hx) hu (WY h))
theorem a3X{c:BC}{n:Nat}{s z t:Bs}{x:Nd}{a i k:Int}(h:pnJ c n s x a z i k t)(hx:pnP c n s x a):0≤k∧k<c.ns.length:=Bc.1 (hx.kd k (AZ h.1.2)).1.1
theorem a3Y{c:BC}{n:Nat}{s z t:Bs}{x:Nd}{a i k:Int}(h:pnJ c n s x a z i k t)(hx:pnP c n s x a):pnI c n s x a (i+1) (Lb c n s 8 a k t):=by
 have:=Ow (pnS hx) h.1.1 h.1.2
 rw[pkS,show(if i=0 then z else Am (pkT i) (AU (AM c.rd s) 1 true a z))=t from h.2.symm,Ia] at this
 exact this
theorem a3Z{c:BC}{n:Nat}{s z t u:Bs}{x:Nd}{a i k o:Int}{e:Nd}(h:pnJ c n s x a z i k t)(hu:BJ c n t k a o u)(hx:pnP c n s x a)(he:c.ns[k.toNat]? =some e)(hk:¬e.kind=8):pnI c n s x a (i+1) u:=by
 have:=a3Y h hx
 rw[Lb,if_neg (by rw[Eg he];exact hk),←hu.1] at this;exact this
theorem a4a{c:BC}{n:Nat}{s z t u v:Bs}{x:Nd}{a i k o:Int}{e:Nd}(h:pnJ c n s x a z i k t)(hu:BJ c n t k a o u)(hv:v=CH o (AM c.rd s) u)(hx:pnP c n s x a)(he:c.ns[k.toNat]? =some e)(hk:e.kind=8):pnI c n s x a (i+1) v:=by
 have:=a3Y h hx
 have hkp:=hx.kd k (AZ h.1.2)
 rw[Lb,if_pos (by rw[Eg he];exact hk),RE hkp.1 hkp.2.1 (.inr (by rw[Eg he];exact hk)),←hu.2,←hu.1,←hv] at this;exact this
theorem a4b{c:BC}{n:Nat}{s t:Bs}{x:Nd}{a i:Int}(h:pnI c n s x a i t)(hx:pnP c n s x a)(hi:¬i<x.kids.length):pnQ c n s x a (AM c.rd s) t:=⟨(ME (pnS hx) h hi).1,rfl⟩
theorem Xa{i:Int}{l:List UInt8}(h:([[],[63,32],[58,32]]:List (List UInt8))[i.toNat]? =some l)(hi:i>0):l=pkT i∧l.length≤2:=by
 have hlt:=(Cx h).1
 simp only[List.length_cons,List.length_nil] at hlt
 have:i=1∨i=2:=by omega
 rcases this with rfl|rfl
 ·simp at h;subst h;exact⟨rfl,by simp⟩
 ·simp at h;subst h;exact⟨rfl,by simp⟩
theorem a4c{c:BC}{n:Nat}{s t u:Bs}{x:Nd}{a i k:Int}{l:List UInt8}(h:pnI c n s x a i t)(hc:x.kids[i.toNat]? =some k)(hi:i>0)(hu:u=AU (AM c.rd s) 1 true a t)(hl:([[],[63,32],[58,32]]:List (List UInt8))[i.toNat]? =some l):pnJ c n s x a t i k (Am l u):=by
 rw[(Xa hl hi).1];exact b4a h hc hi hu
theorem b4b{c:BC}{n:Nat}{s t:Bs}{x:Nd}{a i k:Int}{l:List UInt8}{r1:List Ru}{r2:List Ch}{r3:List Sn}{r4:List Ti}{r5:List UInt8}(h:pnI c n s x a i t)(hc:x.kids[i.toNat]? =some k)(hi:i>0)(hu:⟨r1,r2,r3,r4,r5⟩=AU (AM c.rd s) 1 true a t)(hl:([[],[63,32],[58,32]]:List (List UInt8))[i.toNat]? =some l):pnJ c n s x a t i k ⟨r1,r2,r3,r4,r5++l⟩:=a4c h hc hi hu hl
attribute [local irreducible] pnI pnJ
def MH(n:Nat)(x:BC×List Ru×List Ch×List Sn×List Ti×List UInt8×Nd×Int)(i:List Ru×List Ch×List Sn×List Ti×List UInt8×Int):LS:= {ι:=List Ru×List Ch×List Sn×List Ti×List UInt8×Int,inv:=fun j=>pnJ x.1 n (xC x) x.2.2.2.2.2.2.1 x.2.2.2.2.2.2.2 (zBW i) (zI i) (zI j) (zBW j),regs:=fun j=>[(0,buA x.1 (zBW j)),(9,.int .i64 (zI j)),(2,.int .i64 x.2.2.2.2.2.2.2),(4,.box 0 (ndA false x.2.2.2.2.2.2.1)),(7,.int .i64 (AM x.1.rd (xC x))),(14,Ad x.2.2.2.2.2.2.1.kids),(15,.int .i64 x.2.2.2.2.2.2.1.kids.length),(16,.int .i64 (zI i))],als:=[],meas:=fun _=>0}
def OC(n:Nat)(x:BC×List Ru×List Ch×List Sn×List Ti×List UInt8×Nd×Int):LS:= {ι:=List Ru×List Ch×List Sn×List Ti×List UInt8×Int,inv:=fun i=>pnI x.1 n (xC x) x.2.2.2.2.2.2.1 x.2.2.2.2.2.2.2 (zI i) (zBW i),regs:=fun i=>[(0,buA x.1 (zBW i)),(2,.int .i64 x.2.2.2.2.2.2.2),(4,.box 0 (ndA false x.2.2.2.2.2.2.1)),(7,.int .i64 (AM x.1.rd (xC x))),(14,Ad x.2.2.2.2.2.2.1.kids),(15,.int .i64 x.2.2.2.2.2.2.1.kids.length),(16,.int .i64 (zI i))],als:=[],meas:=fun i=>x.2.2.2.2.2.2.1.kids.length-(zI i).toNat,sub:=fun i=>[(200008,MH n x i),(100007,MH n x i)]}
def MI(n:Nat):Sig:= {X:=BC×List Ru×List Ch×List Sn×List Ti×List UInt8×Nd×Int,args:=fun x=>[buA x.1 (xC x),.agg (ndA false x.2.2.2.2.2.2.1),.int .i64 x.2.2.2.2.2.2.2],pre:=fun x=>pnP x.1 n (xC x) x.2.2.2.2.2.2.1 x.2.2.2.2.2.2.2,Y:=Int×BT,post:=fun x y=>pnQ x.1 n (xC x) x.2.2.2.2.2.2.1 x.2.2.2.2.2.2.2 y.1 (yBW y.2),res:=fun x y=> .int .i64 y.1,outs:=fun x y=>[buA x.1 (yBW y.2),.top,.top],keep:=true}
def RP(n:Nat)(x:BC×List Ru×List Ch×List Sn×List Ti×List UInt8×Nd×Int)(e:Int)(i:List Ru×List Ch×List Sn×List Ti×List UInt8×Int)(x_2:CU.X)(y:CU.Y):Prop:=((0:Int)≤zI i∧zI i<(↑(3:Nat):Int))∧(∀(l:List UInt8),[#[].toList,#[(63:UInt8),(32:UInt8)].toList,#[(58:UInt8),(32:UInt8)].toList][Int.toNat (zI i)]? =some l→(↑(List.length (yBW y).text+List.length l):Int)≤IntKind.max IntKind.i64∧(true=true∧(eA (MH n x i) [.box 0 [.int .i64 x_2.1.ind,AV.sl true 0 2 Ru ruA (yBW y).rules,AV.sl true 0 5 Ch chA (yBW y).chunks,AV.sl true 0 3 Sn snA (yBW y).spans,AV.sl true 0 2 Ti tiA (yBW y).ties,nds x_2.1.ns,.str ((yBW y).text++l),.bool x_2.1.rd],.int .i64 e,.int .i64 x.2.2.2.2.2.2.2,.box 0 [.int .i64 x.2.2.2.2.2.2.1.kind,.str x.2.2.2.2.2.2.1.text,Ad x.2.2.2.2.2.2.1.kids,.bool x.2.2.2.2.2.2.1.blank],.int .i64 (AM x.1.rd (xC x)),Ad x.2.2.2.2.2.2.1.kids,.int .i64 (↑(List.length x.2.2.2.2.2.2.1.kids):Int),.int .i64 (zI i)])))
theorem b4c(n:Nat)(hc:Ah G Go.Proofs.Tryz.prog 81 (Cf n)):Ah G Tryz.prog 114 (MI n):=
 vcFun_okP [(79,0,DD),(80,0,CU),(81,0,(Cf n)),(140,0,Im)] [] false (fun x=>[(3,OC n x)]) Tryz.func114 rfl (by decide) ⟨MB,MC,hc,a3y,trivial⟩ (fun(x:BC×List Ru×List Ch×List Sn×List Ti×List UInt8×Nd×Int)=>True∧cA DD [.box 0 [.int .i64 x.1.ind,AV.sl true 0 2 Ru ruA (xC x).rules,AV.sl true 0 5 Ch chA (xC x).chunks,AV.sl true 0 3 Sn snA (xC x).spans,AV.sl true 0 2 Ti tiA (xC x).ties,nds x.1.ns,.str (xC x).text,.bool x.1.rd],.int .i64 (2:Int),.int .i64 (1:Int)] fun x_1 y=>eA (OC n x) [.box 0 [.int .i64 x_1.1.ind,AV.sl true 0 2 Ru ruA (yBW y).rules,AV.sl true 0 5 Ch chA (yBW y).chunks,AV.sl true 0 3 Sn snA (yBW y).spans,AV.sl true 0 2 Ti tiA (yBW y).ties,nds x_1.1.ns,.str (yBW y).text,.bool x_1.1.rd],.int .i64 x.2.2.2.2.2.2.2,.box 0 [.int .i64 x.2.2.2.2.2.2.1.kind,.str x.2.2.2.2.2.2.1.text,Ad x.2.2.2.2.2.2.1.kids,.bool x.2.2.2.2.2.2.1.blank],.int .i64 (AM x_1.1.rd (xC x_1)),Ad x.2.2.2.2.2.2.1.kids,.int .i64 (↑(List.length x.2.2.2.2.2.2.1.kids):Int),.int .i64 (0:Int)]∧∀(i:List Ru×List Ch×List Sn×List Ti×List UInt8×Int),pnI x.1 n (xC x) x.2.2.2.2.2.2.1 x.2.2.2.2.2.2.2 (zI i) (zBW i)→Ab (decide (zI i<(↑(List.length x.2.2.2.2.2.2.1.kids):Int))) (((0:Int)≤zI i∧zI i<(↑(List.length x.2.2.2.2.2.2.1.kids):Int))∧∀(e:Int),x.2.2.2.2.2.2.1.kids[Int.toNat (zI i)]? =some e→Ab (decide (zI i>(0:Int))) (cA CU [.box 0 [.int .i64 x.1.ind,AV.sl true 0 2 Ru ruA (zBW i).rules,AV.sl true 0 5 Ch chA (zBW i).chunks,AV.sl true 0 3 Sn snA (zBW i).spans,AV.sl true 0 2 Ti tiA (zBW i).ties,nds x.1.ns,.str (zBW i).text,.bool x.1.rd],.int .i64 (AM x.1.rd (xC x)),.int .i64 (1:Int),.bool true,.int .i64 x.2.2.2.2.2.2.2] fun x_2 y=>true=true∧((RP n x e i x_2 y)∧(RP n x e i x_2 y)∧(RP n x e i x_2 y))∧∀(i_1:List Ru×List Ch×List Sn×List Ti×List UInt8×Int),pnJ x.1 n (xC x) x.2.2.2.2.2.2.1 x.2.2.2.2.2.2.2 (zBW i) (zI i) (zI i_1) (zBW i_1)→eA (MH n x i) [.box 0 [.int .i64 x.1.ind,AV.sl true 0 2 Ru ruA (zBW i_1).rules,AV.sl true 0 5 Ch chA (zBW i_1).chunks,AV.sl true 0 3 Sn snA (zBW i_1).spans,AV.sl true 0 2 Ti tiA (zBW i_1).ties,nds x.1.ns,.str (zBW i_1).text,.bool x.1.rd],.int .i64 (zI i_1),.int .i64 x.2.2.2.2.2.2.2,.box 0 [.int .i64 x.2.2.2.2.2.2.1.kind,.str x.2.2.2.2.2.2.1.text,Ad x.2.2.2.2.2.2.1.kids,.bool x.2.2.2.2.2.2.1.blank],.int .i64 (AM x.1.rd (xC x)),Ad x.2.2.2.2.2.2.1.kids,.int .i64 (↑(List.length x.2.2.2.2.2.2.1.kids):Int),.int .i64 (zI i)]) (eA (MH n x i) [.box 0 [.int .i64 x.1.ind,AV.sl true 0 2 Ru ruA (zBW i).rules,AV.sl true 0 5 Ch chA (zBW i).chunks,AV.sl true 0 3 Sn snA (zBW i).spans,AV.sl true 0 2 Ti tiA (zBW i).ties,nds x.1.ns,.str (zBW i).text,.bool x.1.rd],.int .i64 e,.int .i64 x.2.2.2.2.2.2.2,.box 0 [.int .i64 x.2.2.2.2.2.2.1.kind,.str x.2.2.2.2.2.2.1.text,Ad x.2.2.2.2.2.2.1.kids,.bool x.2.2.2.2.2.2.1.blank],.int .i64 (AM x.1.rd (xC x)),Ad x.2.2.2.2.2.2.1.kids,.int .i64 (↑(List.length x.2.2.2.2.2.2.1.kids):Int),.int .i64 (zI i)])∧∀(i_1:List Ru×List Ch×List Sn×List Ti×List UInt8×Int),pnJ x.1 n (xC x) x.2.2.2.2.2.2.1 x.2.2.2.2.2.2.2 (zBW i) (zI i) (zI i_1) (zBW i_1)→cA (Cf n) [.box 0 [.int .i64 x.1.ind,AV.sl true 0 2 Ru ruA (zBW i_1).rules,AV.sl true 0 5 Ch chA (zBW i_1).chunks,AV.sl true 0 3 Sn snA (zBW i_1).spans,AV.sl true 0 2 Ti tiA (zBW i_1).ties,nds x.1.ns,.str (zBW i_1).text,.bool x.1.rd],.int .i64 (zI i_1),.int .i64 x.2.2.2.2.2.2.2] fun x_2 y=>((0:Int)≤zI i_1∧zI i_1<(↑(List.length x_2.1.ns):Int))∧∀(e:Nd),x_2.1.ns[Int.toNat (zI i_1)]? =some e→Ab (e.kind==(8:Int)) (cA Im [.box 0 [.int .i64 x_2.1.ind,AV.sl true 0 2 Ru ruA (yBW y.2).rules,AV.sl true 0 5 Ch chA (yBW y.2).chunks,AV.sl true 0 3 Sn snA (yBW y.2).spans,AV.sl true 0 2 Ti tiA (yBW y.2).ties,nds x_2.1.ns,.str (yBW y.2).text,.bool x_2.1.rd],.int .i64 y.1,.int .i64 (AM x.1.rd (xC x))] fun x_3 y=>inR IntKind.i64 (zI i+(1:Int))∧eN (OC n x) i [.box 0 [.int .i64 x_3.1.ind,AV.sl true 0 2 Ru ruA (yBW y).rules,AV.sl true 0 5 Ch chA (yBW y).chunks,AV.sl true 0 3 Sn snA (yBW y).spans,AV.sl true 0 2 Ti tiA (yBW y).ties,nds x_3.1.ns,.str (yBW y).text,.bool x_3.1.rd],.int .i64 x.2.2.2.2.2.2.2,.box 0 [.int .i64 x.2.2.2.2.2.2.1.kind,.str x.2.2.2.2.2.2.1.text,Ad x.2.2.2.2.2.2.1.kids,.bool x.2.2.2.2.2.2.1.blank],.int .i64 (AM x.1.rd (xC x)),Ad x.2.2.2.2.2.2.1.kids,.int .i64 (↑(List.length x.2.2.2.2.2.2.1.kids):Int),.int .i64 (zI i+(1:Int))]) (inR IntKind.i64 (zI i+(1:Int))∧eN (OC n x) i [.box 0 [.int .i64 x_2.1.ind,AV.sl true 0 2 Ru ruA (yBW y.2).rules,AV.sl true 0 5 Ch chA (yBW y.2).chunks,AV.sl true 0 3 Sn snA (yBW y.2).spans,AV.sl true 0 2 Ti tiA (yBW y.2).ties,nds x_2.1.ns,.str (yBW y.2).text,.bool x_2.1.rd],.int .i64 x.2.2.2.2.2.2.2,.box 0 [.int .i64 x.2.2.2.2.2.2.1.kind,.str x.2.2.2.2.2.2.1.text,Ad x.2.2.2.2.2.2.1.kids,.bool x.2.2.2.2.2.2.1.blank],.int .i64 (AM x.1.rd (xC x)),Ad x.2.2.2.2.2.2.1.kids,.int .i64 (↑(List.length x.2.2.2.2.2.2.1.kids):Int),.int .i64 (zI i+(1:Int))])) (rA (MI n) x [.int .i64 (AM x.1.rd (xC x)),.box 0 [.int .i64 x.1.ind,AV.sl true 0 2 Ru ruA (zBW i).rules,AV.sl true 0 5 Ch chA (zBW i).chunks,AV.sl true 0 3 Sn snA (zBW i).spans,AV.sl true 0 2 Ti tiA (zBW i).ties,nds x.1.ns,.str (zBW i).text,.bool x.1.rd],.top,.top])) (fun x=>by kernel_rfl) fun(x:BC×List Ru×List Ch×List Sn×List Ti×List UInt8×Nd×Int) (hx:pnP x.1 n (xC x) x.2.2.2.2.2.2.1 x.2.2.2.2.2.2.2)=>(by
 dsimp only[RP,buA,cA,Bl,eA,eN,Ad,Bi,nds,OC,MH,rA,Bj,MI,DD,CU,Im,Cf,Bm,Bn,Aq,Aw,mvL,lnL,mvE,lnE,mvG,mvH,lnG,lnH,Ba]
 obtain⟨b,r,c,s,t,u,x,a⟩:=x;dsimp only[xC] at hx ⊢
 have hx:pnP b n ⟨r,c,s,t,u⟩ x a:=hx
 have h1:=hx.ar;have h2:=hx.kl
 (repeat' first|(with_reducible first|rfl|exact True.intro|apply AG|apply And.intro|((first|apply Au|apply AE|apply Av|apply AF)<;>intro _))|(apply As<;>intro _)|apply AD|refine Af () ?_ ?_|((first|apply AK|apply AJ|apply AI|apply AH|apply AC|apply AB|apply AA|apply Az|apply Ax)<;>try dsimp only)|apply Af|(refine Prod.forall.2 ?_;intro _;try dsimp only)|(intro _;try dsimp only))
 all_goals(try dsimp only[yBW,xC,zBW,zI,wB] at*)
 all_goals first
  |with_reducible rfl
  |exact CV hx.rm
  |exact a3R hx ‹_›
  |exact a3S ‹_› ‹_›
  |exact a3V ‹_› ‹_› ‹_›
  |exact b4b ‹_› ‹_› ‹_› ‹_› ‹_›
  |exact WZ ‹_› hx
  |exact a3W ‹_› ‹_› hx
  |exact a3Z ‹_› ‹_› hx ‹_› ‹_›
  |exact a4a ‹_› ‹_› ‹_› hx ‹_› ‹_›
  |exact a4b ‹_› hx ‹_›
  |(have hq:=RO (show pnI _ _ _ _ _ _ _ by assumption);(try simp only[Aj]);omega)
  |(have hq:=a3X (show pnJ _ _ _ _ _ _ _ _ _ by assumption) hx;(try simp only[Aj]);omega)
  |(have hq2:=(Xa ‹_› ‹_›).2;have hq:=a3U (show pnI _ _ _ _ _ _ _ by assumption) ‹_› ‹_›;dsimp only at hq;(try simp only[Aj,List.length_append,List.length_cons,List.length_nil]);omega)
  |exact()
  |skip)
structure fnP (c:BC) (n:Nat) (s:Bs) (x:Nd) (a:Int):Prop where
 kd:kdP c.ns n x.kids
 kl:1≤x.kids.length∧x.kids.length≤12
 nm:∀k∈x.kids,k∈x.kids.take (x.kids.length-1)→(Aa c.ns k).text.length≤30
 rm:bR (80+wL (tW c.ns n) x.kids) s
 ar:0≤a∧a≤40
def fnT(x:Nd):List Int:=x.kids.take (x.kids.length-1)
def fnM(c:BC)(x:Nd)(i:Int):List (List UInt8):=((fnT x).take i.toNat).map fun k=>(Aa c.ns k).text
def fnQ(c:BC)(n:Nat)(s:Bs)(x:Nd)(a:Int)(t:Bs):Prop:=t=bFn c.ns c.rd (bV c.ns c.rd n) x a s
theorem RQ{x:Nd}(h:1≤x.kids.length):x.kids.take ((x.kids.length:Int)-1).toNat=fnT x:=by rw[fnT,show((x.kids.length:Int)-1).toNat=x.kids.length-1 by omega]
theorem FR{x:Nd}:(fnT x).length=x.kids.length-1:=by rw[fnT,List.length_take];omega
theorem Xb{x:Nd}{i:Nat}{k:Int}(h:(fnT x)[i]? =some k):k∈x.kids:=List.mem_of_mem_take (AZ h)
theorem a4d{c:BC}{n:Nat}{s:Bs}{x:Nd}{a k:Int}{i:Nat}(hx:fnP c n s x a)(h:(fnT x)[i]? =some k):0≤k∧k<c.ns.length:=Bc.1 (hx.kd k (Xb h)).1.1
theorem b4d{c:BC}{x:Nd}:fnM c x 0=[]:=rfl
theorem Xc{c:BC}{x:Nd}{i k:Int}{e:Nd}(h0:0≤i)(h:(fnT x)[i.toNat]? =some k)(he:c.ns[k.toNat]? =some e):fnM c x i++[e.text]=fnM c x (i+1):=by
 rw[fnM,fnM,BG h0,Df h,List.map_append,←Br he];rfl
theorem RR{c:BC}{x:Nd}{i:Int}:(fnM c x i).length≤x.kids.length:=by
 rw[fnM,List.length_map,List.length_take,FR];omega
theorem a4e{c:BC}{x:Nd}{i:Int}{t:List UInt8}(h:x.kids.length≤12):AY ((fnM c x i).length+[t].length) 16:=by
 have:= @RR c x i
 simp only[AY,List.length_cons,List.length_nil];omega
theorem Xd{c:BC}{x:Nd}{i:Int}(h:¬i<(fnT x).length):DC (fnM c x i) [44,32]=Dz c.ns (fnT x) true:=by
 rw[b2m,fnM,List.take_of_length_le (by omega)]
theorem b4e{c:BC}{n:Nat}{s:Bs}{x:Nd}{a i:Int}(hx:fnP c n s x a)(h:¬i<(fnT x).length):(DC (fnM c x i) [44,32]).length≤400:=by
 rw[Xd h]
 have h1:=KA (ns:=c.ns) (w:=fun _=>30) (l:=fnT x) (first:=true) fun k hk=>hx.nm k (List.mem_of_mem_take hk) hk
 have h2:=Jf (w:=fun _=>30) (b:=30) (l:=fnT x) fun _ _=>by omega
 have h3:= @FR x;have h4:=hx.kl
 omega
theorem b4f{c:BC}{x:Nd}{i:Int}{u:List UInt8}(h:¬i<(fnT x).length):u++([40]++DC (fnM c x i) [44,32]++[41,32,61,62])=u++(CS c.ns x++[32,61,62]):=by
 rw[Xd h,CS,fnT];simp
theorem RS{c:BC}{n:Nat}{s:Bs}{x:Nd}{a:Int}(hx:fnP c n s x a):bR (20+tW c.ns n (kd x (x.kids.length-1))) (Am (CS c.ns x++[32,61,62]) s):=by
 have h1:=KA (ns:=c.ns) (w:=tW c.ns n) (l:=fnT x) (first:=true) fun k hk=>by
  have h2:=hx.kd k (List.mem_of_mem_take hk)
  have h3:=Bc.1 h2.1.1
  rw[show n=(n-1)+1 by omega];exact a1b
 have h2:=Qx (w:=tW c.ns n) (x:=x) (by have:=hx.kl;omega)
 have h3:= @FR x;have h4:=hx.kl
 refine Jq hx.rm ?_
 rw[CS]
 simp only[fnT] at h1 h3
 simp only[List.length_append,List.length_cons,List.length_nil];omega
theorem a4f{c:BC}{n:Nat}{s t:Bs}{x:Nd}{a:Int}(ht:t=Bd c.rd 2 2 (Am (CS c.ns x++[32,61,62]) s))(hx:fnP c n s x a):bB t:=by subst ht;exact CV (HD (RS hx))
theorem a4g{c:BC}{n:Nat}{s t u:Bs}{x:Nd}{a k:Int}(hu:u=AU (AM c.rd (Am (CS c.ns x++[32,61,62]) s)) 1 true a t)(ht:t=Bd c.rd 2 2 (Am (CS c.ns x++[32,61,62]) s))(hx:fnP c n s x a)(hk:x.kids[((x.kids.length:Int)-1).toNat]? =some k):vlP c.ns n u k a:=by
 subst hu;subst ht
 have h1:=hx.kd k (AZ hk)
 have h2:=hx.kl
 rw[show((x.kids.length:Int)-1).toNat=x.kids.length-1 by omega] at hk
 exact⟨h1.1,h1.2.1,h1.2.2,Jr (HD (RS hx)) (by rw[Cr hk];omega),hx.ar⟩
theorem a4h{c:BC}{n:Nat}{s t u v:Bs}{x:Nd}{a k o:Int}(hv:BJ c n u k a o v)(hu:u=AU (AM c.rd (Am (CS c.ns x++[32,61,62]) s)) 1 true a t)(ht:t=Bd c.rd 2 2 (Am (CS c.ns x++[32,61,62]) s))(hx:fnP c n s x a)(hk:x.kids[((x.kids.length:Int)-1).toNat]? =some k):fnQ c n s x a v:=by
 have h1:=hx.kl
 rw[show((x.kids.length:Int)-1).toNat=x.kids.length-1 by omega] at hk
 rw[fnQ,bFn,Cr hk,hv.1,hu,ht]
def MJ(n:Nat):Sig:= {X:=BC×List Ru×List Ch×List Sn×List Ti×List UInt8×Nd×Int,args:=fun x=>[buA x.1 (xC x),.agg (ndA false x.2.2.2.2.2.2.1),.int .i64 x.2.2.2.2.2.2.2],pre:=fun x=>fnP x.1 n (xC x) x.2.2.2.2.2.2.1 x.2.2.2.2.2.2.2,Y:=BT,post:=fun x y=>fnQ x.1 n (xC x) x.2.2.2.2.2.2.1 x.2.2.2.2.2.2.2 (yBW y),res:=fun x y=> .tup [],outs:=fun x y=>[buA x.1 (yBW y),.top,.top],keep:=true}
def RT(n:Nat)(x:BC×List Ru×List Ch×List Sn×List Ti×List UInt8×Nd×Int):LS:= {ι:=Int,inv:=fun i=>0≤i∧i≤(fnT x.2.2.2.2.2.2.1).length,regs:=fun i=>[(0,buA x.1 (xC x)),(2,.int .i64 x.2.2.2.2.2.2.2),(4,.box 0 (ndA false x.2.2.2.2.2.2.1)),(6,.int .i64 (x.2.2.2.2.2.2.1.kids.length-1)),(7,Cu (fnM x.1 x.2.2.2.2.2.2.1 i)),(18,Ad (fnT x.2.2.2.2.2.2.1)),(19,.int .i64 (fnT x.2.2.2.2.2.2.1).length),(20,.int .i64 i)],als:=[],meas:=fun i=>(fnT x.2.2.2.2.2.2.1).length-i.toNat}
def Xe(n:Nat)(x:BC×List Ru×List Ch×List Sn×List Ti×List UInt8×Nd×Int):LS:= {ι:=Unit,inv:=fun _=>True,regs:=fun _=>[(0,buA x.1 (Am (CS x.1.ns x.2.2.2.2.2.2.1++[32,61,62]) (xC x))),(2,.int .i64 x.2.2.2.2.2.2.2),(4,.box 0 (ndA false x.2.2.2.2.2.2.1)),(6,.int .i64 (x.2.2.2.2.2.2.1.kids.length-1))],als:=[],meas:=fun _=>0}
def Xf(n:Nat)(x:BC×List Ru×List Ch×List Sn×List Ti×List UInt8×Nd×Int)(i:Int):Prop:=cA GC [AV.sl true 0 1 (List UInt8) Ag (fnM x.1 x.2.2.2.2.2.2.1 i),.str #[(44:UInt8),(32:UInt8)].toList] fun x_1 y=>(↑((1:Nat)+List.length (DC x_1.1 x_1.2)):Int)≤IntKind.max IntKind.i64∧((↑(List.length (#[(40:UInt8)].toList++DC x_1.1 x_1.2)+(4:Nat)):Int)≤IntKind.max IntKind.i64∧((↑(List.length (xC x).text+List.length (#[(40:UInt8)].toList++DC x_1.1 x_1.2++ #[(41:UInt8),(32:UInt8),(61:UInt8),(62:UInt8)].toList)):Int)≤IntKind.max IntKind.i64∧(true=true∧(eA (Xe n x) [.box 0 [.int .i64 x.1.ind,AV.sl true 0 2 Ru ruA (xC x).rules,AV.sl true 0 5 Ch chA (xC x).chunks,AV.sl true 0 3 Sn snA (xC x).spans,AV.sl true 0 2 Ti tiA (xC x).ties,nds x.1.ns,.str ((xC x).text++(#[(40:UInt8)].toList++DC x_1.1 x_1.2++ #[(41:UInt8),(32:UInt8),(61:UInt8),(62:UInt8)].toList)),.bool x.1.rd],.int .i64 x.2.2.2.2.2.2.2,.box 0 [.int .i64 x.2.2.2.2.2.2.1.kind,.str x.2.2.2.2.2.2.1.text,Ad x.2.2.2.2.2.2.1.kids,.bool x.2.2.2.2.2.2.1.blank],.int .i64 ((↑(List.length x.2.2.2.2.2.2.1.kids):Int)-(1:Int))]))))
theorem b4g(n:Nat)(hc:Ah G Go.Proofs.Tryz.prog 81 (Cf n)):Ah G Tryz.prog 115 (MJ n):=
 vcFun_okP [(79,0,DD),(80,0,CU),(81,0,(Cf n)),(128,0,GC)] [(42,⟨List UInt8,Ag⟩)] false (fun x=>[(4,RT n x),(100008,Xe n x)]) Tryz.func115 rfl (by decide) ⟨MB,MC,hc,a1N,trivial⟩ (fun(x:BC×List Ru×List Ch×List Sn×List Ti×List UInt8×Nd×Int)=>True∧inR IntKind.i64 ((↑(List.length x.2.2.2.2.2.2.1.kids):Int)-(1:Int))∧((0:Int)≤(0:Int)∧(0:Int)≤(↑(List.length x.2.2.2.2.2.2.1.kids):Int)-(1:Int)∧(↑(List.length x.2.2.2.2.2.2.1.kids):Int)-(1:Int)≤(↑(List.length x.2.2.2.2.2.2.1.kids):Int))∧eA (RT n x) [.box 0 [.int .i64 x.1.ind,AV.sl true 0 2 Ru ruA (xC x).rules,AV.sl true 0 5 Ch chA (xC x).chunks,AV.sl true 0 3 Sn snA (xC x).spans,AV.sl true 0 2 Ti tiA (xC x).ties,nds x.1.ns,.str (xC x).text,.bool x.1.rd],.int .i64 x.2.2.2.2.2.2.2,.box 0 [.int .i64 x.2.2.2.2.2.2.1.kind,.str x.2.2.2.2.2.2.1.text,Ad x.2.2.2.2.2.2.1.kids,.bool x.2.2.2.2.2.2.1.blank],.int .i64 ((↑(List.length x.2.2.2.2.2.2.1.kids):Int)-(1:Int)),.nil,Ad (List.take (Int.toNat ((↑(List.length x.2.2.2.2.2.2.1.kids):Int)-(1:Int))) x.2.2.2.2.2.2.1.kids),.int .i64 (↑(List.length (List.take (Int.toNat ((↑(List.length x.2.2.2.2.2.2.1.kids):Int)-(1:Int))) x.2.2.2.2.2.2.1.kids)):Int),.int .i64 (0:Int)]∧∀(i:Int),(0:Int)≤i∧i≤(↑(List.length (fnT x.2.2.2.2.2.2.1)):Int)→Ab (decide (i<(↑(List.length (fnT x.2.2.2.2.2.2.1)):Int))) (((0:Int)≤i∧i<(↑(List.length (fnT x.2.2.2.2.2.2.1)):Int))∧∀(e:Int),(fnT x.2.2.2.2.2.2.1)[Int.toNat i]? =some e→((0:Int)≤e∧e<(↑(List.length x.1.ns):Int))∧∀(e_1:Nd),x.1.ns[Int.toNat e]? =some e_1→∃(x_1:List UInt8),e_1.text=x_1∧∃(zs:List (List UInt8)),AV.sl true 0 1 (List UInt8) Ag [x_1]=AV.sl true 0 1 (List UInt8) Ag zs∧Bg Ag∧AY (List.length (fnM x.1 x.2.2.2.2.2.2.1 i)+List.length zs) (16:Nat)∧inR IntKind.i64 (i+(1:Int))∧eN (RT n x) i [.box 0 [.int .i64 x.1.ind,AV.sl true 0 2 Ru ruA (xC x).rules,AV.sl true 0 5 Ch chA (xC x).chunks,AV.sl true 0 3 Sn snA (xC x).spans,AV.sl true 0 2 Ti tiA (xC x).ties,nds x.1.ns,.str (xC x).text,.bool x.1.rd],.int .i64 x.2.2.2.2.2.2.2,.box 0 [.int .i64 x.2.2.2.2.2.2.1.kind,.str x.2.2.2.2.2.2.1.text,Ad x.2.2.2.2.2.2.1.kids,.bool x.2.2.2.2.2.2.1.blank],.int .i64 ((↑(List.length x.2.2.2.2.2.2.1.kids):Int)-(1:Int)),AV.sl true 0 1 (List UInt8) Ag (fnM x.1 x.2.2.2.2.2.2.1 i++zs),Ad (fnT x.2.2.2.2.2.2.1),.int .i64 (↑(List.length (fnT x.2.2.2.2.2.2.1)):Int),.int .i64 (i+(1:Int))]) (true=true∧((Xf n x i)∧(Xf n x i))∧∀(i:Unit),True→cA DD [.box 0 [.int .i64 x.1.ind,AV.sl true 0 2 Ru ruA (Am (CS x.1.ns x.2.2.2.2.2.2.1++[(32:UInt8),(61:UInt8),(62:UInt8)]) (xC x)).rules,AV.sl true 0 5 Ch chA (Am (CS x.1.ns x.2.2.2.2.2.2.1++[(32:UInt8),(61:UInt8),(62:UInt8)]) (xC x)).chunks,AV.sl true 0 3 Sn snA (Am (CS x.1.ns x.2.2.2.2.2.2.1++[(32:UInt8),(61:UInt8),(62:UInt8)]) (xC x)).spans,AV.sl true 0 2 Ti tiA (Am (CS x.1.ns x.2.2.2.2.2.2.1++[(32:UInt8),(61:UInt8),(62:UInt8)]) (xC x)).ties,nds x.1.ns,.str (Am (CS x.1.ns x.2.2.2.2.2.2.1++[(32:UInt8),(61:UInt8),(62:UInt8)]) (xC x)).text,.bool x.1.rd],.int .i64 (2:Int),.int .i64 (2:Int)] fun x_1 y=>cA CU [.box 0 [.int .i64 x_1.1.ind,AV.sl true 0 2 Ru ruA (yBW y).rules,AV.sl true 0 5 Ch chA (yBW y).chunks,AV.sl true 0 3 Sn snA (yBW y).spans,AV.sl true 0 2 Ti tiA (yBW y).ties,nds x_1.1.ns,.str (yBW y).text,.bool x_1.1.rd],.int .i64 (AM x_1.1.rd (xC x_1)),.int .i64 (1:Int),.bool true,.int .i64 x.2.2.2.2.2.2.2] fun x_2 y=>((0:Int)≤(↑(List.length x.2.2.2.2.2.2.1.kids):Int)-(1:Int)∧(↑(List.length x.2.2.2.2.2.2.1.kids):Int)-(1:Int)<(↑(List.length x.2.2.2.2.2.2.1.kids):Int))∧∀(e:Int),x.2.2.2.2.2.2.1.kids[Int.toNat ((↑(List.length x.2.2.2.2.2.2.1.kids):Int)-(1:Int))]? =some e→cA (Cf n) [.box 0 [.int .i64 x_2.1.ind,AV.sl true 0 2 Ru ruA (yBW y).rules,AV.sl true 0 5 Ch chA (yBW y).chunks,AV.sl true 0 3 Sn snA (yBW y).spans,AV.sl true 0 2 Ti tiA (yBW y).ties,nds x_2.1.ns,.str (yBW y).text,.bool x_2.1.rd],.int .i64 e,.int .i64 x.2.2.2.2.2.2.2] fun x_3 y=>rA (MJ n) x [.tup [],.box 0 [.int .i64 x_3.1.ind,AV.sl true 0 2 Ru ruA (yBW y.2).rules,AV.sl true 0 5 Ch chA (yBW y.2).chunks,AV.sl true 0 3 Sn snA (yBW y.2).spans,AV.sl true 0 2 Ti tiA (yBW y.2).ties,nds x_3.1.ns,.str (yBW y.2).text,.bool x_3.1.rd],.top,.top])) (fun x=>by kernel_rfl) fun(x:BC×List Ru×List Ch×List Sn×List Ti×List UInt8×Nd×Int) (hx:fnP x.1 n (xC x) x.2.2.2.2.2.2.1 x.2.2.2.2.2.2.2)=>(by
 dsimp only[Xf,buA,cA,Bl,eA,eN,Xe,RT,Ad,Bi,nds,Cu,rA,Bj,MJ,DD,CU,Cf,GC,Bm,Bn,Es,Aq,Aw,mvL,lnL,mvE,lnE,mvG,mvH,lnG,lnH,Ba]
 obtain⟨b,r,c,s,t,u,x,a⟩:=x;dsimp only[xC] at hx ⊢
 have hx:fnP b n ⟨r,c,s,t,u⟩ x a:=hx
 have h1:=hx.ar;have h2:=hx.kl
 (repeat' first|(with_reducible first|rfl|exact True.intro|apply AG|apply And.intro|((first|apply Au|apply AE|apply Av|apply AF)<;>intro _))|(apply As<;>intro _)|apply AD|refine Af () ?_ ?_|((first|apply AK|apply AJ|apply AI|apply AH|apply AC|apply AB|apply AA|apply Az|apply Ax)<;>try dsimp only)|apply Af|(refine Prod.forall.2 ?_;intro _;try dsimp only)|(intro _;try dsimp only))
 all_goals(try dsimp only[yBW,xC,zBW,zI,wB] at*)
 all_goals first
  |with_reducible rfl
  |exact RQ hx.kl.1
  |(rw[RQ hx.kl.1];done)
  |exact b4d
  |exact Xc (by omega) ‹_› ‹_›
  |exact(Xc (by omega) ‹_› ‹_›).symm
  |exact CV (RS hx)
  |exact a4f ‹_› hx
  |exact a4g ‹_› ‹_› hx ‹_›
  |exact a4h ‹_› ‹_› ‹_› hx ‹_›
  |exact b4f ‹_›
  |(have hl:= @FR x;(try simp only[Aj]);omega)
  |(have hq:=a4d hx ‹_›;(try simp only[Aj]);omega)
  |(have hq:=b4e hx ‹_›;have hb:=Ha (CV hx.rm);have hm:= @RR b x;(try have hm:= @RR b x ‹Int›);dsimp only at hb;(try simp only[Aj,List.length_append,List.length_cons,List.length_nil]);omega)
  |exact a4e hx.kl.2
  |exact()
  |rfl
  |skip)
end Go.My
end
section
namespace Go.My
open Go.Eng Go.Proofs
variable {G:GInv}
def suA(c:BC)(s:Bs):AV:= .box 0 [nds c.ns,.int .i64 c.ind,.sl true 0 2 Ru ruA s.rules,.sl true 0 5 Ch chA s.chunks,.sl true 0 3 Sn snA s.spans,.sl true 0 2 Ti tiA s.ties,.str s.text,.bool (!c.rd)]
theorem MK{r fr n m:Int}{sp:Bool}{s:Bs}(h:min n 40=min m 40):AU r fr sp n s=AU r fr sp m s:=by unfold AU;rw[h]
def Cd:Sig:= {X:=BC×List Ru×List Ch×List Sn×List Ti×List UInt8×List UInt8,args:=fun x=>[suA x.1 (xC x),.str x.2.2.2.2.2.2],pre:=fun x=>(xC x).text.length+x.2.2.2.2.2.2.length≤2^62,Y:=BT,post:=fun x y=>isB (Am x.2.2.2.2.2.2 (xC x)) (yBW y),res:=fun x y=> .tup [],outs:=fun x y=>[suA x.1 (yBW y),.top],keep:=true}
theorem ML:Ah G Tryz.prog 50 Cd:=
 vcFun_okP [] [] false (fun x=>[]) Tryz.func50 rfl (by decide) trivial (fun(x:BC×List Ru×List Ch×List Sn×List Ti×List UInt8×List UInt8)=>True∧(↑(List.length (xC x).text+List.length x.2.2.2.2.2.2):Int)≤IntKind.max IntKind.i64∧rA Cd x [.tup [],.box 0 [nds x.1.ns,.int .i64 x.1.ind,AV.sl true 0 2 Ru ruA (xC x).rules,AV.sl true 0 5 Ch chA (xC x).chunks,AV.sl true 0 3 Sn snA (xC x).spans,AV.sl true 0 2 Ti tiA (xC x).ties,.str ((xC x).text++x.2.2.2.2.2.2),.bool !x.1.rd],.top]) (fun x=>by kernel_rfl) fun(x:BC×List Ru×List Ch×List Sn×List Ti×List UInt8×List UInt8) (hx:(xC x).text.length+x.2.2.2.2.2.2.length≤2^62)=>(by
 dsimp only[Bl,Bi,nds,rA,Bj,Cd,Bm,suA,Bn,Aq,Aw]
 obtain⟨b,r,c,s,t,u,l⟩:=x;dsimp only[xC] at hx ⊢
 (repeat' first|(with_reducible first|rfl|exact True.intro|apply AG|apply And.intro|((first|apply Au|apply AE|apply Av|apply AF)<;>intro _))|(apply As<;>intro _)|apply AD|refine Af () ?_ ?_|((first|apply AK|apply AJ|apply AI|apply AH|apply AC|apply AB|apply AA|apply Az|apply Ax)<;>try dsimp only)|apply Af|(refine Prod.forall.2 ?_;intro _;try dsimp only)|(intro _;try dsimp only))
 all_goals first
  |rfl
  |exact(show isB _ _ from rfl)
  |((try simp only[Aj]);omega)
  |skip)
def DT:Sig:= {X:=BC×List Ru×List Ch×List Sn×List Ti×List UInt8×Int×Int,args:=fun x=>[suA x.1 (xC x),.int .i64 x.2.2.2.2.2.2.1,.int .i64 x.2.2.2.2.2.2.2],pre:=fun x=>bB (xC x),Y:=BT,post:=fun x y=>yBW y=Bd x.1.rd x.2.2.2.2.2.2.1 x.2.2.2.2.2.2.2 (xC x),res:=fun x y=> .int .i64 (AM x.1.rd (xC x)),outs:=fun x y=>[suA x.1 (yBW y),.top,.top],keep:=true}
theorem OD:Ah G Tryz.prog 48 DT:=
 vcFun_okP [] [(27,⟨Ru,ruA⟩)] false (fun x=>[]) Tryz.func48 rfl (by decide) trivial (fun(x:BC×List Ru×List Ch×List Sn×List Ti×List UInt8×Int×Int)=>True∧Ab (!x.1.rd) (rA DT x [.int .i64 (-1:Int),.box 0 [nds x.1.ns,.int .i64 x.1.ind,AV.sl true 0 2 Ru ruA (xC x).rules,AV.sl true 0 5 Ch chA (xC x).chunks,AV.sl true 0 3 Sn snA (xC x).spans,AV.sl true 0 2 Ti tiA (xC x).ties,.str (xC x).text,.bool !x.1.rd],.top,.top]) (Ab (decide ((↑(List.length (xC x).rules):Int)≥(8:Int))) (rA DT x [.int .i64 (-1:Int),.box 0 [nds x.1.ns,.int .i64 x.1.ind,AV.sl true 0 2 Ru ruA (xC x).rules,AV.sl true 0 5 Ch chA (xC x).chunks,AV.sl true 0 3 Sn snA (xC x).spans,AV.sl true 0 2 Ti tiA (xC x).ties,.str (xC x).text,.bool !x.1.rd],.top,.top]) (∃(x_1:Ru),x.2.2.2.2.2.2.1=x_1.vals∧x.2.2.2.2.2.2.2=x_1.cost∧∃(zs:List Ru),AV.sl true 0 2 Ru ruA [x_1]=AV.sl true 0 2 Ru ruA zs∧Bg ruA∧AY (List.length (xC x).rules+List.length zs) (16:Nat)∧inR IntKind.i64 ((↑(List.length ((xC x).rules++zs)):Int)-(1:Int))∧∃(y:BT),yBW y=Bd x.1.rd x.2.2.2.2.2.2.1 x.2.2.2.2.2.2.2 (xC x)∧(↑(List.length ((xC x).rules++zs)):Int)-(1:Int)=AM x.1.rd (xC x)∧nds x.1.ns=nds x.1.ns∧x.1.ind=x.1.ind∧AV.sl true 0 2 Ru ruA ((xC x).rules++zs)=AV.sl true 0 2 Ru ruA (yBW y).rules∧AV.sl true 0 5 Ch chA (xC x).chunks=AV.sl true 0 5 Ch chA (yBW y).chunks∧AV.sl true 0 3 Sn snA (xC x).spans=AV.sl true 0 3 Sn snA (yBW y).spans∧AV.sl true 0 2 Ti tiA (xC x).ties=AV.sl true 0 2 Ti tiA (yBW y).ties∧(xC x).text=(yBW y).text∧(!x.1.rd)= !x.1.rd∧True))) (fun x=>by kernel_rfl) fun(x:BC×List Ru×List Ch×List Sn×List Ti×List UInt8×Int×Int) (hx:bB (xC x))=>(by
 dsimp only[Bl,Bi,nds,rA,Bj,DT,Bm,suA,Bn,Aq,Aw]
 obtain⟨b,r,c,s,t,u,e,f⟩:=x;dsimp only[xC] at hx ⊢
 have hx:bB ⟨r,c,s,t,u⟩:=hx
 have h1:=hx.ok.ru;dsimp only at h1
 (repeat' first|refine a3r ?_|(with_reducible first|rfl|exact True.intro|apply AG|apply And.intro|((first|apply Au|apply AE|apply Av|apply AF)<;>intro _))|(apply As<;>intro _)|apply AD|refine Af () ?_ ?_|((first|apply AK|apply AJ|apply AI|apply AH|apply AC|apply AB|apply AA|apply Az|apply Ax)<;>try dsimp only)|apply Af|(refine Prod.forall.2 ?_;intro _;try dsimp only)|(intro _;try dsimp only))
 all_goals try(first|(have hF:= @Rx b.rd e f ⟨r,c,s,t,u⟩ (.inl ‹_›))|(have hF:= @Rx b.rd e f ⟨r,c,s,t,u⟩ (.inr ‹_›))|(have hF:= @a3u b.rd e f ⟨r,c,s,t,u⟩ ‹_› ‹_›))
 all_goals first
  |rfl
  |(simp only[hF];done)
  |(simp only[hF,List.length_append,List.length_cons,List.length_nil];omega)
  |((try simp only[Aj,AY,List.length_append,List.length_cons,List.length_nil]);omega)
  |skip)
def OE(t:List UInt8)(r f:Int)(sp:Bool)(n:Int):Ch:=⟨t,r,f,sp,n⟩
theorem b4h{r fr nest m:Int}{sp:Bool}{s:Bs}(h:¬r<0)(h2:¬(s.chunks.length:Int)≥79)(hm:min nest 40=m):AU r fr sp nest s=⟨s.rules,s.chunks++[OE s.text r fr sp m],s.spans,s.ties,[]⟩:=by rw[AU,if_pos ⟨by omega,by omega⟩,hm];rfl
theorem a4i{r fr nest:Int}{sp:Bool}{s t:Bs}(ht:isB (Am [32] s) t)(h:r<0∨(s.chunks.length:Int)≥79)(h2:sp=true):AU r fr sp nest s=t:=by rw[AU,if_neg (by omega),if_pos h2];exact ht.symm
theorem a4j{r fr nest:Int}{sp:Bool}{s:Bs}(h:r<0∨(s.chunks.length:Int)≥79)(h2:sp=false):AU r fr sp nest s=s:=by rw[AU,if_neg (by omega),if_neg (by simp [h2])]
theorem b4i{r fr nest m:Int}{sp:Bool}{s:Bs}(h:(¬r<0∧¬(s.chunks.length:Int)≥79)∧min nest 40=m):isB (AU r fr sp nest s) ⟨s.rules,s.chunks++[OE s.text r fr sp m],s.spans,s.ties,[]⟩:=(b4h h.1.1 h.1.2 h.2).symm
def Dq:Sig:= {X:=BC×List Ru×List Ch×List Sn×List Ti×List UInt8×Int×Int×Bool×Int,args:=fun x=>[suA x.1 (xC x),.int .i64 x.2.2.2.2.2.2.1,.int .i64 x.2.2.2.2.2.2.2.1,.bool x.2.2.2.2.2.2.2.2.1,.int .i64 x.2.2.2.2.2.2.2.2.2],pre:=fun x=>bB (xC x),Y:=BT,post:=fun x y=>isB (AU x.2.2.2.2.2.2.1 x.2.2.2.2.2.2.2.1 x.2.2.2.2.2.2.2.2.1 x.2.2.2.2.2.2.2.2.2 (xC x)) (yBW y),res:=fun x y=> .tup [],outs:=fun x y=>[suA x.1 (yBW y),.top,.top,.top,.top],keep:=true}
def b4j(x:BC×List Ru×List Ch×List Sn×List Ti×List UInt8×Int×Int×Bool×Int):LS:= {ι:=Int×Unit,inv:=fun m=>(¬x.2.2.2.2.2.2.1<0∧¬((xC x).chunks.length:Int)≥79)∧min x.2.2.2.2.2.2.2.2.2 40=m.1,regs:=fun m=>[(0,suA x.1 ⟨(xC x).rules,(xC x).chunks++[OE (xC x).text x.2.2.2.2.2.2.1 x.2.2.2.2.2.2.2.1 x.2.2.2.2.2.2.2.2.1 m.1],(xC x).spans,(xC x).ties,(xC x).text⟩)],als:=[],meas:=fun _=>0}
def RU(x:BC×List Ru×List Ch×List Sn×List Ti×List UInt8×Int×Int×Bool×Int):LS:= {ι:=Int×Unit,inv:=fun m=>(¬x.2.2.2.2.2.2.1<0∧¬((xC x).chunks.length:Int)≥79)∧min x.2.2.2.2.2.2.2.2.2 40=m.1,regs:=fun m=>[(0,suA x.1 (xC x)),(1,.int .i64 x.2.2.2.2.2.2.1),(2,.int .i64 x.2.2.2.2.2.2.2.1),(3,.bool x.2.2.2.2.2.2.2.2.1),(4,.int .i64 m.1)],als:=[],meas:=fun _=>0}
def Hc(x:BC×List Ru×List Ch×List Sn×List Ti×List UInt8×Int×Int×Bool×Int)(i:Int×Unit):Prop:=∃(x_1:Ch),(xC x).text=x_1.text∧x.2.2.2.2.2.2.1=x_1.rule∧x.2.2.2.2.2.2.2.1=x_1.fr∧x.2.2.2.2.2.2.2.2.1=x_1.space∧i.1=x_1.nest∧(∃(zs:List Ch),AV.sl true 0 5 Ch chA [x_1]=AV.sl true 0 5 Ch chA zs∧(Bg chA∧(AY (List.length (xC x).chunks+List.length zs) (48:Nat)∧(true=true∧(∃(i:Int×Unit),((¬x.2.2.2.2.2.2.1<(0:Int)∧¬(↑(List.length (xC x).chunks):Int)≥(79:Int))∧min x.2.2.2.2.2.2.2.2.2 (40:Int)=i.1)∧((nds x.1.ns=nds x.1.ns∧x.1.ind=x.1.ind∧AV.sl true 0 2 Ru ruA (xC x).rules=AV.sl true 0 2 Ru ruA (xC x).rules∧AV.sl true 0 5 Ch chA ((xC x).chunks++zs)=AV.sl true 0 5 Ch chA ((xC x).chunks++[OE (xC x).text x.2.2.2.2.2.2.1 x.2.2.2.2.2.2.2.1 x.2.2.2.2.2.2.2.2.1 i.1])∧AV.sl true 0 3 Sn snA (xC x).spans=AV.sl true 0 3 Sn snA (xC x).spans∧AV.sl true 0 2 Ti tiA (xC x).ties=AV.sl true 0 2 Ti tiA (xC x).ties∧(xC x).text=(xC x).text∧(!x.1.rd)= !x.1.rd∧True)∧True))))))
def Xg(x:BC×List Ru×List Ch×List Sn×List Ti×List UInt8×Int×Int×Bool×Int):Prop:=Ab x.2.2.2.2.2.2.2.2.1 (cA Cd [.box 0 [nds x.1.ns,.int .i64 x.1.ind,AV.sl true 0 2 Ru ruA (xC x).rules,AV.sl true 0 5 Ch chA (xC x).chunks,AV.sl true 0 3 Sn snA (xC x).spans,AV.sl true 0 2 Ti tiA (xC x).ties,.str (xC x).text,.bool !x.1.rd],.str #[(32:UInt8)].toList] fun x_1 y=>rA Dq x [.tup [],.box 0 [nds x_1.1.ns,.int .i64 x_1.1.ind,AV.sl true 0 2 Ru ruA (yBW y).rules,AV.sl true 0 5 Ch chA (yBW y).chunks,AV.sl true 0 3 Sn snA (yBW y).spans,AV.sl true 0 2 Ti tiA (yBW y).ties,.str (yBW y).text,.bool !x_1.1.rd],.top,.top,.top,.top]) (rA Dq x [.tup [],.box 0 [nds x.1.ns,.int .i64 x.1.ind,AV.sl true 0 2 Ru ruA (xC x).rules,AV.sl true 0 5 Ch chA (xC x).chunks,AV.sl true 0 3 Sn snA (xC x).spans,AV.sl true 0 2 Ti tiA (xC x).ties,.str (xC x).text,.bool !x.1.rd],.top,.top,.top,.top])
theorem OF:Ah G Tryz.prog 47 Dq:=
 vcFun_okP [(50,0,Cd)] [(28,⟨Ch,chA⟩)] false (fun x=>[(100005,b4j x),(200005,RU x)]) Tryz.func47 rfl (by decide) ⟨ML,trivial⟩ (fun(x:BC×List Ru×List Ch×List Sn×List Ti×List UInt8×Int×Int×Bool×Int)=>True∧Ab (decide (x.2.2.2.2.2.2.1<(0:Int))) (Xg x) (Ab (decide ((↑(List.length (xC x).chunks):Int)≥(79:Int))) (Xg x) (Ab (decide (x.2.2.2.2.2.2.2.2.2>(40:Int))) (eA (RU x) [.box 0 [nds x.1.ns,.int .i64 x.1.ind,AV.sl true 0 2 Ru ruA (xC x).rules,AV.sl true 0 5 Ch chA (xC x).chunks,AV.sl true 0 3 Sn snA (xC x).spans,AV.sl true 0 2 Ti tiA (xC x).ties,.str (xC x).text,.bool !x.1.rd],.int .i64 x.2.2.2.2.2.2.1,.int .i64 x.2.2.2.2.2.2.2.1,.bool x.2.2.2.2.2.2.2.2.1,.int .i64 (40:Int)]) (eA (RU x) [.box 0 [nds x.1.ns,.int .i64 x.1.ind,AV.sl true 0 2 Ru ruA (xC x).rules,AV.sl true 0 5 Ch chA (xC x).chunks,AV.sl true 0 3 Sn snA (xC x).spans,AV.sl true 0 2 Ti tiA (xC x).ties,.str (xC x).text,.bool !x.1.rd],.int .i64 x.2.2.2.2.2.2.1,.int .i64 x.2.2.2.2.2.2.2.1,.bool x.2.2.2.2.2.2.2.2.1,.int .i64 x.2.2.2.2.2.2.2.2.2])∧∀(i:Int×Unit),(¬x.2.2.2.2.2.2.1<(0:Int)∧¬(↑(List.length (xC x).chunks):Int)≥(79:Int))∧min x.2.2.2.2.2.2.2.2.2 (40:Int)=i.1→true=true∧(((Hc x i)∧(Hc x i))∧((Hc x i)∧((Hc x i)∧((Hc x i)∧(Hc x i))))∧((Hc x i)∧((Hc x i)∧((Hc x i)∧(Hc x i)))))∧∀(i:Int×Unit),(¬x.2.2.2.2.2.2.1<(0:Int)∧¬(↑(List.length (xC x).chunks):Int)≥(79:Int))∧min x.2.2.2.2.2.2.2.2.2 (40:Int)=i.1→rA Dq x [.tup [],.box 0 [nds x.1.ns,.int .i64 x.1.ind,AV.sl true 0 2 Ru ruA (xC x).rules,AV.sl true 0 5 Ch chA ((xC x).chunks++[OE (xC x).text x.2.2.2.2.2.2.1 x.2.2.2.2.2.2.2.1 x.2.2.2.2.2.2.2.2.1 i.1]),AV.sl true 0 3 Sn snA (xC x).spans,AV.sl true 0 2 Ti tiA (xC x).ties,.str #[].toList,.bool !x.1.rd],.top,.top,.top,.top]))) (fun x=>by kernel_rfl) fun(x:BC×List Ru×List Ch×List Sn×List Ti×List UInt8×Int×Int×Bool×Int) (hx:bB (xC x))=>(by
 dsimp only[Xg,Hc,cA,Bl,eA,RU,Bi,nds,rA,Bj,Cd,Dq,Bm,suA,Bn,Aq,Aw,mvL,lnL,mvE,lnE,mvG,mvH,lnG,lnH,Ba]
 obtain⟨b,r,c,s,t,u,e,f,g,h⟩:=x;dsimp only[xC] at hx ⊢
 have hx:bB ⟨r,c,s,t,u⟩:=hx
 have h1:=hx.ok.ch;have h2:=Ha hx;dsimp only at h1 h2
 (repeat' first|refine Rv ?_|(with_reducible first|rfl|exact True.intro|apply AG|apply And.intro|((first|apply Au|apply AE|apply Av|apply AF)<;>intro _))|(apply As<;>intro _)|apply AD|refine Af () ?_ ?_|((first|apply AK|apply AJ|apply AI|apply AH|apply AC|apply AB|apply AA|apply Az|apply Ax)<;>try dsimp only)|apply Af|(refine Prod.forall.2 ?_;intro _;try dsimp only)|(intro _;try dsimp only))
 all_goals(try dsimp only[yBW,xC] at*)
 all_goals first
  |with_reducible rfl
  |omega
  |exact(a4i ‹_› (.inl ‹_›) ‹_›).symm
  |exact(a4i ‹_› (.inr ‹_›) ‹_›).symm
  |exact(a4j (.inl ‹_›) ‹_›).symm
  |exact(a4j (.inr ‹_›) ‹_›).symm
  |(rename(¬_∧¬_)∧_=>hq;exact b4i (s:=⟨r,c,s,t,u⟩) hq)
  |(rename(¬_∧¬_)∧_=>hq;rw[hq.2];rfl)
  |(rename(¬_∧¬_)∧_=>hq;first|exact hq.1.1|exact hq.1.2|exact hq.2|exact hq.1.1 ‹_› |exact hq.1.2 ‹_›)
  |((try simp only[Aj,AY,List.length_append,List.length_cons,List.length_nil]);omega)
  |exact()
  |rfl
  |skip)
theorem b4k{n:Nat}{u:Int}{s:Bs}(h:u≥0)(h1:(s.rules.length:Int)>n)(h2:(s.ties.length:Int)<20):isB (CH (Dy n s) u s) ⟨s.rules,s.chunks,s.spans,s.ties++[⟨n,u⟩],s.text⟩:=by
 rw[isB,Dy,if_pos (by omega),CH,if_pos (by omega)]
theorem Xh{n:Nat}{u:Int}{s:Bs}(h:(¬u≥0∨¬(s.rules.length:Int)>n)∨¬(s.ties.length:Int)<20):isB (CH (Dy n s) u s) s:=by
 rw[isB,Dy]
 split
 ·rw[CH,if_neg (by omega)]
 ·rw[CH,if_neg (by omega)]
def Ip:Sig:= {X:=BC×List Ru×List Ch×List Sn×List Ti×List UInt8×Nat×Int,args:=fun x=>[suA x.1 (xC x),.int .i64 x.2.2.2.2.2.2.1,.int .i64 x.2.2.2.2.2.2.2],pre:=fun x=>bB (xC x),Y:=BT,post:=fun x y=>isB (CH (Dy x.2.2.2.2.2.2.1 (xC x)) x.2.2.2.2.2.2.2 (xC x)) (yBW y),res:=fun x y=> .tup [],outs:=fun x y=>[suA x.1 (yBW y),.top,.top],keep:=true}
def RV(x:BC×List Ru×List Ch×List Sn×List Ti×List UInt8×Nat×Int):Prop:=rA Ip x [.tup [],.box 0 [nds x.1.ns,.int .i64 x.1.ind,AV.sl true 0 2 Ru ruA (xC x).rules,AV.sl true 0 5 Ch chA (xC x).chunks,AV.sl true 0 3 Sn snA (xC x).spans,AV.sl true 0 2 Ti tiA (xC x).ties,.str (xC x).text,.bool !x.1.rd],.top,.top]
theorem a4k:Ah G Tryz.prog 120 Ip:=
 vcFun_okP [] [(30,⟨Ti,tiA⟩)] false (fun x=>[]) Tryz.func120 rfl (by decide) trivial (fun(x:BC×List Ru×List Ch×List Sn×List Ti×List UInt8×Nat×Int)=>True∧Ab (decide (x.2.2.2.2.2.2.2≥(0:Int))) (Ab (decide ((↑(List.length (xC x).rules):Int)>(↑x.2.2.2.2.2.2.1:Int))) (Ab (decide ((↑(List.length (xC x).ties):Int)<(20:Int))) (∃(x_1:Ti),(↑x.2.2.2.2.2.2.1:Int)=x_1.kid∧x.2.2.2.2.2.2.2=x_1.up∧∃(zs:List Ti),AV.sl true 0 2 Ti tiA [x_1]=AV.sl true 0 2 Ti tiA zs∧Bg tiA∧AY (List.length (xC x).ties+List.length zs) (16:Nat)∧∃(y:BT),isB (CH (Dy x.2.2.2.2.2.2.1 (xC x)) x.2.2.2.2.2.2.2 (xC x)) (yBW y)∧nds x.1.ns=nds x.1.ns∧x.1.ind=x.1.ind∧AV.sl true 0 2 Ru ruA (xC x).rules=AV.sl true 0 2 Ru ruA (yBW y).rules∧AV.sl true 0 5 Ch chA (xC x).chunks=AV.sl true 0 5 Ch chA (yBW y).chunks∧AV.sl true 0 3 Sn snA (xC x).spans=AV.sl true 0 3 Sn snA (yBW y).spans∧AV.sl true 0 2 Ti tiA ((xC x).ties++zs)=AV.sl true 0 2 Ti tiA (yBW y).ties∧(xC x).text=(yBW y).text∧(!x.1.rd)= !x.1.rd∧True) (RV x)) (RV x)) (RV x)) (fun x=>by kernel_rfl) fun(x:BC×List Ru×List Ch×List Sn×List Ti×List UInt8×Nat×Int) (hx:bB (xC x))=>(by
 dsimp only[RV,Bl,Bi,nds,rA,Bj,Ip,Bm,suA,Bn,Aq,Aw]
 obtain⟨b,r,c,s,t,u,e,f⟩:=x;dsimp only[xC] at hx ⊢
 have hx:bB ⟨r,c,s,t,u⟩:=hx
 have h1:=hx.ok.ti;dsimp only at h1
 (repeat' first|refine a3s ?_|(with_reducible first|rfl|exact True.intro|apply AG|apply And.intro|((first|apply Au|apply AE|apply Av|apply AF)<;>intro _))|(apply As<;>intro _)|apply AD|refine Af () ?_ ?_|((first|apply AK|apply AJ|apply AI|apply AH|apply AC|apply AB|apply AA|apply Az|apply Ax)<;>try dsimp only)|apply Af|(refine Prod.forall.2 ?_;intro _;try dsimp only)|(intro _;try dsimp only))
 all_goals(try dsimp only[yBW,xC] at*)
 all_goals first
  |with_reducible rfl
  |exact b4k (s:=⟨r,c,s,t,u⟩) ‹_› ‹_› ‹_›
  |exact Xh (s:=⟨r,c,s,t,u⟩) (.inl (.inl ‹_›))
  |exact Xh (s:=⟨r,c,s,t,u⟩) (.inl (.inr ‹_›))
  |exact Xh (s:=⟨r,c,s,t,u⟩) (.inr ‹_›)
  |((try simp only[Aj,AY,List.length_append,List.length_cons,List.length_nil]);omega)
  |rfl
  |skip)
end Go.My
end
