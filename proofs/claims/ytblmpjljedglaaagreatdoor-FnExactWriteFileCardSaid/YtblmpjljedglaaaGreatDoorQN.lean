/- joined -/
import Derived.Test.YtblmpjljedglaaaGreatDoorQM
import Derived.Test.YtblmpjljedglaaaGreatDoorProg
set_option linter.unusedSimpArgs false
set_option linter.unusedVariables false
section
namespace Go.My
open Go.Eng Go.Proofs
variable {G:GInv}
theorem Th{c:WC}{n m:Nat}{s:Ws}{k i:Int}(h:ndP c n (m+1) s k i)(hk:¬(Aa c.ns k).kind=21):s.ls.length≤2^41∧(0≤i∧i≤100000)∧(Aa c.ns k).kids.length≤12:=by
 have:=(Pu h).1;have:=HW h;omega
theorem b9i{c:WC}{n m:Nat}{s:Ws}{k i:Int}(h:ndP c n (m+1) s k i)(hk:(Aa c.ns k).kind=12):toP c n s (Aa c.ns k) ([118,97,114,32]++(Aa c.ns k).text++[59]) ([118,97,114,32]++(Aa c.ns k).text++[32,61]) i:=by
 have h1:=Th h (by omega);have h2:=Ta h (.inl hk)
 exact⟨⟨by simp;omega,h1.1⟩,h1.2.1,fun d hd=>a7n h hk hd,h1.2.2⟩
theorem b9j{c:WC}{n m:Nat}{s:Ws}{k i:Int}(h:ndP c n (m+1) s k i)(hk:(Aa c.ns k).kind=13):toP c n s (Aa c.ns k) [] ((Aa c.ns k).text++[32,61]) i:=by
 have h1:=Th h (by omega)
 exact⟨⟨by simp,h1.1⟩,h1.2.1,fun d hd=>a7o h hk hd,h1.2.2⟩
theorem b9k{c:WC}{n m:Nat}{s:Ws}{k i:Int}(h:ndP c n (m+1) s k i)(hk:(Aa c.ns k).kind=14):toP c n s (Aa c.ns k) [] [] i:=by
 have h1:=Th h (by omega)
 exact⟨⟨by simp,h1.1⟩,h1.2.1,fun d hd=>a7p h hk hd,h1.2.2⟩
theorem b9l{c:WC}{n m:Nat}{s:Ws}{k i:Int}(h:ndP c n (m+1) s k i)(hk:(Aa c.ns k).kind=15):toP c n s (Aa c.ns k) [114,101,116,117,114,110,59] [114,101,116,117,114,110,32] i:=by
 have h1:=Th h (by omega)
 exact⟨⟨by simp,h1.1⟩,h1.2.1,fun d hd=>a7q h hk hd,h1.2.2⟩
theorem b9m{c:WC}{n m:Nat}{s t:Ws}{k i:Int}(ht:AR (toF c n (Aa c.ns k) ([118,97,114,32]++(Aa c.ns k).text++[59]) ([118,97,114,32]++(Aa c.ns k).text++[32,61]) i s) t)(hk:(Aa c.ns k).kind=12):AR (wN c n (m+1) k i s) t:=nq (by rw[wV1,if_neg (by omega),if_pos hk];exact ht)
theorem b9n{c:WC}{n m:Nat}{s t:Ws}{k i:Int}(ht:AR (toF c n (Aa c.ns k) [] ((Aa c.ns k).text++[32,61]) i s) t)(h:ndP c n (m+1) s k i)(hk:(Aa c.ns k).kind=13):AR (wN c n (m+1) k i s) t:=by
 have h1:=(Td h).1 (.inl hk)
 rw[toF,if_neg (by omega)] at ht
 exact nq (by rw[wV1,if_neg (by omega),if_neg (by omega),if_pos hk];exact ht)
theorem b9o{c:WC}{n m:Nat}{s t:Ws}{k i:Int}(ht:AR (toF c n (Aa c.ns k) [] [] i s) t)(h:ndP c n (m+1) s k i)(hk:(Aa c.ns k).kind=14):AR (wN c n (m+1) k i s) t:=by
 have h1:=(Td h).1 (.inr hk)
 rw[toF,if_neg (by omega)] at ht
 exact nq (by rw[wV1,if_neg (by omega),if_neg (by omega),if_neg (by omega),if_pos hk];exact ht)
theorem b9p{c:WC}{n m:Nat}{s t:Ws}{k i:Int}(ht:AR (toF c n (Aa c.ns k) [114,101,116,117,114,110,59] [114,101,116,117,114,110,32] i s) t)(hk:(Aa c.ns k).kind=15):AR (wN c n (m+1) k i s) t:=nq (by rw[wV1,if_neg (by omega),if_neg (by omega),if_neg (by omega),if_neg (by omega),if_pos hk];exact ht)
theorem b9q{c:WC}{n m:Nat}{s:Ws}{k i:Int}(h:ndP c n (m+1) s k i)(hk:(Aa c.ns k).kind=20):mtP c n m s (Aa c.ns k) i:=⟨⟨k,h,rfl⟩,hk⟩
theorem b9r{c:WC}{n m:Nat}{s t:Ws}{k i:Int}(ht:mtQ c n m s (Aa c.ns k) i t)(hk:(Aa c.ns k).kind=20):AR (wN c n (m+1) k i s) t:=
 nq (by rw[wV1,if_neg (by omega),if_neg (by omega),if_neg (by omega),if_neg (by omega),if_neg (by omega),if_neg (by omega),if_neg (by omega),if_pos hk];exact ht)
theorem b9s{c:WC}{n m:Nat}{s:Ws}{k i:Int}(h:ndP c n (m+1) s k i)(hk:(Aa c.ns k).kind=16)(hl:((Aa c.ns k).kids.length:Int)>2):((Aa c.ns k).kids.length:Int)=3:=by have:=(JM h.v.up hk).1;omega
def Ge(n m:Nat):Sig:= {X:=WC×List (List UInt8)×Int×Int×Int,args:=fun x=>[wrA x.1 (xW x),.int .i64 x.2.2.2.1,.int .i64 x.2.2.2.2],pre:=fun x=>ndP x.1 n (m+1) (xW x) x.2.2.2.1 x.2.2.2.2,Y:=List (List UInt8)×Int,post:=fun x y=>AR (wN x.1 n (m+1) x.2.2.2.1 x.2.2.2.2 (xW x)) (yW y),res:=fun x y=> .tup [],outs:=fun x y=>[wrA x.1 (yW y),.top,.top],keep:=true}
set_option maxHeartbeats 8000000 in
theorem b9t(n m:Nat)(hv:Ah G Go.Proofs.Tryz.prog 49 (BR n))(hc:Ah G Go.Proofs.Tryz.prog 55 (HX n m)):Ah G Tryz.prog 55 (Ge n m):=
 vcFun_okP [(92,0,DH),(94,0,(GQ n)),(93,0,(HZ n)),(95,0,(Hp n m)),(69,0,(HY n m)),(96,0,(Nn n m))] [] false (fun x=>[]) Tryz.func55 rfl (by decide) ⟨Tf,(a7K n hv),(b8Y n hv),(a7L n m hc),(YH n m hc),(b9h n m hc),trivial⟩ (fun(x:WC×List (List UInt8)×Int×Int×Int)=>True∧((0:Int)≤x.2.2.2.1∧x.2.2.2.1<(↑(List.length x.1.ns):Int))∧∀(e:Nd),x.1.ns[Int.toNat x.2.2.2.1]? =some e→Ab (e.kind==(19:Int)) (cA DH [.box 0 [nds x.1.ns,.int .i64 x.1.w,.int .i64 x.1.bud,AV.sl true 0 1 (List UInt8) Ag (xW x).ls,.int .i64 (xW x).st],.int .i64 x.2.2.2.2,.str e.text] fun x_1 y=>rA (Ge n m) x [.tup [],.box 0 [nds x_1.1.ns,.int .i64 x_1.1.w,.int .i64 x_1.1.bud,AV.sl true 0 1 (List UInt8) Ag (yW y).ls,.int .i64 (yW y).st],.top,.top]) (Ab (e.kind==(12:Int)) ((↑((4:Nat)+List.length e.text):Int)≤IntKind.max IntKind.i64∧(↑(List.length (#[(118:UInt8),(97:UInt8),(114:UInt8),(32:UInt8)].toList++e.text)+(1:Nat)):Int)≤IntKind.max IntKind.i64∧(↑((4:Nat)+List.length e.text):Int)≤IntKind.max IntKind.i64∧(↑(List.length (#[(118:UInt8),(97:UInt8),(114:UInt8),(32:UInt8)].toList++e.text)+(2:Nat)):Int)≤IntKind.max IntKind.i64∧cA (HZ n) [.box 0 [nds x.1.ns,.int .i64 x.1.w,.int .i64 x.1.bud,AV.sl true 0 1 (List UInt8) Ag (xW x).ls,.int .i64 (xW x).st],.agg [.int .i64 e.kind,.str e.text,Ad e.kids,.bool e.blank],.str (#[(118:UInt8),(97:UInt8),(114:UInt8),(32:UInt8)].toList++e.text++ #[(59:UInt8)].toList),.str (#[(118:UInt8),(97:UInt8),(114:UInt8),(32:UInt8)].toList++e.text++ #[(32:UInt8),(61:UInt8)].toList),.int .i64 x.2.2.2.2] fun x_1 y=>rA (Ge n m) x [.tup [],.box 0 [nds x_1.1.ns,.int .i64 x_1.1.w,.int .i64 x_1.1.bud,AV.sl true 0 1 (List UInt8) Ag (yW y).ls,.int .i64 (yW y).st],.top,.top]) (Ab (e.kind==(13:Int)) ((↑(List.length e.text+(2:Nat)):Int)≤IntKind.max IntKind.i64∧cA (HZ n) [.box 0 [nds x.1.ns,.int .i64 x.1.w,.int .i64 x.1.bud,AV.sl true 0 1 (List UInt8) Ag (xW x).ls,.int .i64 (xW x).st],.agg [.int .i64 e.kind,.str e.text,Ad e.kids,.bool e.blank],.str #[].toList,.str (e.text++ #[(32:UInt8),(61:UInt8)].toList),.int .i64 x.2.2.2.2] fun x_1 y=>rA (Ge n m) x [.tup [],.box 0 [nds x_1.1.ns,.int .i64 x_1.1.w,.int .i64 x_1.1.bud,AV.sl true 0 1 (List UInt8) Ag (yW y).ls,.int .i64 (yW y).st],.top,.top]) (Ab (e.kind==(14:Int)) (cA (HZ n) [.box 0 [nds x.1.ns,.int .i64 x.1.w,.int .i64 x.1.bud,AV.sl true 0 1 (List UInt8) Ag (xW x).ls,.int .i64 (xW x).st],.agg [.int .i64 e.kind,.str e.text,Ad e.kids,.bool e.blank],.str #[].toList,.str #[].toList,.int .i64 x.2.2.2.2] fun x_1 y=>rA (Ge n m) x [.tup [],.box 0 [nds x_1.1.ns,.int .i64 x_1.1.w,.int .i64 x_1.1.bud,AV.sl true 0 1 (List UInt8) Ag (yW y).ls,.int .i64 (yW y).st],.top,.top]) (Ab (e.kind==(15:Int)) (cA (HZ n) [.box 0 [nds x.1.ns,.int .i64 x.1.w,.int .i64 x.1.bud,AV.sl true 0 1 (List UInt8) Ag (xW x).ls,.int .i64 (xW x).st],.agg [.int .i64 e.kind,.str e.text,Ad e.kids,.bool e.blank],.str #[(114:UInt8),(101:UInt8),(116:UInt8),(117:UInt8),(114:UInt8),(110:UInt8),(59:UInt8)].toList,.str #[(114:UInt8),(101:UInt8),(116:UInt8),(117:UInt8),(114:UInt8),(110:UInt8),(32:UInt8)].toList,.int .i64 x.2.2.2.2] fun x_1 y=>rA (Ge n m) x [.tup [],.box 0 [nds x_1.1.ns,.int .i64 x_1.1.w,.int .i64 x_1.1.bud,AV.sl true 0 1 (List UInt8) Ag (yW y).ls,.int .i64 (yW y).st],.top,.top]) (Ab (e.kind==(16:Int)) (((0:Int)≤(0:Int)∧(0:Int)<(↑(List.length e.kids):Int))∧∀(e_1:Int),e.kids[(0:Nat)]? =some e_1→cA (GQ n) [.box 0 [nds x.1.ns,.int .i64 x.1.w,.int .i64 x.1.bud,AV.sl true 0 1 (List UInt8) Ag (xW x).ls,.int .i64 (xW x).st],.int .i64 e_1,.str #[(105:UInt8),(102:UInt8),(32:UInt8),(40:UInt8)].toList,.str #[(41:UInt8),(32:UInt8),(123:UInt8)].toList,.int .i64 x.2.2.2.2] fun x_1 y=>((0:Int)≤(1:Int)∧(1:Int)<(↑(List.length e.kids):Int))∧∀(e_2:Int),e.kids[(1:Nat)]? =some e_2→cA (Hp n m) [.box 0 [nds x_1.1.ns,.int .i64 x_1.1.w,.int .i64 x_1.1.bud,AV.sl true 0 1 (List UInt8) Ag (yW y).ls,.int .i64 (yW y).st],.int .i64 e_2,.int .i64 x.2.2.2.2] fun x_2 y=>Ab (decide ((↑(List.length e.kids):Int)>(2:Int))) (cA DH [.box 0 [nds x_2.1.ns,.int .i64 x_2.1.w,.int .i64 x_2.1.bud,AV.sl true 0 1 (List UInt8) Ag (yW y).ls,.int .i64 (yW y).st],.int .i64 x.2.2.2.2,.str #[(125:UInt8),(32:UInt8),(101:UInt8),(108:UInt8),(115:UInt8),(101:UInt8),(32:UInt8),(123:UInt8)].toList] fun x_3 y=>((0:Int)≤(2:Int)∧(2:Int)<(↑(List.length e.kids):Int))∧∀(e_3:Int),e.kids[(2:Nat)]? =some e_3→cA (Hp n m) [.box 0 [nds x_3.1.ns,.int .i64 x_3.1.w,.int .i64 x_3.1.bud,AV.sl true 0 1 (List UInt8) Ag (yW y).ls,.int .i64 (yW y).st],.int .i64 e_3,.int .i64 x.2.2.2.2] fun x_4 y=>cA DH [.box 0 [nds x_4.1.ns,.int .i64 x_4.1.w,.int .i64 x_4.1.bud,AV.sl true 0 1 (List UInt8) Ag (yW y).ls,.int .i64 (yW y).st],.int .i64 x.2.2.2.2,.str #[(125:UInt8)].toList] fun x_5 y=>rA (Ge n m) x [.tup [],.box 0 [nds x_5.1.ns,.int .i64 x_5.1.w,.int .i64 x_5.1.bud,AV.sl true 0 1 (List UInt8) Ag (yW y).ls,.int .i64 (yW y).st],.top,.top]) (cA DH [.box 0 [nds x_2.1.ns,.int .i64 x_2.1.w,.int .i64 x_2.1.bud,AV.sl true 0 1 (List UInt8) Ag (yW y).ls,.int .i64 (yW y).st],.int .i64 x.2.2.2.2,.str #[(125:UInt8)].toList] fun x_3 y=>rA (Ge n m) x [.tup [],.box 0 [nds x_3.1.ns,.int .i64 x_3.1.w,.int .i64 x_3.1.bud,AV.sl true 0 1 (List UInt8) Ag (yW y).ls,.int .i64 (yW y).st],.top,.top])) (Ab (e.kind==(17:Int)) (((0:Int)≤(0:Int)∧(0:Int)<(↑(List.length e.kids):Int))∧∀(e_1:Int),e.kids[(0:Nat)]? =some e_1→cA (GQ n) [.box 0 [nds x.1.ns,.int .i64 x.1.w,.int .i64 x.1.bud,AV.sl true 0 1 (List UInt8) Ag (xW x).ls,.int .i64 (xW x).st],.int .i64 e_1,.str #[(119:UInt8),(104:UInt8),(105:UInt8),(108:UInt8),(101:UInt8),(32:UInt8),(40:UInt8)].toList,.str #[(41:UInt8),(32:UInt8),(123:UInt8)].toList,.int .i64 x.2.2.2.2] fun x_1 y=>((0:Int)≤(1:Int)∧(1:Int)<(↑(List.length e.kids):Int))∧∀(e_2:Int),e.kids[(1:Nat)]? =some e_2→cA (Hp n m) [.box 0 [nds x_1.1.ns,.int .i64 x_1.1.w,.int .i64 x_1.1.bud,AV.sl true 0 1 (List UInt8) Ag (yW y).ls,.int .i64 (yW y).st],.int .i64 e_2,.int .i64 x.2.2.2.2] fun x_2 y=>cA DH [.box 0 [nds x_2.1.ns,.int .i64 x_2.1.w,.int .i64 x_2.1.bud,AV.sl true 0 1 (List UInt8) Ag (yW y).ls,.int .i64 (yW y).st],.int .i64 x.2.2.2.2,.str #[(125:UInt8)].toList] fun x_3 y=>rA (Ge n m) x [.tup [],.box 0 [nds x_3.1.ns,.int .i64 x_3.1.w,.int .i64 x_3.1.bud,AV.sl true 0 1 (List UInt8) Ag (yW y).ls,.int .i64 (yW y).st],.top,.top]) (Ab (e.kind==(20:Int)) (cA (Nn n m) [.box 0 [nds x.1.ns,.int .i64 x.1.w,.int .i64 x.1.bud,AV.sl true 0 1 (List UInt8) Ag (xW x).ls,.int .i64 (xW x).st],.agg [.int .i64 e.kind,.str e.text,Ad e.kids,.bool e.blank],.int .i64 x.2.2.2.2] fun x_1 y=>rA (Ge n m) x [.tup [],.box 0 [nds x_1.1.ns,.int .i64 x_1.1.w,.int .i64 x_1.1.bud,AV.sl true 0 1 (List UInt8) Ag (yW y).ls,.int .i64 (yW y).st],.top,.top]) (Ab (e.kind==(21:Int)) ((↑((6:Nat)+List.length e.text):Int)≤IntKind.max IntKind.i64∧(↑(List.length (#[(99:UInt8),(108:UInt8),(97:UInt8),(115:UInt8),(115:UInt8),(32:UInt8)].toList++e.text)+(2:Nat)):Int)≤IntKind.max IntKind.i64∧cA DH [.box 0 [nds x.1.ns,.int .i64 x.1.w,.int .i64 x.1.bud,AV.sl true 0 1 (List UInt8) Ag (xW x).ls,.int .i64 (xW x).st],.int .i64 x.2.2.2.2,.str (#[(99:UInt8),(108:UInt8),(97:UInt8),(115:UInt8),(115:UInt8),(32:UInt8)].toList++e.text++ #[(32:UInt8),(123:UInt8)].toList)] fun x_1 y=>inR IntKind.i64 (x.2.2.2.2+(2:Int))∧cA (HY n m) [.box 0 [nds x_1.1.ns,.int .i64 x_1.1.w,.int .i64 x_1.1.bud,AV.sl true 0 1 (List UInt8) Ag (yW y).ls,.int .i64 (yW y).st],Ad e.kids,.int .i64 (x.2.2.2.2+(2:Int))] fun x_2 y=>cA DH [.box 0 [nds x_2.1.ns,.int .i64 x_2.1.w,.int .i64 x_2.1.bud,AV.sl true 0 1 (List UInt8) Ag (yW y).ls,.int .i64 (yW y).st],.int .i64 x.2.2.2.2,.str #[(125:UInt8)].toList] fun x_3 y=>rA (Ge n m) x [.tup [],.box 0 [nds x_3.1.ns,.int .i64 x_3.1.w,.int .i64 x_3.1.bud,AV.sl true 0 1 (List UInt8) Ag (yW y).ls,.int .i64 (yW y).st],.top,.top]) (rA (Ge n m) x [.tup [],.box 0 [nds x.1.ns,.int .i64 x.1.w,.int .i64 x.1.bud,AV.sl true 0 1 (List UInt8) Ag (xW x).ls,.int .i64 (xW x).st],.top,.top])))))))))) (fun x=>by kernel_rfl) fun(x:WC×List (List UInt8)×Int×Int×Int) (hx:ndP x.1 n (m+1) (xW x) x.2.2.2.1 x.2.2.2.2)=>(by
 dsimp only[cA,Bl,Ad,Bg,nds,pcA,rA,Bj,HY,Hp,DH,Nn,Ge,GQ,HZ,Bm,Bn,wrA,Aq,Aw,mvL,lnL,mvE,lnE,mvG,mvH,lnG,lnH]
 obtain⟨c,ls,st,k,i⟩:=x;dsimp only[xW] at hx ⊢
 have hx:ndP c n (m+1) ⟨ls,st⟩ k i:=hx
 have hn:=HW hx;have hr:=Pu hx;dsimp only at hr
 have hz:=a6W hx.v;have hk1:=Td hx;have htx:=a6V hx.v
 simp only[hz,Option.some.injEq,forall_eq']
 (repeat' first|(with_reducible first|rfl|exact True.intro|apply AG|apply And.intro|((first|apply Au|apply AE|apply Av|apply AF)<;>intro _))|(apply As<;>intro _)|apply AD|refine Af () ?_ ?_|((first|apply AK|apply AJ|apply AI|apply AH|apply AC|apply AB|apply AA|apply Az|apply Ax)<;>try dsimp only)|apply Af|(refine Prod.forall.2 ?_;intro _;try dsimp only)|(intro _;try dsimp only))
 all_goals(try dsimp only[yW,xW] at*)
 all_goals(try(have hg3:=b9s hx ‹_› ‹_›))
 all_goals first
  |with_reducible rfl
  |with_reducible assumption
  |omega
  |((try simp only[Ai,List.length_append,List.length_cons,List.length_nil]);omega)
  |(have hq:=hr.2 (by omega);omega)
  |exact a7m ‹_› ‹_›
  |exact b9i hx ‹_›
  |exact b9m ‹_› ‹_›
  |exact b9j hx ‹_›
  |exact b9n ‹_› hx ‹_›
  |exact b9k hx ‹_›
  |exact b9o ‹_› hx ‹_›
  |exact b9l hx ‹_›
  |exact b9p ‹_› ‹_›
  |exact b9q hx ‹_›
  |exact b9r ‹_› ‹_›
  |exact YA hx ‹_› ‹_›
  |exact a7u ‹_› ‹_› ‹_› hx ‹_›
  |exact a7x ‹_› ‹_› ‹_› ‹_› ‹_› ‹_› hx ‹_› hg3
  |exact a7A ‹_› ‹_› ‹_› ‹_› ‹_› ‹_› ‹_› ‹_› ‹_› hg3
  |exact a7B ‹_› ‹_› ‹_› ‹_› ‹_› ‹_› (by omega)
  |exact Tc hx ‹_› ‹_›
  |exact a7C ‹_› ‹_› ‹_› hx ‹_›
  |exact a7E ‹_› ‹_› ‹_› ‹_› ‹_› ‹_›
  |exact a7G ‹_› hx ‹_›
  |exact a7I ‹_› ‹_› ‹_› ‹_›
  |(have hq:=a7z ‹_› ‹_› ‹_› ‹_› ‹_› ‹_› ‹_› hx ‹_› hg3;dsimp only at hq;omega)
  |(have hq:=a7v ‹_› ‹_› ‹_› ‹_› hx ‹_›;dsimp only at hq;omega)
  |(have hq:=a7D ‹_› ‹_› ‹_› ‹_› hx ‹_›;dsimp only at hq;omega)
  |(have hq:=a7H ‹_› ‹_› hx ‹_›;dsimp only at hq;omega)
  |(have hq:=Ta hx (by omega);(try simp only[Ai,List.length_append,List.length_cons,List.length_nil]);omega)
  |(exfalso;exact a7J hx (by omega))
  |exact()
  |rfl
  |skip)
def Tj(n m:Nat)(x:WC×List (List UInt8)×Int×Int×Int):LS:= {ι:=List (List UInt8)×Int,inv:=fun j=>AR (wN x.1 n (m+1) x.2.2.2.1 x.2.2.2.2 (xW x)) (yW j),regs:=fun j=>[(0,wrA x.1 (yW j))],als:=[],meas:=fun _=>0}
def YJ(x:WC×List (List UInt8)×Int×Int×Int):LS:= {ι:=List (List UInt8)×Int,inv:=fun j=>AR (Bw x.2.2.2.2 (hdT x.1.ns (Aa x.1.ns x.2.2.2.1)) (xW x)) (yW j)∧(Aa x.1.ns x.2.2.2.1).kind=20,regs:=fun j=>[(0,wrA x.1 (yW j)),(2,.int .i64 x.2.2.2.2),(6,.box 0 (ndA false (Aa x.1.ns x.2.2.2.1)))],als:=[],meas:=fun _=>0}
def Fs(n m:Nat):Sig:= {X:=WC×List (List UInt8)×Int×Int×Int,args:=fun x=>[wrA x.1 (xW x),.int .i64 x.2.2.2.1,.int .i64 x.2.2.2.2],pre:=fun x=>ndP x.1 n (m+1) (xW x) x.2.2.2.1 x.2.2.2.2,Y:=List (List UInt8)×Int,post:=fun x y=>AR (wN x.1 n (m+1) x.2.2.2.1 x.2.2.2.2 (xW x)) (yW y),res:=fun x y=> .tup [],outs:=fun x y=>[wrA x.1 (yW y),.top,.top],keep:=true}
def YK(x:WC×List (List UInt8)×Int×Int×Int)(e:Nd):Prop:=cA Ni [nds x.1.ns,.agg [.int .i64 e.kind,.str e.text,Ad e.kids,.bool e.blank]] fun x_1 y=>cA DV [.box 0 [nds x.1.ns,.int .i64 x.1.w,.int .i64 x.1.bud,AV.sl true 0 1 (List UInt8) Ag (xW x).ls,.int .i64 (xW x).st],.int .i64 x.2.2.2.2,.str (hdT x_1.1 x_1.2)] fun x_2 y=>true=true∧(eA (YJ x) [.box 0 [nds x_2.1.ns,.int .i64 x_2.1.w,.int .i64 x_2.1.bud,AV.sl true 0 1 (List UInt8) Ag (yW y).ls,.int .i64 (yW y).st],.int .i64 x.2.2.2.2,.box 0 [.int .i64 e.kind,.str e.text,Ad e.kids,.bool e.blank]])
def Px(n:Nat)(m:Nat)(x:WC×List (List UInt8)×Int×Int×Int)(x_1:(Ey n).X)(y:(Ey n).Y):Prop:=eA (Tj n m x) [.box 0 [nds x_1.1.ns,.int .i64 x_1.1.w,.int .i64 x_1.1.bud,AV.sl true 0 1 (List UInt8) Ag (yW y).ls,.int .i64 (yW y).st]]
set_option maxHeartbeats 8000000 in
theorem b9u(n m:Nat)(hc:Ah G Go.Proofs.Tryz.prog 61 (GN n m)):Ah G Tryz.prog 61 (Fs n m):=
 vcFun_okP [(99,0,DV),(100,0,(Ey n)),(101,0,(IQ n m)),(71,0,(GP n m)),(102,0,Ni)] [] false (fun x=>[(100007,Tj n m x),(100009,Tj n m x),(100028,YJ x)]) Tryz.func61 rfl (by decide) ⟨a6Q,(b8C n),(b8D n m hc),(Yy n m hc),b8J,trivial⟩ (fun(x:WC×List (List UInt8)×Int×Int×Int)=>True∧((0:Int)≤x.2.2.2.1∧x.2.2.2.1<(↑(List.length x.1.ns):Int))∧∀(e:Nd),x.1.ns[Int.toNat x.2.2.2.1]? =some e→Ab (e.kind==(19:Int)) (cA DV [.box 0 [nds x.1.ns,.int .i64 x.1.w,.int .i64 x.1.bud,AV.sl true 0 1 (List UInt8) Ag (xW x).ls,.int .i64 (xW x).st],.int .i64 x.2.2.2.2,.str e.text] fun x_1 y=>rA (Fs n m) x [.tup [],.box 0 [nds x_1.1.ns,.int .i64 x_1.1.w,.int .i64 x_1.1.bud,AV.sl true 0 1 (List UInt8) Ag (yW y).ls,.int .i64 (yW y).st],.top,.top]) (Ab (e.kind==(12:Int)) (Ab ((↑(List.length e.kids):Int)==(0:Int)) ((↑((4:Nat)+List.length e.text):Int)≤IntKind.max IntKind.i64∧(↑(List.length (#[(118:UInt8),(97:UInt8),(114:UInt8),(32:UInt8)].toList++e.text)+(1:Nat)):Int)≤IntKind.max IntKind.i64∧cA DV [.box 0 [nds x.1.ns,.int .i64 x.1.w,.int .i64 x.1.bud,AV.sl true 0 1 (List UInt8) Ag (xW x).ls,.int .i64 (xW x).st],.int .i64 x.2.2.2.2,.str (#[(118:UInt8),(97:UInt8),(114:UInt8),(32:UInt8)].toList++e.text++ #[(59:UInt8)].toList)] fun x_1 y=>rA (Fs n m) x [.tup [],.box 0 [nds x_1.1.ns,.int .i64 x_1.1.w,.int .i64 x_1.1.bud,AV.sl true 0 1 (List UInt8) Ag (yW y).ls,.int .i64 (yW y).st],.top,.top]) (true=true∧(((↑((4:Nat)+List.length e.text):Int)≤IntKind.max IntKind.i64∧(↑(List.length (#[(118:UInt8),(97:UInt8),(114:UInt8),(32:UInt8)].toList++e.text)+(2:Nat)):Int)≤IntKind.max IntKind.i64∧((0:Int)≤(0:Int)∧(0:Int)<(↑(List.length e.kids):Int))∧∀(e_1:Int),e.kids[(0:Nat)]? =some e_1→cA (Ey n) [.box 0 [nds x.1.ns,.int .i64 x.1.w,.int .i64 x.1.bud,AV.sl true 0 1 (List UInt8) Ag (xW x).ls,.int .i64 (xW x).st],.str (#[(118:UInt8),(97:UInt8),(114:UInt8),(32:UInt8)].toList++e.text++ #[(32:UInt8),(61:UInt8)].toList),.int .i64 e_1,.str #[(59:UInt8)].toList,.int .i64 x.2.2.2.2] fun x_1 y=>true=true∧(Px n m x x_1 y))∧((0:Int)≤(0:Int)∧(0:Int)<(↑(List.length e.kids):Int))∧∀(e_1:Int),e.kids[(0:Nat)]? =some e_1→(↑((4:Nat)+List.length e.text):Int)≤IntKind.max IntKind.i64∧(↑(List.length (#[(118:UInt8),(97:UInt8),(114:UInt8),(32:UInt8)].toList++e.text)+(2:Nat)):Int)≤IntKind.max IntKind.i64∧cA (Ey n) [.box 0 [nds x.1.ns,.int .i64 x.1.w,.int .i64 x.1.bud,AV.sl true 0 1 (List UInt8) Ag (xW x).ls,.int .i64 (xW x).st],.str (#[(118:UInt8),(97:UInt8),(114:UInt8),(32:UInt8)].toList++e.text++ #[(32:UInt8),(61:UInt8)].toList),.int .i64 e_1,.str #[(59:UInt8)].toList,.int .i64 x.2.2.2.2] fun x_1 y=>true=true∧(Px n m x x_1 y))∧(∀(i:List (List UInt8)×Int),AR (wN x.1 n (m+(1:Nat)) x.2.2.2.1 x.2.2.2.2 (xW x)) (yW i)→rA (Fs n m) x [.tup [],.box 0 [nds x.1.ns,.int .i64 x.1.w,.int .i64 x.1.bud,AV.sl true 0 1 (List UInt8) Ag (yW i).ls,.int .i64 (yW i).st],.top,.top]))) (Ab (e.kind==(13:Int)) (true=true∧(((↑(List.length e.text+(2:Nat)):Int)≤IntKind.max IntKind.i64∧((0:Int)≤(0:Int)∧(0:Int)<(↑(List.length e.kids):Int))∧∀(e_1:Int),e.kids[(0:Nat)]? =some e_1→cA (Ey n) [.box 0 [nds x.1.ns,.int .i64 x.1.w,.int .i64 x.1.bud,AV.sl true 0 1 (List UInt8) Ag (xW x).ls,.int .i64 (xW x).st],.str (e.text++ #[(32:UInt8),(61:UInt8)].toList),.int .i64 e_1,.str #[(59:UInt8)].toList,.int .i64 x.2.2.2.2] fun x_1 y=>true=true∧(Px n m x x_1 y))∧((0:Int)≤(0:Int)∧(0:Int)<(↑(List.length e.kids):Int))∧∀(e_1:Int),e.kids[(0:Nat)]? =some e_1→(↑(List.length e.text+(2:Nat)):Int)≤IntKind.max IntKind.i64∧cA (Ey n) [.box 0 [nds x.1.ns,.int .i64 x.1.w,.int .i64 x.1.bud,AV.sl true 0 1 (List UInt8) Ag (xW x).ls,.int .i64 (xW x).st],.str (e.text++ #[(32:UInt8),(61:UInt8)].toList),.int .i64 e_1,.str #[(59:UInt8)].toList,.int .i64 x.2.2.2.2] fun x_1 y=>true=true∧(Px n m x x_1 y))∧(∀(i:List (List UInt8)×Int),AR (wN x.1 n (m+(1:Nat)) x.2.2.2.1 x.2.2.2.2 (xW x)) (yW i)→rA (Fs n m) x [.tup [],.box 0 [nds x.1.ns,.int .i64 x.1.w,.int .i64 x.1.bud,AV.sl true 0 1 (List UInt8) Ag (yW i).ls,.int .i64 (yW i).st],.top,.top])) (Ab (e.kind==(14:Int)) (((0:Int)≤(0:Int)∧(0:Int)<(↑(List.length e.kids):Int))∧∀(e_1:Int),e.kids[(0:Nat)]? =some e_1→cA (Ey n) [.box 0 [nds x.1.ns,.int .i64 x.1.w,.int .i64 x.1.bud,AV.sl true 0 1 (List UInt8) Ag (xW x).ls,.int .i64 (xW x).st],.str #[].toList,.int .i64 e_1,.str #[(59:UInt8)].toList,.int .i64 x.2.2.2.2] fun x_1 y=>rA (Fs n m) x [.tup [],.box 0 [nds x_1.1.ns,.int .i64 x_1.1.w,.int .i64 x_1.1.bud,AV.sl true 0 1 (List UInt8) Ag (yW y).ls,.int .i64 (yW y).st],.top,.top]) (Ab (e.kind==(15:Int)) (Ab ((↑(List.length e.kids):Int)==(0:Int)) (cA DV [.box 0 [nds x.1.ns,.int .i64 x.1.w,.int .i64 x.1.bud,AV.sl true 0 1 (List UInt8) Ag (xW x).ls,.int .i64 (xW x).st],.int .i64 x.2.2.2.2,.str #[(114:UInt8),(101:UInt8),(116:UInt8),(117:UInt8),(114:UInt8),(110:UInt8),(59:UInt8)].toList] fun x_1 y=>rA (Fs n m) x [.tup [],.box 0 [nds x_1.1.ns,.int .i64 x_1.1.w,.int .i64 x_1.1.bud,AV.sl true 0 1 (List UInt8) Ag (yW y).ls,.int .i64 (yW y).st],.top,.top]) (((0:Int)≤(0:Int)∧(0:Int)<(↑(List.length e.kids):Int))∧∀(e_1:Int),e.kids[(0:Nat)]? =some e_1→cA (Ey n) [.box 0 [nds x.1.ns,.int .i64 x.1.w,.int .i64 x.1.bud,AV.sl true 0 1 (List UInt8) Ag (xW x).ls,.int .i64 (xW x).st],.str #[(114:UInt8),(101:UInt8),(116:UInt8),(117:UInt8),(114:UInt8),(110:UInt8),(32:UInt8)].toList,.int .i64 e_1,.str #[(59:UInt8)].toList,.int .i64 x.2.2.2.2] fun x_1 y=>rA (Fs n m) x [.tup [],.box 0 [nds x_1.1.ns,.int .i64 x_1.1.w,.int .i64 x_1.1.bud,AV.sl true 0 1 (List UInt8) Ag (yW y).ls,.int .i64 (yW y).st],.top,.top])) (Ab (e.kind==(16:Int)) (((0:Int)≤(0:Int)∧(0:Int)<(↑(List.length e.kids):Int))∧∀(e_1:Int),e.kids[(0:Nat)]? =some e_1→cA (Ey n) [.box 0 [nds x.1.ns,.int .i64 x.1.w,.int .i64 x.1.bud,AV.sl true 0 1 (List UInt8) Ag (xW x).ls,.int .i64 (xW x).st],.str #[(105:UInt8),(102:UInt8),(32:UInt8),(40:UInt8)].toList,.int .i64 e_1,.str #[(41:UInt8),(32:UInt8),(123:UInt8)].toList,.int .i64 x.2.2.2.2] fun x_1 y=>((0:Int)≤(1:Int)∧(1:Int)<(↑(List.length e.kids):Int))∧∀(e_2:Int),e.kids[(1:Nat)]? =some e_2→cA (IQ n m) [.box 0 [nds x_1.1.ns,.int .i64 x_1.1.w,.int .i64 x_1.1.bud,AV.sl true 0 1 (List UInt8) Ag (yW y).ls,.int .i64 (yW y).st],.int .i64 e_2,.int .i64 x.2.2.2.2] fun x_2 y=>Ab ((↑(List.length e.kids):Int)==(3:Int)) (cA DV [.box 0 [nds x_2.1.ns,.int .i64 x_2.1.w,.int .i64 x_2.1.bud,AV.sl true 0 1 (List UInt8) Ag (yW y).ls,.int .i64 (yW y).st],.int .i64 x.2.2.2.2,.str #[(125:UInt8),(32:UInt8),(101:UInt8),(108:UInt8),(115:UInt8),(101:UInt8),(32:UInt8),(123:UInt8)].toList] fun x_3 y=>((0:Int)≤(2:Int)∧(2:Int)<(↑(List.length e.kids):Int))∧∀(e_3:Int),e.kids[(2:Nat)]? =some e_3→cA (IQ n m) [.box 0 [nds x_3.1.ns,.int .i64 x_3.1.w,.int .i64 x_3.1.bud,AV.sl true 0 1 (List UInt8) Ag (yW y).ls,.int .i64 (yW y).st],.int .i64 e_3,.int .i64 x.2.2.2.2] fun x_4 y=>cA DV [.box 0 [nds x_4.1.ns,.int .i64 x_4.1.w,.int .i64 x_4.1.bud,AV.sl true 0 1 (List UInt8) Ag (yW y).ls,.int .i64 (yW y).st],.int .i64 x.2.2.2.2,.str #[(125:UInt8)].toList] fun x_5 y=>rA (Fs n m) x [.tup [],.box 0 [nds x_5.1.ns,.int .i64 x_5.1.w,.int .i64 x_5.1.bud,AV.sl true 0 1 (List UInt8) Ag (yW y).ls,.int .i64 (yW y).st],.top,.top]) (cA DV [.box 0 [nds x_2.1.ns,.int .i64 x_2.1.w,.int .i64 x_2.1.bud,AV.sl true 0 1 (List UInt8) Ag (yW y).ls,.int .i64 (yW y).st],.int .i64 x.2.2.2.2,.str #[(125:UInt8)].toList] fun x_3 y=>rA (Fs n m) x [.tup [],.box 0 [nds x_3.1.ns,.int .i64 x_3.1.w,.int .i64 x_3.1.bud,AV.sl true 0 1 (List UInt8) Ag (yW y).ls,.int .i64 (yW y).st],.top,.top])) (Ab (e.kind==(17:Int)) (((0:Int)≤(0:Int)∧(0:Int)<(↑(List.length e.kids):Int))∧∀(e_1:Int),e.kids[(0:Nat)]? =some e_1→cA (Ey n) [.box 0 [nds x.1.ns,.int .i64 x.1.w,.int .i64 x.1.bud,AV.sl true 0 1 (List UInt8) Ag (xW x).ls,.int .i64 (xW x).st],.str #[(119:UInt8),(104:UInt8),(105:UInt8),(108:UInt8),(101:UInt8),(32:UInt8),(40:UInt8)].toList,.int .i64 e_1,.str #[(41:UInt8),(32:UInt8),(123:UInt8)].toList,.int .i64 x.2.2.2.2] fun x_1 y=>((0:Int)≤(1:Int)∧(1:Int)<(↑(List.length e.kids):Int))∧∀(e_2:Int),e.kids[(1:Nat)]? =some e_2→cA (IQ n m) [.box 0 [nds x_1.1.ns,.int .i64 x_1.1.w,.int .i64 x_1.1.bud,AV.sl true 0 1 (List UInt8) Ag (yW y).ls,.int .i64 (yW y).st],.int .i64 e_2,.int .i64 x.2.2.2.2] fun x_2 y=>cA DV [.box 0 [nds x_2.1.ns,.int .i64 x_2.1.w,.int .i64 x_2.1.bud,AV.sl true 0 1 (List UInt8) Ag (yW y).ls,.int .i64 (yW y).st],.int .i64 x.2.2.2.2,.str #[(125:UInt8)].toList] fun x_3 y=>rA (Fs n m) x [.tup [],.box 0 [nds x_3.1.ns,.int .i64 x_3.1.w,.int .i64 x_3.1.bud,AV.sl true 0 1 (List UInt8) Ag (yW y).ls,.int .i64 (yW y).st],.top,.top]) (Ab (e.kind==(20:Int)) (true=true∧((YK x e)∧(YK x e))∧∀(i:List (List UInt8)×Int),AR (Bw x.2.2.2.2 (hdT x.1.ns (Aa x.1.ns x.2.2.2.1)) (xW x)) (yW i)∧(Aa x.1.ns x.2.2.2.1).kind=(20:Int)→inR IntKind.i64 ((↑(List.length (Aa x.1.ns x.2.2.2.1).kids):Int)-(1:Int))∧((0:Int)≤(↑(List.length (Aa x.1.ns x.2.2.2.1).kids):Int)-(1:Int)∧(↑(List.length (Aa x.1.ns x.2.2.2.1).kids):Int)-(1:Int)<(↑(List.length (Aa x.1.ns x.2.2.2.1).kids):Int))∧∀(e:Int),(Aa x.1.ns x.2.2.2.1).kids[Int.toNat ((↑(List.length (Aa x.1.ns x.2.2.2.1).kids):Int)-(1:Int))]? =some e→cA (IQ n m) [.box 0 [nds x.1.ns,.int .i64 x.1.w,.int .i64 x.1.bud,AV.sl true 0 1 (List UInt8) Ag (yW i).ls,.int .i64 (yW i).st],.int .i64 e,.int .i64 x.2.2.2.2] fun x_1 y=>cA DV [.box 0 [nds x_1.1.ns,.int .i64 x_1.1.w,.int .i64 x_1.1.bud,AV.sl true 0 1 (List UInt8) Ag (yW y).ls,.int .i64 (yW y).st],.int .i64 x.2.2.2.2,.str #[(125:UInt8)].toList] fun x_2 y=>rA (Fs n m) x [.tup [],.box 0 [nds x_2.1.ns,.int .i64 x_2.1.w,.int .i64 x_2.1.bud,AV.sl true 0 1 (List UInt8) Ag (yW y).ls,.int .i64 (yW y).st],.top,.top]) (Ab (e.kind==(21:Int)) ((↑((6:Nat)+List.length e.text):Int)≤IntKind.max IntKind.i64∧(↑(List.length (#[(99:UInt8),(108:UInt8),(97:UInt8),(115:UInt8),(115:UInt8),(32:UInt8)].toList++e.text)+(2:Nat)):Int)≤IntKind.max IntKind.i64∧cA DV [.box 0 [nds x.1.ns,.int .i64 x.1.w,.int .i64 x.1.bud,AV.sl true 0 1 (List UInt8) Ag (xW x).ls,.int .i64 (xW x).st],.int .i64 x.2.2.2.2,.str (#[(99:UInt8),(108:UInt8),(97:UInt8),(115:UInt8),(115:UInt8),(32:UInt8)].toList++e.text++ #[(32:UInt8),(123:UInt8)].toList)] fun x_1 y=>inR IntKind.i64 (x.2.2.2.2+(2:Int))∧cA (GP n m) [.box 0 [nds x_1.1.ns,.int .i64 x_1.1.w,.int .i64 x_1.1.bud,AV.sl true 0 1 (List UInt8) Ag (yW y).ls,.int .i64 (yW y).st],Ad e.kids,.int .i64 (x.2.2.2.2+(2:Int))] fun x_2 y=>cA DV [.box 0 [nds x_2.1.ns,.int .i64 x_2.1.w,.int .i64 x_2.1.bud,AV.sl true 0 1 (List UInt8) Ag (yW y).ls,.int .i64 (yW y).st],.int .i64 x.2.2.2.2,.str #[(125:UInt8)].toList] fun x_3 y=>rA (Fs n m) x [.tup [],.box 0 [nds x_3.1.ns,.int .i64 x_3.1.w,.int .i64 x_3.1.bud,AV.sl true 0 1 (List UInt8) Ag (yW y).ls,.int .i64 (yW y).st],.top,.top]) (rA (Fs n m) x [.tup [],.box 0 [nds x.1.ns,.int .i64 x.1.w,.int .i64 x.1.bud,AV.sl true 0 1 (List UInt8) Ag (xW x).ls,.int .i64 (xW x).st],.top,.top])))))))))) (fun x=>by kernel_rfl) fun(x:WC×List (List UInt8)×Int×Int×Int) (hx:ndP x.1 n (m+1) (xW x) x.2.2.2.1 x.2.2.2.2)=>(by
 dsimp only[Px,YK,cA,eA,Ad,Bg,YJ,Tj,nds,Cg,rA,GP,IQ,Ni,DV,Fs,Ey,wrA,Aq,Aw,mvL,lnL,mvE,lnE,mvG,mvH,lnG,lnH,AZ]
 obtain⟨c,ls,st,k,i⟩:=x;dsimp only[xW] at hx ⊢
 have hx:ndP c n (m+1) ⟨ls,st⟩ k i:=hx
 have hn:=HW hx;have hr:=Pu hx;dsimp only at hr
 have hz:=a6W hx.v;have hk1:=Td hx;have htx:=a6V hx.v
 simp only[hz,Option.some.injEq,forall_eq']
 (repeat' first|(with_reducible first|rfl|exact True.intro|apply AG|apply And.intro|((first|apply Au|apply AE|apply Av|apply AF)<;>intro _))|(apply As<;>intro _)|apply AD|refine Af () ?_ ?_|((first|apply AK|apply AJ|apply AI|apply AH|apply AC|apply AB|apply AA|apply Az|apply Ax)<;>try dsimp only)|apply Af|(refine Prod.forall.2 ?_;intro _;try dsimp only)|(intro _;try dsimp only))
 all_goals(try dsimp only[yW,xW] at*)
 all_goals first
  |with_reducible rfl
  |with_reducible assumption
  |omega
  |((try simp only[Ai,List.length_append,List.length_cons,List.length_nil]);omega)
  |(have hq:=hr.2 (by omega);omega)
  |exact a7m ‹_› ‹_›
  |exact a7n hx ‹_› ‹_›
  |exact b8K ‹_› ‹_› ‹_› ‹_›
  |exact b8L ‹_› ‹_› ‹_›
  |exact a7o hx ‹_› ‹_›
  |exact b8M ‹_› ‹_› ‹_›
  |exact a7p hx ‹_› ‹_›
  |exact b8N ‹_› ‹_› ‹_›
  |exact a7q hx ‹_› ‹_›
  |exact b8O ‹_› ‹_› ‹_› ‹_›
  |exact b8P ‹_› ‹_› ‹_›
  |exact YA hx ‹_› ‹_›
  |exact a7u ‹_› ‹_› ‹_› hx ‹_›
  |exact a7x ‹_› ‹_› ‹_› ‹_› ‹_› ‹_› hx ‹_› ‹_›
  |exact a7A ‹_› ‹_› ‹_› ‹_› ‹_› ‹_› ‹_› ‹_› ‹_› ‹_›
  |exact a7B ‹_› ‹_› ‹_› ‹_› ‹_› ‹_› ‹_›
  |exact Tc hx ‹_› ‹_›
  |exact a7C ‹_› ‹_› ‹_› hx ‹_›
  |exact a7E ‹_› ‹_› ‹_› ‹_› ‹_› ‹_›
  |exact YD hx ‹_›
  |exact YE (show AR _ _∧_ by assumption).1 ‹_› hx ‹_›
  |exact YE (show AR _ _∧_ by assumption).1 ‹_› hx (show AR _ _∧_ by assumption).2
  |exact b8T ‹_› ‹_› (show AR _ _∧_ by assumption).1 ‹_› hx (show AR _ _∧_ by assumption).2
  |exact a7G ‹_› hx ‹_›
  |exact a7I ‹_› ‹_› ‹_› ‹_›
  |(have hq:=a7z ‹_› ‹_› ‹_› ‹_› ‹_› ‹_› ‹_› hx ‹_› ‹_›;dsimp only at hq;omega)
  |(have hq:=a7v ‹_› ‹_› ‹_› ‹_› hx ‹_›;dsimp only at hq;omega)
  |(have hq:=a7D ‹_› ‹_› ‹_› ‹_› hx ‹_›;dsimp only at hq;omega)
  |(have hq:=a7F ‹_› (show AR _ _∧_ by assumption).1 ‹_› hx (show AR _ _∧_ by assumption).2;dsimp only at hq;omega)
  |(have hq:=a7H ‹_› ‹_› hx ‹_›;dsimp only at hq;omega)
  |(have hq:=b8S (YD hx ‹_›);omega)
  |(have hq:=Ta hx (by omega);(try simp only[Ai,List.length_append,List.length_cons,List.length_nil]);omega)
  |(exfalso;exact a7J hx (by omega))
  |exact⟨by assumption,by assumption⟩
  |exact()
  |rfl
  |skip)
theorem b9v{n:Nat}:Ah G Go.Proofs.Tryz.prog 61 (GN n 0):=
 ⟨⟨⟨_,Go.Proofs.Tryz.func61,by kernel_rfl,by kernel_rfl⟩,fun x y _ _=>trivial⟩,fun x hx=>by
   exfalso
   have hx:ndP x.1 n 0 (xW x) x.2.2.2.1 x.2.2.2.2:=hx
   have h1:=Bc.1 hx.v.up.1
   have h2:=hx.v.lt
   omega⟩
theorem YL{n:Nat}:∀m,Ah G Go.Proofs.Tryz.prog 61 (GN n m)
 |0=>b9v
 |m+1=>b9u n m (YL m)
structure trN (ns:List Nd) (n:Nat):Prop where
 ok:CH ns
 l30:ns.length≤2^30
 ln:ns.length≤n
 tx:txS ns≤1048576
def Gf(ns:List Nd)(k i:Int):Bool:=(Bh ns k&&(inn i 0 40&& !decide (BA ns k=0)))&&Fr (Al ns k)
def wnR(ns:List Nd)(n:Nat)(k i w bud:Int):Ws:=if Gf ns k i then wN ⟨ns,w,bud⟩ n n k i ⟨[],1⟩ else⟨[],0⟩
theorem Tk{ns:List Nd}{n:Nat}{k i w bud:Int}(h:Gf ns k i=false):wnR ns n k i w bud=⟨[],0⟩:=by rw[wnR,if_neg (by rw[h];simp)]
theorem a7P{ns:List Nd}{n:Nat}{k i w bud:Int}(h:(Bh ns k=false∨inn i 0 40=false)∨BA ns k=0):wnR ns n k i w bud=⟨[],0⟩:=Tk (by
 rcases h with(h|h)|h<;>simp [Gf,h])
theorem b9w{ns:List Nd}{n:Nat}{k i w bud:Int}{e:Nd}(he:ns[k.toNat]? =some e)(h1:Gv e.kind=false)(h2:CG e.kind=false)(h3:e.kind≠21):wnR ns n k i w bud=⟨[],0⟩:=Tk (by
 rw[Gf,Ek he,Fr,CN,h1,h2,decide_eq_false h3]
 have h19:¬e.kind=19:=fun e2=>by rw[CG,e2] at h2;simp at h2
 rw[decide_eq_false h19];simp)
theorem b9x{ns:List Nd}{n:Nat}{k i w bud:Int}{e:Nd}(h1:Bh ns k=true)(h2:inn i 0 40=true)(h3:¬BA ns k=0)(he:ns[k.toNat]? =some e)(h4:(Gv e.kind=true∨CG e.kind=true)∨e.kind=21):Gf ns k i=true:=by
 have:Fr (Al ns k)=true:=by
  rw[Ek he,Fr,CN]
  rcases h4 with(h|h)|h
  ·rw[h];simp
  ·rw[h];simp
  ·rw[h];simp
 rw[Gf,h1,h2,this,decide_eq_false h3];rfl
theorem YM{ns:List Nd}{n:Nat}{k i w bud:Int}(hx:trN ns n)(h:Gf ns k i=true):ndP ⟨ns,w,bud⟩ n n ⟨[],1⟩ k i:=by
 simp only[Gf,Bool.and_eq_true,Bool.not_eq_true',decide_eq_false_iff_not] at h
 obtain⟨⟨h1,h2,h3⟩,h4⟩:=h
 have hr:=Bc.1 h1
 have hi:=Br.1 h2
 obtain⟨_,⟨ds,hd⟩,_⟩:=Oa h3
 have hat:=(Js hd k.toNat (by omega)).1
 have hl:=hx.ln
 have hup:Bv ns k:=HH h3
 refine⟨⟨⟨hx.ok,hx.l30,hx.ln,hx.tx⟩,hup,by omega,h4,⟨k.toNat+1,ds,hd,by omega,?_⟩,by omega⟩,?_⟩
 ·show i+ds.getD k.toNat 0+(if Al ns k=21 then 1 else 0)≤59
  split<;>omega
 ·have:=b7I hd (m:=n) hup (by omega) (by omega) h4
  show 0+wW ns n k≤_
  omega
theorem Tl{ns:List Nd}{n:Nat}{k i w bud:Int}{t:Ws}(h:Gf ns k i=true)(ht:AR (wN ⟨ns,w,bud⟩ n n k i ⟨[],1⟩) t):t=wnR ns n k i w bud:=by rw[wnR,if_pos h];exact ht
theorem Tm{β:Type}{q:WC×β→Prop}(c:WC)(h:∃b,q (c,b)):∃x,q x:=let⟨b,hb⟩:=h;⟨(c,b),hb⟩
def Py(n:Nat):Sig:= {X:=List Nd×Int×Int×Int×Int,args:=fun x=>[nds x.1,.int .i64 x.2.1,.int .i64 x.2.2.1,.int .i64 x.2.2.2.1,.int .i64 x.2.2.2.2],pre:=fun x=>trN x.1 n,Y:=Unit,post:=fun x y=>True,res:=fun x y=> .agg [Cg (wnR x.1 n x.2.1 x.2.2.1 x.2.2.2.1 x.2.2.2.2).ls,.int .i64 (wnR x.1 n x.2.1 x.2.2.1 x.2.2.2.1 x.2.2.2.2).st],outs:=fun x y=>[.top,.top,.top,.top,.top],keep:=false}
def YN(n:Nat)(x:List Nd×Int×Int×Int×Int):Prop:=cA (GN n n) [.box 0 [nds x.1,.int .i64 x.2.2.2.1,.int .i64 x.2.2.2.2,.nil,.int .i64 (1:Int)],.int .i64 x.2.1,.int .i64 x.2.2.1] fun x_6 y=>∃(y_1:Unit),True∧AV.sl true 0 1 (List UInt8) Ag (yW y).ls=AV.sl true 0 1 (List UInt8) Ag (wnR x.1 n x.2.1 x.2.2.1 x.2.2.2.1 x.2.2.2.2).ls∧(yW y).st=(wnR x.1 n x.2.1 x.2.2.1 x.2.2.2.1 x.2.2.2.2).st∧True
def Pz(n:Nat)(x:List Nd×Int×Int×Int×Int):Prop:=∃(y:Unit),True∧((wnR x.1 n x.2.1 x.2.2.1 x.2.2.2.1 x.2.2.2.2).ls=[]∧(0:Int)=(wnR x.1 n x.2.1 x.2.2.1 x.2.2.2.1 x.2.2.2.2).st∧True)
theorem b9y(n:Nat):Ah G Tryz.prog 23 (Py n):=
 vcFun_okP [(57,0,Eb),(36,0,BG),(58,0,Fj),(59,0,GC),(60,0,EG),(61,0,(GN n n))] [(42,⟨List UInt8,Ag⟩)] false (fun x=>[]) Tryz.func23 rfl (by decide) ⟨Od,Gw,VQ,VL,QB,(YL n),trivial⟩ (fun(x:List Nd×Int×Int×Int×Int)=>(∀(y:Unit),True→((∀(x:List UInt8),True∧True)∧True∧True)∧True∧True∧True∧True∧True∧True)∧cA Eb [nds x.1,.int .i64 x.2.1] fun x_1 y=>Ab (!Bh x_1.1 x_1.2) (Pz n x) (cA BG [.int .i64 x.2.2.1,.int .i64 (0:Int),.int .i64 (40:Int)] fun x_2 y=>Ab (!inn x_2.1 x_2.2.1 x_2.2.2) (Pz n x) (cA Fj [nds x.1,.int .i64 x.2.1] fun x_3 y=>Ab (BA x_3.1 x_3.2==(0:Int)) (Pz n x) (((0:Int)≤x.2.1∧x.2.1<(↑(List.length x.1):Int))∧∀(e:Nd),x.1[Int.toNat x.2.1]? =some e→cA GC [.int .i64 e.kind] fun x_4 y=>Ab (!Gv x_4) (cA EG [.int .i64 e.kind] fun x_5 y=>Ab (!CG x_5) (Ab (e.kind != (21:Int)) (Pz n x) (YN n x)) (YN n x)) (cA (GN n n) [.box 0 [nds x.1,.int .i64 x.2.2.2.1,.int .i64 x.2.2.2.2,.nil,.int .i64 (1:Int)],.int .i64 x.2.1,.int .i64 x.2.2.1] fun x_5 y=>∃(y_1:Unit),True∧AV.sl true 0 1 (List UInt8) Ag (yW y).ls=AV.sl true 0 1 (List UInt8) Ag (wnR x.1 n x.2.1 x.2.2.1 x.2.2.2.1 x.2.2.2.2).ls∧(yW y).st=(wnR x.1 n x.2.1 x.2.2.1 x.2.2.2.1 x.2.2.2.2).st∧True))))) (fun x=>by kernel_rfl) fun(x:List Nd×Int×Int×Int×Int) (hx:trN x.1 n)=>(by
 dsimp only[Pz,YN,cA,Bg,nds,Fj,BG,EG,Eb,GC,GN,wrA,Aq,Aw,mvL,lnL,mvE,lnE,mvG,mvH,lnG,lnH]
 obtain⟨ns,k,i,w,bud⟩:=x;dsimp only at hx ⊢
 have hx:trN ns n:=hx
 (repeat' first|refine Tm ⟨ns,w,bud⟩ ?_|(with_reducible first|rfl|exact True.intro|apply AG|apply And.intro|((first|apply Au|apply AE|apply Av|apply AF)<;>intro _))|(apply As<;>intro _)|apply AD|refine Af () ?_ ?_|((first|apply AK|apply AJ|apply AI|apply AH|apply AC|apply AB|apply AA|apply Az|apply Ax)<;>try dsimp only)|apply Af|(refine Prod.forall.2 ?_;intro _;try dsimp only)|(intro _;try dsimp only))
 all_goals(try(have hi:=Bc.1 (show Bh ns k=true by assumption)))
 all_goals(try(have hF:= @a7P ns n k i w bud (by first|exact .inl (.inl ‹_›)|exact .inl (.inr ‹_›)|exact .inr ‹_›)))
 all_goals(try(have hF:= @b9w ns n k i w bud _ ‹_› ‹_› ‹_› ‹_›))
 all_goals(try(have hT:= @b9x ns n k i w bud _ ‹_› ‹_› ‹_› ‹_› (by first|exact .inl (.inl ‹_›)|exact .inl (.inr ‹_›)|exact .inr ‹_›)))
 all_goals first
  |with_reducible rfl
  |exact hx.ok
  |exact hx.l30
  |(rw[hF];done)
  |exact YM hx hT
  |exact congrArg Ws.ls (Tl hT ‹_›)
  |exact congrArg Ws.st (Tl hT ‹_›)
  |exact hx.ok.1
  |omega
  |skip)
def wfR(ns:List Nd)(n:Nat)(w bud:Int):Ws:=if DZ ns then Em ns (wN ⟨ns,w,bud⟩ n n) 0 (Aa ns ((ns.length:Int)-1)).kids ⟨[],1⟩ else⟨[],0⟩
theorem YO{ns:List Nd}{n:Nat}{w bud:Int}(h:DZ ns=false):wfR ns n w bud=⟨[],0⟩:=by rw[wfR,if_neg (by rw[h];simp)]
theorem YP{ns:List Nd}(h:DZ ns=true):(1≤ns.length∧Al ns ((ns.length:Int)-1)=22)∧Bv ns ((ns.length:Int)-1)∧∃ds,BN ns ns.length=some ds:=by
 simp only[DZ,Bool.and_eq_true,decide_eq_true_eq,Bool.not_eq_true',decide_eq_false_iff_not] at h
 obtain⟨⟨h1,_⟩,h2,h3,_⟩:=h
 obtain⟨_,⟨ds,hd⟩,_⟩:=Oa h3
 refine⟨⟨h1,h2⟩,HH h3,ds,?_⟩
 rw[show((ns.length:Int)-1).toNat+1=ns.length by omega] at hd;exact hd
theorem YQ{ns:List Nd}{n:Nat}{w bud:Int}(hx:trN ns n)(h:DZ ns=true):alP ⟨ns,w,bud⟩ n n ⟨[],1⟩ (Aa ns ((ns.length:Int)-1)).kids 0:=by
 obtain⟨⟨h1,h2⟩,hup,ds,hd⟩:=YP h
 have hl:=hx.ln
 have hk:=(Dc (Ed hup)).2.1
 refine⟨fun e he=> ?_,?_,by omega,by omega⟩
 ·have h3:=Cv hup he
  have h4:=HT hd hup (by omega) he
  have h5:=a6v hup h2 e he
  refine⟨⟨hx.ok,hx.l30,hx.ln,hx.tx⟩,h3.1,by omega,?_,⟨ns.length,ds,hd,by omega,?_⟩,by omega⟩
  ·simp only[EQ,Bool.or_eq_true] at h5
   simp only[Fr,Bool.or_eq_true]
   exact .inr h5
  ·show 0+ds.getD e.toNat 0+(if Al ns e=21 then 1 else 0)≤59
   split<;>omega
 ·have h6:=b7J hd (m:=n+1) hup (by omega) (by omega) h2
  rw[wW,if_neg (by rw[h2];decide),if_pos (.inr (.inr h2))] at h6
  show 0+(wL (wW ns n) (Aa ns ((ns.length:Int)-1)).kids+(Aa ns ((ns.length:Int)-1)).kids.length)≤_
  omega
theorem Tn{ns:List Nd}{n:Nat}{w bud:Int}{t:Ws}{e:Nd}(h:DZ ns=true)(he:ns[((ns.length:Int)-1).toNat]? =some e)(ht:AR (Em ns (wN ⟨ns,w,bud⟩ n n) 0 e.kids ⟨[],1⟩) t):t=wfR ns n w bud:=by
 rw[wfR,if_pos h,Bd he];exact ht
def PA(n:Nat):Sig:= {X:=List Nd×Int×Int,args:=fun x=>[nds x.1,.int .i64 x.2.1,.int .i64 x.2.2],pre:=fun x=>trN x.1 n,Y:=Unit,post:=fun x y=>True,res:=fun x y=> .agg [Cg (wfR x.1 n x.2.1 x.2.2).ls,.int .i64 (wfR x.1 n x.2.1 x.2.2).st],outs:=fun x y=>[.top,.top,.top],keep:=false}
theorem b9z(n:Nat):Ah G Tryz.prog 30 (PA n):=
 vcFun_okP [(70,0,HE),(71,0,(GP n n))] [(42,⟨List UInt8,Ag⟩)] false (fun x=>[]) Tryz.func30 rfl (by decide) ⟨b2s,(Yy n n (YL n)),trivial⟩ (fun(x:List Nd×Int×Int)=>(∀(y:Unit),True→((∀(x:List UInt8),True∧True)∧True∧True)∧True∧True∧True∧True)∧cA HE [nds x.1] fun x_1 y=>Ab (!DZ x_1) (∃(y:Unit),True∧(wfR x.1 n x.2.1 x.2.2).ls=[]∧(0:Int)=(wfR x.1 n x.2.1 x.2.2).st∧True) (inR IntKind.i64 ((↑(List.length x.1):Int)-(1:Int))∧((0:Int)≤(↑(List.length x.1):Int)-(1:Int)∧(↑(List.length x.1):Int)-(1:Int)<(↑(List.length x.1):Int))∧∀(e:Nd),x.1[Int.toNat ((↑(List.length x.1):Int)-(1:Int))]? =some e→cA (GP n n) [.box 0 [nds x.1,.int .i64 x.2.1,.int .i64 x.2.2,.nil,.int .i64 (1:Int)],Ad e.kids,.int .i64 (0:Int)] fun x_2 y=>∃(y_1:Unit),True∧AV.sl true 0 1 (List UInt8) Ag (yW y).ls=AV.sl true 0 1 (List UInt8) Ag (wfR x.1 n x.2.1 x.2.2).ls∧(yW y).st=(wfR x.1 n x.2.1 x.2.2).st∧True)) (fun x=>by kernel_rfl) fun(x:List Nd×Int×Int) (hx:trN x.1 n)=>(by
 dsimp only[cA,Ad,Bg,nds,HE,GP,wrA,Aq,Aw,mvL,lnL,mvE,lnE,mvG,mvH,lnG,lnH]
 obtain⟨ns,w,bud⟩:=x;dsimp only at hx ⊢
 have hx:trN ns n:=hx
 have hl:=hx.l30
 (repeat' first|refine Tm ⟨ns,w,bud⟩ ?_|(with_reducible first|rfl|exact True.intro|apply AG|apply And.intro|((first|apply Au|apply AE|apply Av|apply AF)<;>intro _))|(apply As<;>intro _)|apply AD|refine Af () ?_ ?_|((first|apply AK|apply AJ|apply AI|apply AH|apply AC|apply AB|apply AA|apply Az|apply Ax)<;>try dsimp only)|apply Af|(refine Prod.forall.2 ?_;intro _;try dsimp only)|(intro _;try dsimp only))
 all_goals(try(have hD:=YP (show DZ ns=true by assumption)))
 all_goals first
  |with_reducible rfl
  |exact hx.ok
  |exact hx.l30
  |(rw[YO ‹_›];done)
  |(have hq:= @Bd ns ((ns.length:Int)-1) _ ‹_›;rw[←hq];exact YQ hx ‹_›)
  |exact congrArg Ws.ls (Tn ‹_› ‹_› ‹_›)
  |exact congrArg Ws.st (Tn ‹_› ‹_› ‹_›)
  |exact hx.ok.1
  |((try simp only[Ai]);omega)
  |skip)
theorem b9A{n:Nat}:Ah G Go.Proofs.Tryz.prog 55 (HX n 0):=
 ⟨⟨⟨_,Go.Proofs.Tryz.func55,by kernel_rfl,by kernel_rfl⟩,fun x y _ _=>trivial⟩,fun x hx=>by
   exfalso
   have hx:ndP x.1 n 0 (xW x) x.2.2.2.1 x.2.2.2.2:=hx
   have h1:=Bc.1 hx.v.up.1
   have h2:=hx.v.lt
   omega⟩
theorem YR{n:Nat}(hv:Ah G Go.Proofs.Tryz.prog 49 (BR n)):∀m,Ah G Go.Proofs.Tryz.prog 55 (HX n m)
 |0=>b9A
 |m+1=>b9t n m hv (YR hv m)
theorem b9B{ns:List Nd}{n:Nat}{k i w bud:Int}(h:BA ns k=0∨inn i 0 40=false):wnR ns n k i w bud=⟨[],0⟩:=a7P (by
 rcases h with h|h
 ·exact .inr h
 ·exact .inl (.inr h))
theorem b9C{ns:List Nd}{n:Nat}{k i w bud:Int}{e:Nd}(he:ns[k.toNat]? =some e)(h:(e.kind=18∨e.kind=22)∨AX e.kind=true):wnR ns n k i w bud=⟨[],0⟩:=Tk (by
 have:Fr (Al ns k)=false:=by
  rw[Ek he]
  cases ht:Fr e.kind with
  |false=>rfl
  |true=>
   exfalso
   have h2:=Yq ht
   rcases h with h|h
   ·omega
   ·rw[h2.1] at h;cases h
 rw[Gf,this];simp)
theorem b9D{ns:List Nd}{n:Nat}{k i w bud:Int}{e:Nd}(hd:¬BA ns k=0)(hi:inn i 0 40=true)(he:ns[k.toNat]? =some e)(h1:¬e.kind=18)(h2:¬e.kind=22)(h3:AX e.kind=false):Gf ns k i=true:=by
 have hup:=HH hd
 have hk:=(Iq hup).1
 have e2:(Aa ns k).kind=e.kind:=by rw[Bd he]
 rw[e2] at hk
 have:Fr (Al ns k)=true:=by
  rw[Ek he]
  have hv:¬(1≤e.kind∧e.kind≤11):=fun hh=>by rw[AX,Br.2 hh] at h3;cases h3
  have:e.kind=12∨e.kind=13∨e.kind=14∨e.kind=15∨e.kind=16∨e.kind=17∨e.kind=19∨e.kind=20∨e.kind=21:=by omega
  rcases this with e|e|e|e|e|e|e|e|e<;>rw[e]<;>rfl
 rw[Gf,hup.1,hi,this,decide_eq_false hd];rfl
def To(n:Nat):Sig:= {X:=List Nd×Int×Int×Int×Int,args:=fun x=>[nds x.1,.int .i64 x.2.1,.int .i64 x.2.2.1,.int .i64 x.2.2.2.1,.int .i64 x.2.2.2.2],pre:=fun x=>trN x.1 n,Y:=Unit,post:=fun x y=>True,res:=fun x y=> .agg [Cg (wnR x.1 n x.2.1 x.2.2.1 x.2.2.2.1 x.2.2.2.2).ls,.int .i64 (wnR x.1 n x.2.1 x.2.2.1 x.2.2.2.1 x.2.2.2.2).st],outs:=fun x y=>[.top,.top,.top,.top,.top],keep:=false}
def b9E(n:Nat)(x:List Nd×Int×Int×Int×Int):LS:= {ι:=Unit,inv:=fun _=>True,regs:=fun _=>[(10,.box 0 [Cg (wnR x.1 n x.2.1 x.2.2.1 x.2.2.2.1 x.2.2.2.2).ls,.int .i64 (wnR x.1 n x.2.1 x.2.2.1 x.2.2.2.1 x.2.2.2.2).st])],als:=[],meas:=fun _=>0}
def No(n:Nat)(x:List Nd×Int×Int×Int×Int):Prop:=∃(y:Unit),True∧AV.sl true 0 1 (List UInt8) Ag []=AV.sl true 0 1 (List UInt8) Ag (wnR x.1 n x.2.1 x.2.2.1 x.2.2.2.1 x.2.2.2.2).ls∧(0:Int)=(wnR x.1 n x.2.1 x.2.2.1 x.2.2.2.1 x.2.2.2.2).st∧True
theorem b9F(n:Nat)(hv:Ah G Go.Proofs.Tryz.prog 49 (BR n)):Ah G Tryz.prog 21 (To n):=
 vcFun_okP [(44,0,EU),(45,0,Bq),(34,0,Ec),(55,0,(HX n n))] [(42,⟨List UInt8,Ag⟩)] false (fun x=>[(100005,b9E n x)]) Tryz.func21 rfl (by decide) ⟨QT,Gx,QM,(YR hv n),trivial⟩ (fun(x:List Nd×Int×Int×Int×Int)=>(∀(y:Unit),True→((∀(x:List UInt8),True∧True)∧True∧True)∧True∧True∧True∧True∧True∧True)∧cA EU [nds x.1,.int .i64 x.2.1] fun x_1 y=>Ab (BA x_1.1 x_1.2==(0:Int)) (No n x) (cA Bq [.int .i64 x.2.2.1,.int .i64 (0:Int),.int .i64 (40:Int)] fun x_2 y=>Ab (!inn x_2.1 x_2.2.1 x_2.2.2) (No n x) (((0:Int)≤x.2.1∧x.2.1<(↑(List.length x.1):Int))∧∀(e:Nd),x.1[Int.toNat x.2.1]? =some e→Ab (e.kind==(18:Int)) (No n x) (((0:Int)≤x.2.1∧x.2.1<(↑(List.length x.1):Int))∧∀(e:Nd),x.1[Int.toNat x.2.1]? =some e→Ab (e.kind==(22:Int)) (No n x) (((0:Int)≤x.2.1∧x.2.1<(↑(List.length x.1):Int))∧∀(e:Nd),x.1[Int.toNat x.2.1]? =some e→cA Ec [.int .i64 e.kind] fun x_3 y=>Ab (AX x_3) (No n x) (∃(x_4:WC×List (List UInt8)×Int×Int×Int),ndP x_4.1 n n (xW x_4) x_4.2.2.2.1 x_4.2.2.2.2∧nds x.1=nds x_4.1.ns∧x.2.2.2.1=x_4.1.w∧x.2.2.2.2=x_4.1.bud∧AV.sl true 0 1 (List UInt8) Ag []=AV.sl true 0 1 (List UInt8) Ag (xW x_4).ls∧(1:Int)=(xW x_4).st∧x.2.1=x_4.2.2.2.1∧x.2.2.1=x_4.2.2.2.2∧∀(y:List (List UInt8)×Int),AR (wN x_4.1 n n x_4.2.2.2.1 x_4.2.2.2.2 (xW x_4)) (yW y)→true=true∧((true=true∧(∃(i:Unit),True∧((AV.sl true 0 1 (List UInt8) Ag (yW y).ls=AV.sl true 0 1 (List UInt8) Ag (wnR x.1 n x.2.1 x.2.2.1 x.2.2.2.1 x.2.2.2.2).ls∧(yW y).st=(wnR x.1 n x.2.1 x.2.2.1 x.2.2.2.1 x.2.2.2.2).st∧True)∧True)))∧(true=true∧(∃(i:Unit),True∧((AV.sl true 0 1 (List UInt8) Ag (yW y).ls=AV.sl true 0 1 (List UInt8) Ag (wnR x.1 n x.2.1 x.2.2.1 x.2.2.2.1 x.2.2.2.2).ls∧(yW y).st=(wnR x.1 n x.2.1 x.2.2.1 x.2.2.2.1 x.2.2.2.2).st∧True)∧True))))∧∀(i:Unit),True→∃(y:Unit),True∧AV.sl true 0 1 (List UInt8) Ag (wnR x.1 n x.2.1 x.2.2.1 x.2.2.2.1 x.2.2.2.2).ls=AV.sl true 0 1 (List UInt8) Ag (wnR x.1 n x.2.1 x.2.2.1 x.2.2.2.1 x.2.2.2.2).ls∧(wnR x.1 n x.2.1 x.2.2.1 x.2.2.2.1 x.2.2.2.2).st=(wnR x.1 n x.2.1 x.2.2.1 x.2.2.2.1 x.2.2.2.2).st∧True)))))) (fun x=>by kernel_rfl) fun(x:List Nd×Int×Int×Int×Int) (hx:trN x.1 n)=>(by
 dsimp only[No,cA,Bg,nds,Bq,Ec,EU,Aq,Aw,mvL,lnL,mvE,lnE,mvG,mvH,lnG,lnH]
 obtain⟨ns,k,i,w,bud⟩:=x;dsimp only at hx ⊢
 have hx:trN ns n:=hx
 (repeat' first|refine Tm ⟨ns,w,bud⟩ ?_|(with_reducible first|rfl|exact True.intro|apply AG|apply And.intro|((first|apply Au|apply AE|apply Av|apply AF)<;>intro _))|(apply As<;>intro _)|apply AD|refine Af () ?_ ?_|((first|apply AK|apply AJ|apply AI|apply AH|apply AC|apply AB|apply AA|apply Az|apply Ax)<;>try dsimp only)|apply Af|(refine Prod.forall.2 ?_;intro _;try dsimp only)|(intro _;try dsimp only))
 all_goals(try(repeat(rename ns[_]? =some _=>hq;revert hq;rename ns[_]? =some _=>hr;intro hq;rw[hr] at hq;cases hq)))
 all_goals(try(have hkk:=Bc.1 (HH (show BA ns k≠0 by assumption)).1))
 all_goals(try(have hF:= @b9B ns n k i w bud (by first|exact .inl ‹_› |exact .inr ‹_›)))
 all_goals(try(have hF:= @b9C ns n k i w bud _ ‹_› (by first|exact .inl (.inl ‹_›)|exact .inl (.inr ‹_›)|exact .inr ‹_›)))
 all_goals(try(have hT:= @b9D ns n k i w bud _ ‹_› ‹_› ‹_› ‹_› ‹_› ‹_›))
 all_goals first
  |with_reducible rfl
  |omega
  |exact hx.ok
  |exact hx.l30
  |(rw[hF];done)
  |exact YM hx hT
  |exact congrArg Ws.ls (Tl hT ‹_›)
  |exact congrArg Ws.st (Tl hT ‹_›)
  |exact hx.ok.1
  |exact()
  |rfl
  |skip)
def Tp(n:Nat):Sig:= {X:=List Nd×Int×Int,args:=fun x=>[nds x.1,.int .i64 x.2.1,.int .i64 x.2.2],pre:=fun x=>trN x.1 n,Y:=Unit,post:=fun x y=>True,res:=fun x y=> .agg [Cg (wfR x.1 n x.2.1 x.2.2).ls,.int .i64 (wfR x.1 n x.2.1 x.2.2).st],outs:=fun x y=>[.top,.top,.top],keep:=false}
def b9G(n:Nat)(x:List Nd×Int×Int):LS:= {ι:=Unit,inv:=fun _=>True,regs:=fun _=>[(6,.box 0 [Cg (wfR x.1 n x.2.1 x.2.2).ls,.int .i64 (wfR x.1 n x.2.1 x.2.2).st])],als:=[],meas:=fun _=>0}
theorem b9H(n:Nat)(hv:Ah G Go.Proofs.Tryz.prog 49 (BR n)):Ah G Tryz.prog 29 (Tp n):=
 vcFun_okP [(68,0,HG),(69,0,(HY n n))] [(42,⟨List UInt8,Ag⟩)] false (fun x=>[(100005,b9G n x)]) Tryz.func29 rfl (by decide) ⟨b2Z,(YH n n (YR hv n)),trivial⟩ (fun(x:List Nd×Int×Int)=>(∀(y:Unit),True→((∀(x:List UInt8),True∧True)∧True∧True)∧True∧True∧True∧True)∧cA HG [nds x.1] fun x_1 y=>Ab (!DZ x_1) (∃(y:Unit),True∧AV.sl true 0 1 (List UInt8) Ag []=AV.sl true 0 1 (List UInt8) Ag (wfR x.1 n x.2.1 x.2.2).ls∧(0:Int)=(wfR x.1 n x.2.1 x.2.2).st∧True) (inR IntKind.i64 ((↑(List.length x.1):Int)-(1:Int))∧((0:Int)≤(↑(List.length x.1):Int)-(1:Int)∧(↑(List.length x.1):Int)-(1:Int)<(↑(List.length x.1):Int))∧∀(e:Nd),x.1[Int.toNat ((↑(List.length x.1):Int)-(1:Int))]? =some e→∃(x_2:WC×List (List UInt8)×Int×List Int×Int),alP x_2.1 n n (xW x_2) x_2.2.2.2.1 x_2.2.2.2.2∧nds x.1=nds x_2.1.ns∧x.2.1=x_2.1.w∧x.2.2=x_2.1.bud∧AV.sl true 0 1 (List UInt8) Ag []=AV.sl true 0 1 (List UInt8) Ag (xW x_2).ls∧(1:Int)=(xW x_2).st∧Ad e.kids=Ad x_2.2.2.2.1∧(0:Int)=x_2.2.2.2.2∧∀(y:List (List UInt8)×Int),AR (Em x_2.1.ns (wN x_2.1 n n) x_2.2.2.2.2 x_2.2.2.2.1 (xW x_2)) (yW y)→true=true∧((true=true∧(∃(i:Unit),True∧((AV.sl true 0 1 (List UInt8) Ag (yW y).ls=AV.sl true 0 1 (List UInt8) Ag (wfR x.1 n x.2.1 x.2.2).ls∧(yW y).st=(wfR x.1 n x.2.1 x.2.2).st∧True)∧True)))∧(true=true∧(∃(i:Unit),True∧((AV.sl true 0 1 (List UInt8) Ag (yW y).ls=AV.sl true 0 1 (List UInt8) Ag (wfR x.1 n x.2.1 x.2.2).ls∧(yW y).st=(wfR x.1 n x.2.1 x.2.2).st∧True)∧True))))∧∀(i:Unit),True→∃(y:Unit),True∧AV.sl true 0 1 (List UInt8) Ag (wfR x.1 n x.2.1 x.2.2).ls=AV.sl true 0 1 (List UInt8) Ag (wfR x.1 n x.2.1 x.2.2).ls∧(wfR x.1 n x.2.1 x.2.2).st=(wfR x.1 n x.2.1 x.2.2).st∧True)) (fun x=>by kernel_rfl) fun(x:List Nd×Int×Int) (hx:trN x.1 n)=>(by
 dsimp only[cA,Ad,Bg,nds,HG,Aq,Aw,mvL,lnL,mvE,lnE,mvG,mvH,lnG,lnH]
 obtain⟨ns,w,bud⟩:=x;dsimp only at hx ⊢
 have hx:trN ns n:=hx
 have hl:=hx.l30
 (repeat' first|refine Tm ⟨ns,w,bud⟩ ?_|(with_reducible first|rfl|exact True.intro|apply AG|apply And.intro|((first|apply Au|apply AE|apply Av|apply AF)<;>intro _))|(apply As<;>intro _)|apply AD|refine Af () ?_ ?_|((first|apply AK|apply AJ|apply AI|apply AH|apply AC|apply AB|apply AA|apply Az|apply Ax)<;>try dsimp only)|apply Af|(refine Prod.forall.2 ?_;intro _;try dsimp only)|(intro _;try dsimp only))
 all_goals(try(have hD:=YP (show DZ ns=true by assumption)))
 all_goals first
  |with_reducible rfl
  |exact hx.ok
  |exact hx.l30
  |(rw[YO ‹_›];done)
  |(have hq:= @Bd ns ((ns.length:Int)-1) _ ‹_›;rw[←hq];exact YQ hx ‹_›)
  |exact congrArg Ws.ls (Tn ‹_› ‹_› ‹_›)
  |exact congrArg Ws.st (Tn ‹_› ‹_› ‹_›)
  |exact hx.ok.1
  |((try simp only[Ai]);omega)
  |exact()
  |rfl
  |skip)
def Lv:Sig:= {X:=List Int×Int,args:=fun x=>[Ad x.1,.int .i64 x.2],pre:=fun x=> -1≤x.2∧x.2≤2^50∧x.1.length<2^63,Y:=Unit,post:=fun x y=>True,res:=fun x y=> .int .i64 (FQ x.1 x.2),outs:=fun x y=>[.top,.top],keep:=false}
theorem b9I:Ah G Tryz.prog 91 Lv:=
 vcFun_okP [] [] false (fun x=>[]) Tryz.func91 rfl (by decide) trivial (fun(x:List Int×Int)=>(∀(y:Unit),True→True∧True∧True∧True)∧inR IntKind.i64 (x.2-(↑(List.length x.1):Int))∧Ab (decide (x.2-(↑(List.length x.1):Int)<(0:Int))) (rA Lv x [.int .i64 (-1:Int),.top,.top]) (rA Lv x [.int .i64 (x.2-(↑(List.length x.1):Int)),.top,.top])) (fun x=>by kernel_rfl) fun(x:List Int×Int) (hx: -1≤x.2∧x.2≤2^50∧x.1.length<2^63)=>(by
 dsimp only[Ad,rA,Lv,Aq,Aw]
 obtain⟨h1,h2,h3⟩:=hx
 (repeat' first|(with_reducible first|rfl|exact True.intro|apply AG|apply And.intro|((first|apply Au|apply AE|apply Av|apply AF)<;>intro _))|(apply As<;>intro _)|apply AD|refine Af () ?_ ?_|((first|apply AK|apply AJ|apply AI|apply AH|apply AC|apply AB|apply AA|apply Az|apply Ax)<;>try dsimp only)|apply Af|(refine Prod.forall.2 ?_;intro _;try dsimp only)|(intro _;try dsimp only))<;>(try dsimp only at*)<;>(try simp only[Ai,List.length_cons,List.length_nil])<;>(try omega)<;>unfold FQ<;>split<;>omega)
def JR:Sig:= {X:=Nd×Int,args:=fun x=>[.agg (ndA false x.1),.int .i64 x.2],pre:=fun x=> -1≤x.2∧x.2≤2^50∧GV x.1,Y:=Unit,post:=fun x y=>True,res:=fun x y=> .int .i64 (Ff x.1 x.2),outs:=fun x y=>[.top,.top],keep:=false}
theorem b9J:Ah G Tryz.prog 54 JR:=
 vcFun_okP [(91,0,Lv)] [] false (fun x=>[]) Tryz.func54 rfl (by decide) ⟨b9I,trivial⟩ (fun(x:Nd×Int)=>(∀(y:Unit),True→True∧True∧True∧True)∧inR IntKind.i64 (x.2-(↑(List.length x.1.text):Int))∧Ab (decide (x.2-(↑(List.length x.1.text):Int)<(0:Int))) (rA JR x [.int .i64 (-1:Int),.top,.top]) (cA Lv [Ad x.1.kids,.int .i64 (x.2-(↑(List.length x.1.text):Int))] fun x_1 y=>Ab (decide (FQ x_1.1 x_1.2<(0:Int))) (rA JR x [.int .i64 (-1:Int),.top,.top]) (rA JR x [.int .i64 (FQ x_1.1 x_1.2),.top,.top]))) (fun x=>by kernel_rfl) fun(x:Nd×Int) (hx: -1≤x.2∧x.2≤2^50∧GV x.1)=>(by
 dsimp only[cA,Ad,Bg,rA,Lv,JR,Aq,Aw,mvL,lnL,mvE,lnE,mvG,mvH,lnG,lnH]
 obtain⟨h1,h2,h3,h4⟩:=hx
 (repeat' first|(with_reducible first|rfl|exact True.intro|apply AG|apply And.intro|((first|apply Au|apply AE|apply Av|apply AF)<;>intro _))|(apply As<;>intro _)|apply AD|refine Af () ?_ ?_|((first|apply AK|apply AJ|apply AI|apply AH|apply AC|apply AB|apply AA|apply Az|apply Ax)<;>try dsimp only)|apply Af|(refine Prod.forall.2 ?_;intro _;try dsimp only)|(intro _;try dsimp only))<;>(try dsimp only at*)<;>(try simp only[Ai,List.length_cons,List.length_nil])<;>(try omega)
 ·simp [Ff, *]
 ·rename_i h _ _ h';unfold Ff;rw[if_neg h]
  have:= @a0J x.1.kids (x.2-x.1.text.length) (by omega);omega
 ·rename_i h _ _ h';simp [Ff,h])
def Tq(x:List Nd×Int):LS:= {
 ι:=Int×Int,inv:=fun i=>0≤i.1∧i.1≤x.1.length∧ -1≤i.2∧i.2≤2^50∧Fz (x.1.drop i.1.toNat) i.2=Dp x.1 x.2,
 regs:=fun i=>[(0,nds x.1),(1,.int .i64 i.2),(5,.int .i64 i.1)],als:=[],meas:=fun i=>x.1.length-i.1.toNat}
def Hq:Sig:= {X:=List Nd×Int,args:=fun x=>[nds x.1,.int .i64 x.2],pre:=fun x=> -1≤x.2∧x.2≤2^50∧Fe x.1,Y:=Unit,post:=fun x y=>True,res:=fun x y=> .int .i64 (Dp x.1 x.2),outs:=fun x y=>[.top,.top],keep:=false}
theorem a7Q:Ah G Tryz.prog 20 Hq:=
 vcFun_okP [(54,0,JR)] [] false (fun x=>[(5,Tq x)]) Tryz.func20 rfl (by decide) ⟨b9J,trivial⟩ (fun(x:List Nd×Int)=>(∀(y:Unit),True→True∧True∧True∧True)∧inR IntKind.i64 (x.2-(↑(List.length x.1):Int))∧Ab (decide (x.2-(↑(List.length x.1):Int)<(0:Int))) (rA Hq x [.int .i64 (-1:Int),.top,.top]) (eA (Tq x) [nds x.1,.int .i64 (x.2-(↑(List.length x.1):Int)),.int .i64 (0:Int)]∧∀(i:Int×Int),(0:Int)≤i.1∧i.1≤(↑(List.length x.1):Int)∧(-1:Int)≤i.2∧i.2≤(2:Int)^(50:Nat)∧Fz (List.drop (Int.toNat i.1) x.1) i.2=Dp x.1 x.2→Ab (decide (i.1<(↑(List.length x.1):Int))) (((0:Int)≤i.1∧i.1<(↑(List.length x.1):Int))∧∀(e:Nd),x.1[Int.toNat i.1]? =some e→cA JR [.agg [.int .i64 e.kind,.str e.text,Ad e.kids,.bool e.blank],.int .i64 i.2] fun x_1 y=>Ab (decide (Ff x_1.1 x_1.2<(0:Int))) (rA Hq x [.int .i64 (-1:Int),.top,.top]) (inR IntKind.i64 (i.1+(1:Int))∧eN (Tq x) i [nds x.1,.int .i64 (Ff x_1.1 x_1.2),.int .i64 (i.1+(1:Int))])) (rA Hq x [.int .i64 i.2,.top,.top]))) (fun x=>by kernel_rfl) fun(x:List Nd×Int) (hx: -1≤x.2∧x.2≤2^50∧Fe x.1)=>(by
 dsimp only[cA,eA,eN,Ad,Tq,Bg,nds,rA,JR,Hq,Aq,Aw,mvL,lnL,mvE,lnE,mvG,mvH,lnG,lnH,AZ]
 obtain⟨h1,h2,h3,h4⟩:=hx;obtain⟨l,n⟩:=x
 (repeat' first|(with_reducible first|rfl|exact True.intro|apply AG|apply And.intro|((first|apply Au|apply AE|apply Av|apply AF)<;>intro _))|(apply As<;>intro _)|apply AD|refine Af () ?_ ?_|((first|apply AK|apply AJ|apply AI|apply AH|apply AC|apply AB|apply AA|apply Az|apply Ax)<;>try dsimp only)|apply Af|(refine Prod.forall.2 ?_;intro _;try dsimp only)|(intro _;try dsimp only))<;>(try dsimp only at*)<;>(try simp only[Ai,List.length_cons,List.length_nil])<;>(try omega)
 all_goals try simp only at*
 ·simp [Dp, *]
 ·simp [Dp, *]
 ·rename_i h0 i s hi h e he _ _ hs
  rw[←hi.2.2.2.2,Dq he];simp [Fz,hs]
 ·rename_i h0 i s hi h e he _ _ hs
  have:= @Vq e s hi.2.2.1;omega
 ·rename_i h0 i s hi h e he _ _ hs
  rw[←hi.2.2.2.2,Dq he,BD hi.1];simp [Fz,hs]
 ·rename_i h0 i s hi h e he
  exact h4 e (AY he)
 ·rename_i h0 i s hi h
  rw[←hi.2.2.2.2,List.drop_eq_nil_of_le (by omega)];rfl)
def Tr(x:List Int):LS:= {
 ι:=Int,inv:=fun i=>0≤i∧i≤x.length,regs:=fun i=>[(0,Ad x),(3,AW (Dx 0 x i)),(4,.int .i64 i)],als:=[],meas:=fun i=>x.length-i.toNat}
def Np:Sig:= {X:=List Int,args:=fun x=>[Ad x],pre:=fun x=>x.length≤2^30,Y:=Unit,post:=fun x y=>True,res:=fun x y=>AW x,outs:=fun x y=>[.top],keep:=false}
theorem b9K:Ah G Tryz.prog 97 Np:=
 vcFun_okP [] [(38,⟨Int,CE⟩)] false (fun x=>[(3,Tr x)]) Tryz.func97 rfl (by decide) trivial (fun(x:List Int)=>(∀(y:Unit),True→(∀(x:Int),True∧True)∧True∧True)∧((0:Int)≤(↑(List.length x):Int)∧(↑(List.length x):Int)≤(↑(List.length x):Int)∧(↑(8:Nat):Int)*(↑(List.length x):Int)≤(2:Int)^(46:Nat)∧(↑(List.length x):Int)≤(2:Int)^(46:Nat))∧∃(x_1:Int),(0:Int)=x_1∧eA (Tr x) [Ad x,AW (List.replicate (Int.toNat (↑(List.length x):Int)) x_1),.int .i64 (0:Int)]∧∀(i:Int),(0:Int)≤i∧i≤(↑(List.length x):Int)→Ab (decide (i<(↑(List.length x):Int))) (((0:Int)≤i∧i<(↑(List.length x):Int))∧∀(e:Int),x[Int.toNat i]? =some e→((0:Int)≤i∧i<(↑(List.length (Dx (0:Int) x i)):Int))∧Int.toNat i<List.length (Dx (0:Int) x i)∧∀(x_2:Int),(Dx (0:Int) x i)[Int.toNat i]? =some x_2→∃(x':Int),((@List.nil AV)=[]∧(@List.nil AV)=[])∧e=x'∧inR IntKind.i64 (i+(1:Int))∧eN (Tr x) i [Ad x,AW (List.set (Dx (0:Int) x i) (Int.toNat i) x'),.int .i64 (i+(1:Int))]) (rA Np x [AW (Dx (0:Int) x i),.top])) (fun x=>by kernel_rfl) fun(x:List Int) (hx:x.length≤2^30)=>(by
 dsimp only[eA,eN,Ad,Tr,AW,rA,Np,Aq,Aw,AZ]
 have hx:x.length≤2^30:=hx
 (repeat' first|(with_reducible first|rfl|exact True.intro|apply AG|apply And.intro|((first|apply Au|apply AE|apply Av|apply AF)<;>intro _))|(apply As<;>intro _)|apply AD|refine Af () ?_ ?_|((first|apply AK|apply AJ|apply AI|apply AH|apply AC|apply AB|apply AA|apply Az|apply Ax)<;>try dsimp only)|apply Af|(refine Prod.forall.2 ?_;intro _;try dsimp only)|(intro _;try dsimp only))<;>(try dsimp only at*)<;>(try simp only[Ai,List.length_cons,List.length_nil])<;>(try omega)
 ·exact a9S
 ·rw[Qm (by omega)];omega
 ·rw[Qm (by omega)];omega
 ·rename_i i hi h e he _ _
  exact a0G hi.1 he
 ·exact a0F (by omega))
def Ts:Sig:= {X:=Nd,args:=fun x=>[.agg (ndA false x)],pre:=fun x=>x.kids.length≤2^30,Y:=Unit,post:=fun x y=>True,res:=fun x y=> .agg (ndA true x),outs:=fun x y=>[.top],keep:=false}
theorem b9L:Ah G Tryz.prog 56 Ts:=
 vcFun_okP [(97,0,Np)] [] false (fun x=>[]) Tryz.func56 rfl (by decide) ⟨b9K,trivial⟩ (fun(x:Nd)=>(∀(y:Unit),True→(True∧True∧(∀(x:Int),True∧True)∧True∧True)∧True∧True)∧cA Np [Ad x.kids] fun x_1 y=>∃(y:Unit),True∧x.kind=x.kind∧x.text=x.text∧AW x_1=AW x.kids∧x.blank=x.blank∧True) (fun x=>by kernel_rfl) fun(x:Nd) (hx:x.kids.length≤2^30)=>(by
 dsimp only[cA,Ad,AW,Np,Aq,Aw,mvL,lnL,mvE,lnE,mvG,mvH,lnG,lnH]
 have hx:x.kids.length≤2^30:=hx
 (repeat' first|(with_reducible first|rfl|exact True.intro|apply AG|apply And.intro|((first|apply Au|apply AE|apply Av|apply AF)<;>intro _))|(apply As<;>intro _)|apply AD|refine Af () ?_ ?_|((first|apply AK|apply AJ|apply AI|apply AH|apply AC|apply AB|apply AA|apply Az|apply Ax)<;>try dsimp only)|apply Af|(refine Prod.forall.2 ?_;intro _;try dsimp only)|(intro _;try dsimp only))<;>(try dsimp only at*)<;>(try simp only[Ai,List.length_cons,List.length_nil])<;>(try omega))
def Tt(x:List Nd):LS:= {
 ι:=Int,inv:=fun i=>0≤i∧i≤x.length,regs:=fun i=>[(0,nds x),(3,CS (Dx ⟨0,[],[],false⟩ x i)),(4,.int .i64 i)],als:=[],meas:=fun i=>x.length-i.toNat}
def Ft:Sig:= {X:=List Nd,args:=fun x=>[nds x],pre:=fun x=>x.length≤2^30∧∀e∈x,e.kids.length≤2^30,Y:=Unit,post:=fun x y=>True,res:=fun x y=>CS x,outs:=fun x y=>[.top],keep:=false}
theorem a7R:Ah G Tryz.prog 22 Ft:=
 vcFun_okP [(56,0,Ts)] [(24,⟨Nd,ndA true⟩)] false (fun x=>[(3,Tt x)]) Tryz.func22 rfl (by decide) ⟨b9L,trivial⟩ (fun(x:List Nd)=>(∀(y:Unit),True→(∀(x:Nd),True∧True∧(∀(x:Int),True∧True)∧True∧True)∧True∧True)∧((0:Int)≤(↑(List.length x):Int)∧(↑(List.length x):Int)≤(↑(List.length x):Int)∧(↑(56:Nat):Int)*(↑(List.length x):Int)≤(2:Int)^(46:Nat)∧(↑(List.length x):Int)≤(2:Int)^(46:Nat))∧∃(x_1:Nd),(0:Int)=x_1.kind∧ #[].toList=x_1.text∧x_1.kids=[]∧false=x_1.blank∧eA (Tt x) [nds x,CS (List.replicate (Int.toNat (↑(List.length x):Int)) x_1),.int .i64 (0:Int)]∧∀(i:Int),(0:Int)≤i∧i≤(↑(List.length x):Int)→Ab (decide (i<(↑(List.length x):Int))) (((0:Int)≤i∧i<(↑(List.length x):Int))∧∀(e:Nd),x[Int.toNat i]? =some e→cA Ts [.agg [.int .i64 e.kind,.str e.text,Ad e.kids,.bool e.blank]] fun x_2 y=>((0:Int)≤i∧i<(↑(List.length (Dx {kind:=(0:Int),text:=[],kids:=[],blank:=false} x i)):Int))∧Int.toNat i<List.length (Dx {kind:=(0:Int),text:=[],kids:=[],blank:=false} x i)∧∀(x_3:Nd),(Dx {kind:=(0:Int),text:=[],kids:=[],blank:=false} x i)[Int.toNat i]? =some x_3→∃(x':Nd),((@List.nil AV)=[]∧(@List.nil AV)=[])∧x_2.kind=x'.kind∧x_2.text=x'.text∧AW x_2.kids=AW x'.kids∧x_2.blank=x'.blank∧inR IntKind.i64 (i+(1:Int))∧eN (Tt x) i [nds x,CS (List.set (Dx {kind:=(0:Int),text:=[],kids:=[],blank:=false} x i) (Int.toNat i) x'),.int .i64 (i+(1:Int))]) (rA Ft x [CS (Dx {kind:=(0:Int),text:=[],kids:=[],blank:=false} x i),.top])) (fun x=>by kernel_rfl) fun(x:List Nd) (hx:x.length≤2^30∧∀e∈x,e.kids.length≤2^30)=>(by
 dsimp only[cA,eA,eN,Ad,Tt,Bg,nds,AW,CS,rA,Ts,Ft,Aq,Aw,mvL,lnL,mvE,lnE,mvG,mvH,lnG,lnH,AZ]
 obtain⟨h1,h2⟩:=hx
 (repeat' first|(with_reducible first|rfl|exact True.intro|apply AG|apply And.intro|((first|apply Au|apply AE|apply Av|apply AF)<;>intro _))|(apply As<;>intro _)|apply AD|refine Af () ?_ ?_|((first|apply AK|apply AJ|apply AI|apply AH|apply AC|apply AB|apply AA|apply Az|apply Ax)<;>try dsimp only)|apply Af|(refine Prod.forall.2 ?_;intro _;try dsimp only)|(intro _;try dsimp only))<;>(try dsimp only at*)<;>(try simp only[Ai,List.length_cons,List.length_nil])<;>(try omega)
 any_goals exact(⟨0,[],[],false⟩:Nd)
 all_goals(try rfl)
 ·rw[Qm (by omega)];omega
 ·rw[Qm (by omega)];omega
 ·rename_i i hi h e he _ _ _ _
  exact a0G hi.1 he
 ·rename_i i hi h e he
  exact h2 e (AY he)
 ·exact a0F (by omega))
def Tu(x:List Int×List Int):LS:= {
 ι:=Int,inv:=fun i=>0≤i∧i≤x.1.length∧x.1.take i.toNat=x.2.take i.toNat,regs:=fun i=>[(0,Ad x.1),(1,Ad x.2),(5,.int .i64 i)],als:=[],meas:=fun i=>x.1.length-i.toNat}
def JS:Sig:= {X:=List Int×List Int,args:=fun x=>[Ad x.1,Ad x.2],pre:=fun x=>x.1.length<2^63∧x.2.length<2^63,Y:=Unit,post:=fun x y=>True,res:=fun x y=> .bool (x.1==x.2),outs:=fun x y=>[.top,.top],keep:=false}
theorem b9M:Ah G Tryz.prog 103 JS:=
 vcFun_okP [] [] false (fun x=>[(4,Tu x)]) Tryz.func103 rfl (by decide) trivial (fun(x:List Int×List Int)=>(∀(y:Unit),True→True∧True∧True∧True)∧Ab ((↑(List.length x.1):Int) != (↑(List.length x.2):Int)) (rA JS x [.bool false,.top,.top]) (eA (Tu x) [Ad x.1,Ad x.2,.int .i64 (0:Int)]∧∀(i:Int),(0:Int)≤i∧i≤(↑(List.length x.1):Int)∧List.take (Int.toNat i) x.1=List.take (Int.toNat i) x.2→Ab (decide (i<(↑(List.length x.1):Int))) (true=true∧true=true∧((0:Int)≤i∧i<(↑(List.length x.1):Int))∧∀(e:Int),x.1[Int.toNat i]? =some e→((0:Int)≤i∧i<(↑(List.length x.2):Int))∧∀(e_1:Int),x.2[Int.toNat i]? =some e_1→Ab (e != e_1) (rA JS x [.bool false,.top,.top]) (inR IntKind.i64 (i+(1:Int))∧eN (Tu x) i [Ad x.1,Ad x.2,.int .i64 (i+(1:Int))])) (rA JS x [.bool true,.top,.top]))) (fun x=>by kernel_rfl) fun(x:List Int×List Int) (hx:x.1.length<2^63∧x.2.length<2^63)=>(by
 dsimp only[eA,eN,Ad,Tu,rA,JS,Aq,Aw,AZ]
 obtain⟨h1,h2⟩:=hx
 (repeat' first|(with_reducible first|rfl|exact True.intro|apply AG|apply And.intro|((first|apply Au|apply AE|apply Av|apply AF)<;>intro _))|(apply As<;>intro _)|apply AD|refine Af () ?_ ?_|((first|apply AK|apply AJ|apply AI|apply AH|apply AC|apply AB|apply AA|apply Az|apply Ax)<;>try dsimp only)|apply Af|(refine Prod.forall.2 ?_;intro _;try dsimp only)|(intro _;try dsimp only))<;>(try dsimp only at*)<;>(try simp only[Ai,List.length_cons,List.length_nil])<;>(try omega)
 ·rename_i h;exact Qn (fun e=>h (by rw[e]))
 ·rfl
 ·rename_i h i hi hl e he f hf hn
  exact Qn (fun e=>hn (by rw[e,hf] at he;exact(Option.some.inj he).symm))
 ·rename_i h i hi hl e he f hf hn
  exact Vo hi.1 hi.2.2 he hf hn
 ·rename_i h i hi hl
  exact a0H (Vp (by omega) hi.2.2 (by omega)))
def JT:Sig:= {X:=Nd×Nd,args:=fun x=>[.agg (ndA false x.1),.agg (ndA false x.2)],pre:=fun x=>GV x.1∧GV x.2,Y:=Unit,post:=fun x y=>True,res:=fun x y=> .bool (FM x.1 x.2),outs:=fun x y=>[.top,.top],keep:=false}
theorem b9N:Ah G Tryz.prog 63 JT:=
 vcFun_okP [(103,0,JS)] [] false (fun x=>[]) Tryz.func63 rfl (by decide) ⟨b9M,trivial⟩ (fun(x:Nd×Nd)=>(∀(y:Unit),True→True∧True∧True∧True)∧Ab (x.1.kind != x.2.kind) (rA JT x [.bool false,.top,.top]) (Ab (!x.1.text==x.2.text) (rA JT x [.bool false,.top,.top]) (cA JS [Ad x.1.kids,Ad x.2.kids] fun x_1 y=>Ab (!x_1.1==x_1.2) (rA JT x [.bool false,.top,.top]) (Ab (!x.1.blank==x.2.blank) (rA JT x [.bool false,.top,.top]) (rA JT x [.bool true,.top,.top]))))) (fun x=>by kernel_rfl) fun(x:Nd×Nd) (hx:GV x.1∧GV x.2)=>(by
 dsimp only[cA,Ad,Bg,rA,JS,JT,Aq,Aw,mvL,lnL,mvE,lnE,mvG,mvH,lnG,lnH]
 obtain⟨h1,h2⟩:=hx
 (repeat' first|(with_reducible first|rfl|exact True.intro|apply AG|apply And.intro|((first|apply Au|apply AE|apply Av|apply AF)<;>intro _))|(apply As<;>intro _)|apply AD|refine Af () ?_ ?_|((first|apply AK|apply AJ|apply AI|apply AH|apply AC|apply AB|apply AA|apply Az|apply Ax)<;>try dsimp only)|apply Af|(refine Prod.forall.2 ?_;intro _;try dsimp only)|(intro _;try dsimp only))<;>(try dsimp only at*)<;>(try simp only[Ai,List.length_cons,List.length_nil])<;>(try omega)
 ·simp [FM, *]
 ·simp [FM, *]
 ·simp [FM, *]
 ·simp [FM, *]
 ·simp [FM, *]
 ·exact h1.2
 ·exact h2.2)
def Tv(x:List Nd×List Nd):LS:= {
 ι:=Int,inv:=fun i=>0≤i∧i≤x.1.length∧x.1.take i.toNat=x.2.take i.toNat,regs:=fun i=>[(0,nds x.1),(1,nds x.2),(5,.int .i64 i)],als:=[],meas:=fun i=>x.1.length-i.toNat}
def Hr:Sig:= {X:=List Nd×List Nd,args:=fun x=>[nds x.1,nds x.2],pre:=fun x=>Fe x.1∧Fe x.2,Y:=Unit,post:=fun x y=>True,res:=fun x y=> .bool (FO x.1 x.2),outs:=fun x y=>[.top,.top],keep:=false}
theorem a7S:Ah G Tryz.prog 25 Hr:=
 vcFun_okP [(63,0,JT)] [] false (fun x=>[(4,Tv x)]) Tryz.func25 rfl (by decide) ⟨b9N,trivial⟩ (fun(x:List Nd×List Nd)=>(∀(y:Unit),True→True∧True∧True∧True)∧Ab ((↑(List.length x.1):Int) != (↑(List.length x.2):Int)) (rA Hr x [.bool false,.top,.top]) (eA (Tv x) [nds x.1,nds x.2,.int .i64 (0:Int)]∧∀(i:Int),(0:Int)≤i∧i≤(↑(List.length x.1):Int)∧List.take (Int.toNat i) x.1=List.take (Int.toNat i) x.2→Ab (decide (i<(↑(List.length x.1):Int))) (true=true∧true=true∧((0:Int)≤i∧i<(↑(List.length x.1):Int))∧∀(e:Nd),x.1[Int.toNat i]? =some e→((0:Int)≤i∧i<(↑(List.length x.2):Int))∧∀(e_1:Nd),x.2[Int.toNat i]? =some e_1→∃(x_1:Nd×Nd),(GV x_1.1∧GV x_1.2)∧e.kind=x_1.1.kind∧e.text=x_1.1.text∧Ad e.kids=Ad x_1.1.kids∧e.blank=x_1.1.blank∧e_1.kind=x_1.2.kind∧e_1.text=x_1.2.text∧Ad e_1.kids=Ad x_1.2.kids∧e_1.blank=x_1.2.blank∧∃(y0:Unit),(∀(y:Unit),True→AV.bool (FM x_1.1 x_1.2)=AV.bool (FM x_1.1 x_1.2))∧true=true∧Ab (!FM x_1.1 x_1.2) (rA Hr x [.bool false,.top,.top]) (inR IntKind.i64 (i+(1:Int))∧eN (Tv x) i [nds x.1,nds x.2,.int .i64 (i+(1:Int))])) (rA Hr x [.bool true,.top,.top]))) (fun x=>by kernel_rfl) fun(x:List Nd×List Nd) (hx:Fe x.1∧Fe x.2)=>(by
 dsimp only[eA,eN,Ad,Tv,Bg,nds,rA,Hr,Aq,Aw,AZ]
 obtain⟨h1,h2⟩:=hx;have hl1:=h1.1;have hl2:=h2.1
 (repeat' first|(with_reducible first|rfl|exact True.intro|apply AG|apply And.intro|((first|apply Au|apply AE|apply Av|apply AF)<;>intro _))|(apply As<;>intro _)|apply AD|refine Af () ?_ ?_|((first|apply AK|apply AJ|apply AI|apply AH|apply AC|apply AB|apply AA|apply Az|apply Ax)<;>try dsimp only)|apply Af|(refine Prod.forall.2 ?_;intro _;try dsimp only)|(intro _;try dsimp only))<;>(try dsimp only at*)<;>(try simp only[Ai,List.length_cons,List.length_nil])<;>(try omega)
 ·rename_i h;exact a0D (fun e=>h (by rw[e]))
 ·rfl
 ·rename_i h i hi hl e he f hf hn
  exact a0D (fun e=>by rw[e,hf] at he;rw[Option.some.inj he,a9R] at hn;cases hn)
 ·rename_i h i hi hl e he f hf hn
  exact Vo hi.1 hi.2.2 he hf (Vn.1 hn)
 ·rename_i h i hi hl e he f hf
  exact h1.2 _ (AY he)
 ·rename_i h i hi hl e he f hf
  exact h2.2 _ (AY hf)
 ·rename_i h i hi hl
  exact a9Q (Vp (by omega) hi.2.2 (by omega)))
structure Gr where
 notes:List Int
 member:Int
end Go.My
end
section
namespace Go.My
open Go.Eng
section
variable {α:Type} (lt:α→α→Bool)
variable {lt}
end
end Go.My
end
section
namespace Go.My
open Go.Eng Go.Proofs
variable {G:GInv}
def mkI(k:Int)(n:Nat):List Int:=(List.range n).map fun j:Nat=>k+(j:Int)
theorem PB{k:Int}{n:Nat}:(mkI k n).length=n:=by simp [mkI]
theorem b9O{k:Int}{l:List Int}{i:Nat}(h:i<l.length):(mkI k i++l.drop i).set i (k+i)=mkI k (i+1)++l.drop (i+1):=by
 rw[List.set_append_right _ _ (by rw[PB];exact Nat.le_refl i),PB,Nat.sub_self,List.drop_eq_getElem_cons h,List.set_cons_zero]
 simp [mkI,List.range_succ]
theorem b9P{k:Int}{l:List Int}{i:Nat}(h:l.length≤i)(h2:i≤l.length):mkI k i++l.drop i=mkI k l.length:=by
 obtain rfl:i=l.length:=by omega
 simp
theorem b9Q{p q:Nd→Prop}(a:Int)(b:List UInt8)(c:List Int)(d:Bool)(h1:p ⟨a,b,c,d⟩)(h2:q ⟨a,b,c,d⟩):∃x,p x∧q x:=⟨_,h1,h2⟩
theorem a7T{p q:Nd→Prop}(a:Int)(b:List UInt8)(c:List Int)(d:Bool)(h2:q ⟨a,b,c,d⟩)(h1:p ⟨a,b,c,d⟩):∃x,p x∧q x:=⟨_,h1,h2⟩
theorem Tw{k i:Int}{l:List Int}(h:0≤i∧i≤l.length):(mkI k i.toNat++l.drop i.toNat).length=l.length:=by rw[List.length_append,PB,List.length_drop];omega
theorem b9R{k i:Int}{l:List Int}(h:0≤i∧i≤l.length)(hl:i<((mkI k i.toNat++l.drop i.toNat).length:Int)):(mkI k i.toNat++l.drop i.toNat).set i.toNat (k+i)=mkI k (i+1).toNat++l.drop (i+1).toNat:=by
 rw[Tw h] at hl
 have:= @b9O k l i.toNat (by omega)
 rw[show((i.toNat:Nat):Int)=i by omega] at this
 rw[this,BD h.1]
theorem b9S{k i:Int}{l:List Int}(h:0≤i∧i≤l.length)(hl:¬i<((mkI k i.toNat++l.drop i.toNat).length:Int)):mkI k i.toNat++l.drop i.toNat=mkI k l.length:=by
 rw[Tw h] at hl
 exact b9P (by omega) (by omega)
theorem b9T{k i:Int}{l:List Int}(h:0≤i∧i≤l.length)(hl:¬i<((mkI k i.toNat++l.drop i.toNat).length:Int)):k+i=k+l.length:=by
 rw[Tw h] at hl;omega
def Tx:Sig:= {X:=List Int×Int,args:=fun x=>[AW x.1,.int .i64 x.2],pre:=fun x=>x.1.length≤2^40∧0≤x.2∧x.2≤2^60,Y:=Unit,post:=fun x y=>True,res:=fun x y=> .int .i64 (x.2+x.1.length),outs:=fun x y=>[AW (mkI x.2 x.1.length),.top],keep:=false,fixed:=[0]}
def Ty(x:List Int×Int):LS:= {ι:=Int,inv:=fun i=>0≤i∧i≤x.1.length,regs:=fun i=>[(0,AW (mkI x.2 i.toNat++x.1.drop i.toNat)),(1,.int .i64 (x.2+i)),(5,.int .i64 i)],als:=[],meas:=fun i=>x.1.length-i.toNat}
theorem b9U:Ah G Tryz.prog 65 Tx:=
 vcFun_okP [] [] false (fun x=>[(2,Ty x)]) Tryz.func65 rfl (by decide) trivial (fun(x:List Int×Int)=>(∀(y:Unit),True→True∧(∀(x:Int),True∧True)∧True∧True)∧eA (Ty x) [AW x.1,.int .i64 x.2,.int .i64 (0:Int)]∧∀(i:Int),(0:Int)≤i∧i≤(↑(List.length x.1):Int)→Ab (decide (i<(↑(List.length (mkI x.2 (Int.toNat i)++List.drop (Int.toNat i) x.1)):Int))) (((0:Int)≤i∧i<(↑(List.length (mkI x.2 (Int.toNat i)++List.drop (Int.toNat i) x.1)):Int))∧Int.toNat i<List.length (mkI x.2 (Int.toNat i)++List.drop (Int.toNat i) x.1)∧∀(x_1:Int),(mkI x.2 (Int.toNat i)++List.drop (Int.toNat i) x.1)[Int.toNat i]? =some x_1→∃(x':Int),((@List.nil AV)=[]∧(@List.nil AV)=[])∧x.2+i=x'∧inR IntKind.i64 (x.2+i+(1:Int))∧inR IntKind.i64 (i+(1:Int))∧eN (Ty x) i [AW (List.set (mkI x.2 (Int.toNat i)++List.drop (Int.toNat i) x.1) (Int.toNat i) x'),.int .i64 (x.2+i+(1:Int)),.int .i64 (i+(1:Int))]) (rA Tx x [.int .i64 (x.2+i),AW (mkI x.2 (Int.toNat i)++List.drop (Int.toNat i) x.1),.top])) (fun x=>by kernel_rfl) fun(x:List Int×Int) (hx:x.1.length≤2^40∧0≤x.2∧x.2≤2^60)=>(by
 dsimp only[eA,eN,Ty,AW,rA,Tx,Aq,Aw,AZ]
 obtain⟨h1,h2,h3⟩:=hx
 (repeat' first|(with_reducible first|rfl|exact True.intro|apply AG|apply And.intro|((first|apply Au|apply AE|apply Av|apply AF)<;>intro _))|(apply As<;>intro _)|apply AD|refine Af () ?_ ?_|((first|apply AK|apply AJ|apply AI|apply AH|apply AC|apply AB|apply AA|apply Az|apply Ax)<;>try dsimp only)|apply Af|(refine Prod.forall.2 ?_;intro _;try dsimp only)|(intro _;try dsimp only))
 all_goals first
  |rfl
  |(simp [mkI];done)
  |exact b9R ‹_› ‹_›
  |exact b9S ‹_› ‹_›
  |exact b9T ‹_› ‹_›
  |((try simp only[Ai]);omega)
  |(have hi:=(show(0:Int)≤_∧_≤(x.1.length:Int) by assumption);have hl:= @Tw x.2 _ x.1 hi;(try simp only[Ai]);omega)
  |skip)
end Go.My
end
section
namespace Go.My
open Go.Eng Go.Proofs
variable {G:GInv}
def EY:Nat→Nat→List UInt8
 |0,_=>[]
 |n+1,k=>if k=0 then [] else EY n (k/10)++[UInt8.ofNat (48+k % 10)]
def EK(k:Int):List UInt8:=if k≤0 then [109,48] else 109::EY 64 k.toNat
theorem a7U:∀ {n k:Nat},(EY n k).length≤n
 |0,k=>Nat.le_refl _
 |n+1,k=>by
  unfold EY;split
  ·simp
  ·have:= @a7U n (k/10);simp;omega
theorem a7V:∀ {n m k:Nat},k<10^n→k<10^m→EY n k=EY m k
 |0,0,k,_,_=>rfl
 |0,m+1,k,h,_=>by
  have:k=0:=by simp at h;exact h
  subst this;simp [EY]
 |n+1,0,k,_,h=>by
  have:k=0:=by simp at h;exact h
  subst this;simp [EY]
 |n+1,m+1,k,h1,h2=>by
  simp only[EY]
  split
  ·rfl
  ·rw[a7V (n:=n) (m:=m) (by rw[Nat.pow_succ] at h1;omega) (by rw[Nat.pow_succ] at h2;omega)]
def mdI(k0 k:Int)(out:List UInt8):Prop:=(0≤k∧k≤k0∧k0≤2^60)∧EY 64 k.toNat++out=EY 64 k0.toNat
theorem b9V{k:Int}(h:¬k≤0)(h2:k≤2^60):mdI k k []:=⟨by omega,by simp⟩
theorem b9W{k0 k:Int}{out:List UInt8}{c:UInt8}(h:mdI k0 k out)(hk:k>0)(hc:48+k.tmod 10=(c.toNat:Int)):mdI k0 (k.tdiv 10) ([c]++out):=by
 obtain⟨h1,h2⟩:=h
 have e1:k.tdiv 10=k/10:=Int.tdiv_eq_ediv_of_nonneg (by omega)
 have e2:k.tmod 10=k % 10:=Int.tmod_eq_emod_of_nonneg (by omega)
 rw[e1];rw[e2] at hc
 refine⟨by omega,?_⟩
 rw[←h2]
 have e3:(k/10).toNat=k.toNat/10:=by omega
 have e4:c=UInt8.ofNat (48+k.toNat % 10):=by
  apply UInt8.toNat_inj.1
  have:(48+k.toNat % 10) % 256=48+k.toNat % 10:=by omega
  simp;omega
 have e5:EY 64 k.toNat=EY 63 (k.toNat/10)++[UInt8.ofNat (48+k.toNat % 10)]:=by
  rw[EY,if_neg (by omega)]
 rw[e3,e5,e4,a7V (n:=64) (m:=63) (by omega) (by omega)];simp
theorem a7W{k0 k:Int}{out:List UInt8}(h:mdI k0 k out)(hk:¬k>0):out=EY 64 k0.toNat:=by
 obtain⟨h1,h2⟩:=h
 obtain rfl:k=0:=by omega
 rw[←h2];simp [EY]
theorem a7X{k0 k:Int}{out:List UInt8}(h:mdI k0 k out):out.length≤64:=by
 have:=congrArg List.length h.2
 have h2:= @a7U 64 k0.toNat
 simp at this;omega
theorem a7Y{k0 k:Int}{out:List UInt8}(h:mdI k0 k out)(hk:k>0):0≤k.tmod 10∧k.tmod 10<10∧0≤k.tdiv 10∧k.tdiv 10<k∧k≤2^60:=by
 have e1:k.tdiv 10=k/10:=Int.tdiv_eq_ediv_of_nonneg (by omega)
 have e2:k.tmod 10=k % 10:=Int.tmod_eq_emod_of_nonneg (by omega)
 have:=h.1
 rw[e1,e2];omega
theorem b9X{n:Int}(h1:0≤n)(h2:n≤255):inR .u8 n:=by
 unfold inR;simp [IntKind.min,IntKind.max,IntKind.bits,IntKind.signed];omega
theorem b9Y{n:Int}(h0:0≤n)(h1:n<256):∃c:UInt8,n=(c.toNat:Int):=⟨UInt8.ofNat n.toNat,by
 have:n.toNat % 256=n.toNat:=by omega
 simp;omega⟩
theorem b9Z{n:Int}{q:UInt8→Prop}(h0:0≤n)(h1:n<256)(h:∀c:UInt8,n=(c.toNat:Int)→q c):∃c:UInt8,n=(c.toNat:Int)∧q c:=by
 obtain⟨c,hc⟩:=b9Y h0 h1
 exact⟨c,hc,h c hc⟩
def Hs:Sig:= {X:=Int,args:=fun x=>[.int .i64 x],pre:=fun x=>x≤2^60,Y:=Unit,post:=fun x y=>True,res:=fun x y=> .str (EK x),outs:=fun x y=>[.top],keep:=false}
def Tz(x:Int):LS:= {ι:=Int×List UInt8,inv:=fun i=>mdI x i.1 i.2,regs:=fun i=>[(0,.int .i64 i.1),(3,.str i.2)],als:=[],meas:=fun i=>i.1.toNat}
theorem YS:Ah G Tryz.prog 64 Hs:=
 vcFun_okP [] [(22,⟨UInt8,Ih⟩)] false (fun x=>[(4,Tz x)]) Tryz.func64 rfl (by decide) trivial (fun(x:Int)=>(∀(y:Unit),True→True∧True∧True)∧Ab (decide (x≤(0:Int))) (rA Hs x [.str #[(109:UInt8),(48:UInt8)].toList,.top]) (eA (Tz x) [.int .i64 x,.str #[].toList]∧∀(i:Int×List UInt8),mdI x i.1 i.2→Ab (decide (i.1>(0:Int))) ((10:Int)≠(0:Int)∧inR IntKind.i64 ((48:Int)+Int.tmod i.1 (10:Int))∧inR IntKind.u8 ((48:Int)+Int.tmod i.1 (10:Int))∧∃(x_1:UInt8),(48:Int)+Int.tmod i.1 (10:Int)=(↑(UInt8.toNat x_1):Int)∧∃(l:List UInt8),AV.sl false 0 1 UInt8 Ih [x_1]=AV.sl false 0 1 UInt8 Ih l∧(↑(List.length l+List.length i.2):Int)≤IntKind.max IntKind.i64∧(10:Int)≠(0:Int)∧inR IntKind.i64 (Int.tdiv i.1 (10:Int))∧eN (Tz x) i [.int .i64 (Int.tdiv i.1 (10:Int)),.str (l++i.2)]) ((↑((1:Nat)+List.length i.2):Int)≤IntKind.max IntKind.i64∧rA Hs x [.str (#[(109:UInt8)].toList++i.2),.top]))) (fun x=>by kernel_rfl) fun(x:Int) (hx:x≤2^60)=>(by
 dsimp only[eA,eN,Tz,rA,Hs,Aq,Aw,AZ]
 have hx:x≤2^60:=hx
 (repeat' first|refine b9Z ?_ ?_ ?_|(with_reducible first|rfl|exact True.intro|apply AG|apply And.intro|((first|apply Au|apply AE|apply Av|apply AF)<;>intro _))|(apply As<;>intro _)|apply AD|refine Af () ?_ ?_|((first|apply AK|apply AJ|apply AI|apply AH|apply AC|apply AB|apply AA|apply Az|apply Ax)<;>try dsimp only)|apply Af|(refine Prod.forall.2 ?_;intro _;try dsimp only)|(intro _;try dsimp only))
 all_goals first
  |rfl
  |(simp [EK, *];done)
  |exact b9V ‹_› hx
  |exact b9W ‹_› ‹_› ‹_›
  |(rw[a7W ‹_› ‹_›,EK,if_neg ‹_›];rfl)
  |(have h0:=a7Y ‹_› ‹_›;exact b9X (by omega) (by omega))
  |(have h0:=a7Y ‹_› ‹_›;have h1:=a7X ‹_›;(try simp only[Ai,List.length_cons,List.length_nil]);omega)
  |(have h1:=a7X ‹_›;(try simp only[Ai,List.length_cons,List.length_nil]);omega)
  |skip
 have hd:=a7W (show mdI _ _ _ by assumption) ‹_›
 rw[hd,EK,if_neg ‹_›]
 rfl)
section
variable {α:Type}
def BS(sz:α→Nat):List α→Int
 |[]=>0
 |g::l=>sz g+BS sz l
def gMk(mk:Int→α→α)(sz:α→Nat)(k:Int):List α→List α
 |[]=>[]
 |g::l=>mk k g::gMk mk sz (k+sz g) l
variable {mk:Int→α→α} {sz:α→Nat}
theorem a7Z:∀ {l:List α} {g:α},BS sz (l++[g])=BS sz l+sz g
 |[],g=>by simp [BS]
 |x::l,g=>by simp only[List.cons_append,BS];rw[a7Z];omega
theorem a8a:∀ {l:List α} {g:α} {k:Int},gMk mk sz k (l++[g])=gMk mk sz k l++[mk (k+BS sz l) g]
 |[],g,k=>by simp [gMk,BS]
 |x::l,g,k=>by
  simp only[List.cons_append,gMk,BS];rw[a8a]
  rw[show k+(sz x:Int)+BS sz l=k+(sz x+BS sz l) by omega]
theorem TA:∀ {l:List α} {k:Int},(gMk mk sz k l).length=l.length
 |[],k=>rfl
 |x::l,k=>by simp [gMk,TA]
theorem a8b:∀ {l:List α} {n:Nat},(∀g∈l,sz g≤n)→0≤BS sz l∧BS sz l≤l.length*n
 |[],n,h=>by simp [BS]
 |x::l,n,h=>by
  have h1:=h x (by simp)
  have h2:=a8b (l:=l) (n:=n) fun g hg=>h g (by simp [hg])
  rw[BS,List.length_cons]
  have e:((l.length+1:Nat):Int)*(n:Int)=l.length*n+n:=by rw[Int.natCast_add,Int.add_mul];simp
  rw[e];omega
theorem c0a{l:List α}{k:Int}{i:Nat}{g:α}(h:l[i]? =some g):(gMk mk sz k (l.take i)++l.drop i).set i (mk (k+BS sz (l.take i)) g)=gMk mk sz k (l.take (i+1))++l.drop (i+1):=by
 have hi:=(Cm h).1
 have e:(gMk mk sz k (l.take i)).length=i:=by rw[TA,List.length_take];omega
 rw[List.set_append_right _ _ (by rw[e];exact Nat.le_refl i),e,Nat.sub_self,Dq h,List.set_cons_zero,CT h,a8a]
 simp
theorem c0b{L:List α}{i:Nat}{a b:α}(hb:(L.set i a)[i]? =some b):a=b:=by
 rw[List.getElem?_set] at hb
 split at hb
 ·split at hb
  ·exact Option.some.inj hb
  ·cases hb
 ·rename_i h;exact(h rfl).elim
def gSt(mk:Int→α→α)(sz:α→Nat)(k:Int)(l:List α)(i:Int):List α:=gMk mk sz k (l.take i.toNat)++l.drop i.toNat
def qgB(sz:α→Nat)(l:List α):Prop:=l.length≤1048576∧∀g∈l,sz g≤1048600
def qgI(sz:α→Nat)(l:List α)(i:Int):Prop:=qgB sz l∧0≤i∧i≤l.length
theorem TB{k i:Int}{l:List α}(h:qgI sz l i):(gSt mk sz k l i).length=l.length:=by
 have:=h.2
 rw[gSt,List.length_append,TA,List.length_take,List.length_drop];omega
theorem TC{k i:Int}{l:List α}{g:α}(h:qgI sz l i)(hg:(gSt mk sz k l i)[i.toNat]? =some g):l[i.toNat]? =some g:=by
 have hlt:=(Cm hg).1
 rw[TB h] at hlt
 have hl:(gMk mk sz k (l.take i.toNat)).length=i.toNat:=by rw[TA,List.length_take];omega
 rw[gSt,List.getElem?_append_right (by omega),hl,Nat.sub_self] at hg
 simpa using hg
theorem a8c{i:Int}{l:List α}(h:qgI sz l i):0≤BS sz (l.take i.toNat)∧BS sz (l.take i.toNat)≤2000000000000:=by
 have h1:= @a8b _ sz (l.take i.toNat) 1048600 fun g hg=>h.1.2 g (List.mem_of_mem_take hg)
 have h2:(l.take i.toNat).length≤1048576:=by rw[List.length_take];have:=h.1.1;omega
 omega
theorem a8d{k i:Int}{l:List α}(h:qgI sz l i)(hl:¬i<((gSt mk sz k l i).length:Int)):gSt mk sz k l i=gMk mk sz k l∧k+BS sz (l.take i.toNat)=k+BS sz l:=by
 rw[TB h] at hl
 rw[gSt,List.take_of_length_le (by omega),List.drop_eq_nil_of_le (by omega)];simp
theorem c0c{k:Int}{l:List α}:l=gSt mk sz k l 0:=by simp [gSt,gMk]
theorem c0d{k i:Int}{l:List α}{g b:α}(h:qgI sz l i)(hg:(gSt mk sz k l i)[i.toNat]? =some g)(hb:b=mk (k+BS sz (l.take i.toNat)) g):(gSt mk sz k l i).set i.toNat b=gSt mk sz k l (i+1):=by
 rw[hb,gSt,c0a (TC h hg),gSt,BD h.2.1]
theorem c0e{k i:Int}{l:List α}{g:α}(h:qgI sz l i)(hg:(gSt mk sz k l i)[i.toNat]? =some g):k+BS sz (l.take (i+1).toNat)=k+BS sz (l.take i.toNat)+sz g:=by
 rw[BD h.2.1,CT (TC h hg),a7Z];omega
theorem c0f{k i:Int}{l:List α}{g:α}(h:qgI sz l i)(hg:(gSt mk sz k l i)[i.toNat]? =some g):sz g≤1048600:=h.1.2 g (AY (TC h hg))
theorem c0g{k i:Int}{l:List α}{g:α}(h:qgI sz l i)(hg:(gSt mk sz k l i)[i.toNat]? =some g):qgI sz l (i+1):=by
 have:=(Cm (TC h hg)).1
 exact⟨h.1,by have:=h.2.1;omega,by have:=h.2.1;omega⟩
theorem a8e(hs:∀k g,sz (mk k g)=sz g)(hm:∀k g,mk k (mk k g)=mk k g):∀ {l:List α} {k:Int},gMk mk sz k (gMk mk sz k l)=gMk mk sz k l∧BS sz (gMk mk sz k l)=BS sz l
 |[],k=>⟨rfl,rfl⟩
 |g::l,k=>by
  simp only[gMk,BS,hs,hm]
  have:= @a8e hs hm l (k+sz g)
  rw[this.1,this.2];exact⟨rfl,rfl⟩
end
def mkN(k:Int)(x:Nd):Nd:=⟨k,EK (k+1),mkI (k+1+1) x.kids.length,(k+1+1+x.kids.length).tmod 3==0⟩
def szN(x:Nd):Nat:=x.kids.length+3
theorem c0h(k:Int)(x:Nd):szN (mkN k x)=szN x:=by simp [szN,mkN,PB]
theorem c0i(k:Int)(x:Nd):mkN k (mkN k x)=mkN k x:=by simp [mkN,PB]
def TD(x:List Nd×Int):LS:= {
 ι:=Int,inv:=qgI szN x.1,regs:=fun i=>[(0,CS (gSt mkN szN x.2 x.1 i)),(1,.int .i64 (x.2+BS szN (x.1.take i.toNat))),(5,.int .i64 i)],als:=[],meas:=fun i=>x.1.length-i.toNat}
def IR:Sig:= {X:=List Nd×Int,args:=fun x=>[CS x.1,.int .i64 x.2],pre:=fun x=>qgB szN x.1∧0≤x.2∧x.2≤2^50,Y:=Unit,post:=fun x y=>True,res:=fun x y=> .int .i64 (x.2+BS szN x.1),outs:=fun x y=>[CS (gMk mkN szN x.2 x.1),.top],keep:=false,fixed:=[0]}
theorem a8f:Ah G Tryz.prog 26 IR:=
 vcFun_okP [(65,0,Tx),(64,0,Hs)] [] false (fun x=>[(2,TD x)]) Tryz.func26 rfl (by decide) ⟨b9U,YS,trivial⟩ (fun(x:List Nd×Int)=>(∀(y:Unit),True→True∧(∀(x:Nd),True∧True∧(∀(x:Int),True∧True)∧True∧True)∧True∧True)∧eA (TD x) [CS x.1,.int .i64 x.2,.int .i64 (0:Int)]∧∀(i:Int),qgI szN x.1 i→Ab (decide (i<(↑(List.length (gSt mkN szN x.2 x.1 i)):Int))) (((0:Int)≤i∧i<(↑(List.length (gSt mkN szN x.2 x.1 i)):Int))∧Int.toNat i<List.length (gSt mkN szN x.2 x.1 i)∧∀(x_1:Nd),(gSt mkN szN x.2 x.1 i)[Int.toNat i]? =some x_1→∃(x':Nd),((@List.nil AV)=[]∧[AV.str x'.text,AW x'.kids,.bool x'.blank]=[.str x_1.text,AW x_1.kids,.bool x_1.blank])∧x.2+BS szN (List.take (Int.toNat i) x.1)=x'.kind∧inR IntKind.i64 (x.2+BS szN (List.take (Int.toNat i) x.1)+(1:Int))∧cA Hs [.int .i64 (x.2+BS szN (List.take (Int.toNat i) x.1)+(1:Int))] fun x_2 y=>((0:Int)≤i∧i<(↑(List.length (List.set (gSt mkN szN x.2 x.1 i) (Int.toNat i) x')):Int))∧Int.toNat i<List.length (List.set (gSt mkN szN x.2 x.1 i) (Int.toNat i) x')∧∀(x_3:Nd),(List.set (gSt mkN szN x.2 x.1 i) (Int.toNat i) x')[Int.toNat i]? =some x_3→∃(x'_1:Nd),([AV.int .i64 x'_1.kind]=[.int .i64 x_3.kind]∧[AW x'_1.kids,.bool x'_1.blank]=[AW x_3.kids,.bool x_3.blank])∧EK x_2=x'_1.text∧inR IntKind.i64 (x.2+BS szN (List.take (Int.toNat i) x.1)+(1:Int)+(1:Int))∧((0:Int)≤i∧i<(↑(List.length (List.set (List.set (gSt mkN szN x.2 x.1 i) (Int.toNat i) x') (Int.toNat i) x'_1)):Int))∧Int.toNat i<List.length (List.set (List.set (gSt mkN szN x.2 x.1 i) (Int.toNat i) x') (Int.toNat i) x'_1)∧∀(z:Nd),(List.set (List.set (gSt mkN szN x.2 x.1 i) (Int.toNat i) x') (Int.toNat i) x'_1)[Int.toNat i]? =some z→∃(x_4:List Int×Int),(List.length x_4.1≤(1099511627776:Nat)∧(0:Int)≤x_4.2∧x_4.2≤(2:Int)^(60:Nat))∧AW z.kids=AW x_4.1∧x.2+BS szN (List.take (Int.toNat i) x.1)+(1:Int)+(1:Int)=x_4.2∧∀(y:Unit),True→∃(z':Nd),[AV.int .i64 z'.kind,.str z'.text,AW z'.kids,.bool z'.blank]=[.int .i64 z.kind,.str z.text,AW (mkI x_4.2 (List.length x_4.1)),.bool z.blank]∧(3:Int)≠(0:Int)∧((0:Int)≤i∧i<(↑(List.length (List.set (List.set (List.set (gSt mkN szN x.2 x.1 i) (Int.toNat i) x') (Int.toNat i) x'_1) (Int.toNat i) z')):Int))∧Int.toNat i<List.length (List.set (List.set (List.set (gSt mkN szN x.2 x.1 i) (Int.toNat i) x') (Int.toNat i) x'_1) (Int.toNat i) z')∧∀(x_5:Nd),(List.set (List.set (List.set (gSt mkN szN x.2 x.1 i) (Int.toNat i) x') (Int.toNat i) x'_1) (Int.toNat i) z')[Int.toNat i]? =some x_5→∃(x'_2:Nd),([AV.int .i64 x'_2.kind,.str x'_2.text,AW x'_2.kids]=[.int .i64 x_5.kind,.str x_5.text,AW x_5.kids]∧(@List.nil AV)=[])∧(Int.tmod (x_4.2+(↑(List.length x_4.1):Int)) (3:Int)==(0:Int))=x'_2.blank∧inR IntKind.i64 (x_4.2+(↑(List.length x_4.1):Int)+(1:Int))∧inR IntKind.i64 (i+(1:Int))∧eN (TD x) i [CS (List.set (List.set (List.set (List.set (gSt mkN szN x.2 x.1 i) (Int.toNat i) x') (Int.toNat i) x'_1) (Int.toNat i) z') (Int.toNat i) x'_2),.int .i64 (x_4.2+(↑(List.length x_4.1):Int)+(1:Int)),.int .i64 (i+(1:Int))]) (rA IR x [.int .i64 (x.2+BS szN (List.take (Int.toNat i) x.1)),CS (gSt mkN szN x.2 x.1 i),.top])) (fun x=>by kernel_rfl) fun(x:List Nd×Int) (hx:qgB szN x.1∧0≤x.2∧x.2≤2^50)=>(by
 dsimp only[cA,eA,eN,TD,Bg,AW,CS,rA,IR,Hs,Aq,Aw,mvL,lnL,mvE,lnE,mvG,mvH,lnG,lnH,AZ]
 obtain⟨h1,h2,h3⟩:=hx
 (repeat' first|refine b9Q _ _ (mkI _ _) _ rfl ?_|refine a7T _ (EK _) _ _ ⟨rfl,?_⟩ ⟨rfl,rfl⟩|refine a7T _ _ _ _ ⟨rfl,?_⟩ ⟨rfl,rfl⟩|(with_reducible first|rfl|exact True.intro|apply AG|apply And.intro|((first|apply Au|apply AE|apply Av|apply AF)<;>intro _))|(apply As<;>intro _)|apply AD|refine Af () ?_ ?_|((first|apply AK|apply AJ|apply AI|apply AH|apply AC|apply AB|apply AA|apply Az|apply Ax)<;>try dsimp only)|apply Af|(refine Prod.forall.2 ?_;intro _;try dsimp only)|(intro _;try dsimp only))
 all_goals(repeat(rename(List.set _ _ _)[_]? =some _=>hq;have e:=c0b hq;clear hq;subst e))
 all_goals(try(rename Nd=>zz;obtain⟨_,_,_,_⟩:=zz;dsimp only at*))
 all_goals(try simp only[List.length_set,List.set_set])
 all_goals first
  |rfl
  |exact c0c
  |exact⟨h1,by omega,by omega⟩
  |(simp [BS];done)
  |exact(show qgI _ _ _ by assumption).2.1
  |assumption
  |exact(a8d ‹_› ‹_›).1
  |exact(a8d ‹_› ‹_›).2
  |exact c0d ‹_› ‹_› rfl
  |exact c0g ‹_› ‹_›
  |(have ht:=c0e (k:=x.2) (show qgI _ _ _ by assumption) ‹_›;rw[ht];simp [szN];omega)
  |(have hi:=(show qgI _ _ _ by assumption);have hl:= @TB _ mkN szN x.2 _ _ hi;have ht:=a8c hi;have:=hi.2.1;have:=hi.2.2;have:=h1.1;(try simp only[Ai]);omega)
  |(have hi:=(show qgI _ _ _ by assumption);have hl:= @TB _ mkN szN x.2 _ _ hi;have ht:=a8c hi;have:=hi.2.1;have:=hi.2.2;have hg:=c0f hi ‹_›;simp only[szN] at hg;have:=h1.1;(try simp only[Ai]);omega)
  |skip)
end Go.My
end
section
namespace Go.My
open Go.Eng
structure Rw where
 stop:Int→Option Nd
 tgt:Int→Int→Int→Int
 par:Int→Int→Int→Bool
theorem YT{α:Type}(sz:α→Nat):∀l:List α,0≤BS sz l
 |[]=>Int.le_refl 0
 |x::l=>by have:=YT sz l;simp only[BS];omega
theorem a8g(l:List Nd)(k:Int):BS szN (gMk mkN szN k l)=BS szN l:=(a8e c0h c0i).2
def PC(l:List Nd):Prop:=l.length≤1048576∧∀e∈l,e.text.length≤1048576∧e.kids.length≤1048576
theorem YU{l:List Nd}(h:¬Dp l 1048576<0):PC l:=by
 have:=NY (l:=l) (n:=1048576) (by omega) h
 exact⟨by have:=this.1;omega,fun e he=>by have:=this.2 e he;omega⟩
theorem a8h{l:List Nd}(h:PC l):Fe l:=⟨by have:=h.1;omega,fun e he=>by have:=h.2 e he;exact⟨by omega,by omega⟩⟩
theorem a8i{l:List Nd}(h:PC l):qgB szN l:=⟨h.1,fun e he=>by have:=h.2 e he;simp [szN];omega⟩
def c0j(l:List Nd):Prop:=l.length≤2^30∧∀e∈l,e.kids.length≤2^30
theorem a8j{l:List Nd}(h:PC l):c0j l:=⟨by have:=h.1;omega,fun e he=>by have:=h.2 e he;omega⟩
theorem YV{l:List Nd}(h:PC l):CH l:=⟨by have:=h.1;omega,fun e he=>by have:=h.2 e he;exact⟨by omega,by omega⟩⟩
end Go.My
end
section
namespace Go.My
open Go.Eng Go.Proofs
variable {G:GInv}
theorem c0k{l:List Int}{n:Int}(h:¬FQ l n<0):FQ l n≤n:=by
 unfold FQ at h ⊢;split<;>omega
theorem a8k:∀ {l:List Nd} {n:Int},¬Fz l n<0→(((l.map fun x=>x.text.length).sum:Nat):Int)≤n
 |[],n,h=>by unfold Fz at h;simp;omega
 |x::l,n,h=>by
  unfold Fz at h
  split at h
  ·omega
  ·rename_i hx
   have h1:=a8k h
   unfold Ff at hx h1
   split at hx
   ·omega
   ·rename_i hy
    rw[if_neg hy] at h1
    have h2:=c0k hx
    rw[List.map_cons,List.sum_cons];omega
theorem c0l(l:List Nd):txS l=(l.map fun x=>x.text.length).sum:=by
 unfold txS;congr 1
 refine List.ext_getElem (by simp) fun i h1 h2=> ?_
 simp only[List.length_map,List.length_range] at h1
 simp only[List.getElem_map,List.getElem_range]
 rw[Bd (x:=l[i]) (by simp)]
theorem c0m{l:List Nd}(h:¬Dp l 1048576<0):txS l≤1048576:=by
 unfold Dp at h
 split at h
 ·omega
 ·have h1:=a8k h
  rw[c0l]
  omega
theorem a8l{l:List Nd}{n:Nat}(h:¬Dp l 1048576<0)(hn:1048576≤n):trN l n:=by
 have hr:=YU h
 exact⟨YV hr,gB3 h,by have:=hr.1;omega,c0m h⟩
theorem c0n{ns:List Nd}{n:Nat}{k i w bud:Int}(hx:trN ns n):(wnR ns n k i w bud).ls.length≤2^41:=by
 cases h:Gf ns k i with
 |false=>rw[Tk h];simp
 |true=>
  have h1:=YM (w:=w) (bud:=bud) hx h
  have h2:=IP (s:=⟨[],1⟩) h1.v
  have h3:=h1.rm
  rw[wnR,if_pos h]
  exact Nat.le_trans h2 h3
theorem c0o{ns:List Nd}{n:Nat}{w bud:Int}(hx:trN ns n):(wfR ns n w bud).ls.length≤2^41:=by
 cases h:DZ ns with
 |false=>rw[YO h];simp
 |true=>
  have h1:=YQ (w:=w) (bud:=bud) hx h
  have h2:=Po (s:=⟨[],1⟩) (fun h=>IP h) h1.v
  have h3:=h1.rm
  rw[wfR,if_pos h]
  exact Nat.le_trans h2 h3
def Ce(k:Int)(n:Nat):List (List UInt8):=(List.range n).map fun j:Nat=>EK (k+(j:Int))
theorem JU{k:Int}{n:Nat}:(Ce k n).length=n:=by simp [Ce]
theorem c0p{k:Int}{n i:Nat}(h:i<n):(Ce k n)[i]? =some (EK (k+i)):=by simp [Ce,h]
theorem c0q{k:Int}{l:List (List UInt8)}{i:Nat}(h:i<l.length):(Ce k i++l.drop i).set i (EK (k+i))=Ce k (i+1)++l.drop (i+1):=by
 rw[List.set_append_right _ _ (by rw[JU];exact Nat.le_refl i),JU,Nat.sub_self,List.drop_eq_getElem_cons h,List.set_cons_zero]
 simp [Ce,List.range_succ]
theorem TE{k i:Int}{l:List (List UInt8)}(h:0≤i∧i≤l.length):(Ce k i.toNat++l.drop i.toNat).length=l.length:=by rw[List.length_append,JU,List.length_drop];omega
theorem c0r{k i:Int}{l:List (List UInt8)}(h:0≤i∧i≤l.length)(hl:i<((Ce k i.toNat++l.drop i.toNat).length:Int)):(Ce k i.toNat++l.drop i.toNat).set i.toNat (EK (k+i))=Ce k (i+1).toNat++l.drop (i+1).toNat:=by
 rw[TE h] at hl
 have:= @c0q k l i.toNat (by omega)
 rw[show((i.toNat:Nat):Int)=i by omega] at this
 rw[this,BD h.1]
theorem c0s{k i:Int}{l:List (List UInt8)}(h:0≤i∧i≤l.length)(hl:¬i<((Ce k i.toNat++l.drop i.toNat).length:Int)):Ce k i.toNat++l.drop i.toNat=Ce k l.length:=by
 rw[TE h] at hl
 rw[show i.toNat=l.length by omega];simp
theorem c0t{k i:Int}{l:List (List UInt8)}(h:0≤i∧i≤l.length)(hl:¬i<((Ce k i.toNat++l.drop i.toNat).length:Int)):k+i=k+l.length:=by
 rw[TE h] at hl;omega
def JV:Sig:= {X:=List (List UInt8)×List (List UInt8),args:=fun x=>[Ej x.1,Ej x.2],pre:=fun x=>x.1.length<2^62∧x.2.length<2^62,Y:=Unit,post:=fun x y=>True,res:=fun x y=> .bool (x.1==x.2),outs:=fun x y=>[.top,.top],keep:=false}
def TF(x:List (List UInt8)×List (List UInt8)):LS:= {ι:=Int,inv:=fun i=>0≤i∧i≤x.1.length∧x.1.take i.toNat=x.2.take i.toNat,regs:=fun i=>[(0,Ej x.1),(1,Ej x.2),(5,.int .i64 i)],als:=[],meas:=fun i=>x.1.length-i.toNat}
theorem c0u:Ah G Tryz.prog 62 JV:=
 vcFun_okP [] [] false (fun x=>[(4,TF x)]) Tryz.func62 rfl (by decide) trivial (fun(x:List (List UInt8)×List (List UInt8))=>(∀(y:Unit),True→True∧True∧True∧True)∧Ab ((↑(List.length x.1):Int) != (↑(List.length x.2):Int)) (rA JV x [.bool false,.top,.top]) (eA (TF x) [AV.sl false 0 1 (List UInt8) Ag x.1,AV.sl false 0 1 (List UInt8) Ag x.2,.int .i64 (0:Int)]∧∀(i:Int),(0:Int)≤i∧i≤(↑(List.length x.1):Int)∧List.take (Int.toNat i) x.1=List.take (Int.toNat i) x.2→Ab (decide (i<(↑(List.length x.1):Int))) (true=true∧true=true∧((0:Int)≤i∧i<(↑(List.length x.1):Int))∧∀(e:List UInt8),x.1[Int.toNat i]? =some e→((0:Int)≤i∧i<(↑(List.length x.2):Int))∧∀(e_1:List UInt8),x.2[Int.toNat i]? =some e_1→Ab (!e==e_1) (rA JV x [.bool false,.top,.top]) (inR IntKind.i64 (i+(1:Int))∧eN (TF x) i [AV.sl false 0 1 (List UInt8) Ag x.1,AV.sl false 0 1 (List UInt8) Ag x.2,.int .i64 (i+(1:Int))])) (rA JV x [.bool true,.top,.top]))) (fun x=>by kernel_rfl) fun(x:List (List UInt8)×List (List UInt8)) (hx:x.1.length<2^62∧x.2.length<2^62)=>(by
 dsimp only[eA,eN,TF,rA,JV,Ej,Aq,Aw,AZ]
 obtain⟨h1,h2⟩:=hx
 (repeat' first|(with_reducible first|rfl|exact True.intro|apply AG|apply And.intro|((first|apply Au|apply AE|apply Av|apply AF)<;>intro _))|(apply As<;>intro _)|apply AD|refine Af () ?_ ?_|((first|apply AK|apply AJ|apply AI|apply AH|apply AC|apply AB|apply AA|apply Az|apply Ax)<;>try dsimp only)|apply Af|(refine Prod.forall.2 ?_;intro _;try dsimp only)|(intro _;try dsimp only))<;>(try dsimp only at*)<;>(try simp only[Ai,List.length_cons,List.length_nil])<;>(try omega)
 ·rename_i h;exact Qn (fun e=>h (by rw[e]))
 ·rfl
 ·rename_i h i hi hl e he f hf hn
  exact Qn (fun e=>by rw[e,hf] at he;rw[Option.some.inj he] at hn;simp at hn)
 ·rename_i h i hi hl e he f hf hn
  exact Vo hi.1 hi.2.2 he hf (by simpa using hn)
 ·rename_i h i hi hl
  exact a0H (Vp (by omega) hi.2.2 (by omega)))
def Fu:Sig:= {X:=List (List UInt8)×Int×List (List UInt8)×Int,args:=fun x=>[.agg [Ej x.1,.int .i64 x.2.1],.agg [Ej x.2.2.1,.int .i64 x.2.2.2]],pre:=fun x=>x.1.length<2^62∧x.2.2.1.length<2^62,Y:=Unit,post:=fun x y=>True,res:=fun x y=> .bool (x.1==x.2.2.1&&decide (x.2.1=x.2.2.2)),outs:=fun x y=>[.top,.top],keep:=false}
theorem a8m:Ah G Tryz.prog 24 Fu:=
 vcFun_okP [(62,0,JV)] [] false (fun x=>[]) Tryz.func24 rfl (by decide) ⟨c0u,trivial⟩ (fun(x:List (List UInt8)×Int×List (List UInt8)×Int)=>(∀(y:Unit),True→True∧True∧True∧True)∧cA JV [AV.sl false 0 1 (List UInt8) Ag x.1,AV.sl false 0 1 (List UInt8) Ag x.2.2.1] fun x_1 y=>Ab (!x_1.1==x_1.2) (rA Fu x [.bool false,.top,.top]) (Ab (x.2.1 != x.2.2.2) (rA Fu x [.bool false,.top,.top]) (rA Fu x [.bool true,.top,.top]))) (fun x=>by kernel_rfl) fun(x:List (List UInt8)×Int×List (List UInt8)×Int) (hx:x.1.length<2^62∧x.2.2.1.length<2^62)=>(by
 dsimp only[cA,rA,JV,Fu,Ej,Aq,Aw,mvL,lnL,mvE,lnE,mvG,mvH,lnG,lnH]
 obtain⟨h1,h2⟩:=hx
 (repeat' first|(with_reducible first|rfl|exact True.intro|apply AG|apply And.intro|((first|apply Au|apply AE|apply Av|apply AF)<;>intro _))|(apply As<;>intro _)|apply AD|refine Af () ?_ ?_|((first|apply AK|apply AJ|apply AI|apply AH|apply AC|apply AB|apply AA|apply Az|apply Ax)<;>try dsimp only)|apply Af|(refine Prod.forall.2 ?_;intro _;try dsimp only)|(intro _;try dsimp only))
 all_goals first
  |assumption
  |(simp [*];done)
  |(simp_all;done)
  |skip)
def Nq:Sig:= {X:=List (List UInt8)×Int,args:=fun x=>[Cg x.1,.int .i64 x.2],pre:=fun x=>x.1.length≤2^41∧0≤x.2∧x.2≤2^50,Y:=Unit,post:=fun x y=>True,res:=fun x y=> .int .i64 (x.2+x.1.length),outs:=fun x y=>[Cg (Ce x.2 x.1.length),.top],keep:=false,fixed:=[0,0]}
def TG(x:List (List UInt8)×Int):LS:= {ι:=Int,inv:=fun i=>0≤i∧i≤x.1.length,regs:=fun i=>[(0,Cg (Ce x.2 i.toNat++x.1.drop i.toNat)),(1,.int .i64 (x.2+i)),(5,.int .i64 i)],als:=[],meas:=fun i=>x.1.length-i.toNat}
theorem c0v:Ah G Tryz.prog 66 Nq:=
 vcFun_okP [(64,0,Hs)] [] false (fun x=>[(2,TG x)]) Tryz.func66 rfl (by decide) ⟨YS,trivial⟩ (fun(x:List (List UInt8)×Int)=>(∀(y:Unit),True→True∧(∀(x:List UInt8),True∧True)∧True∧True)∧eA (TG x) [AV.sl true 0 1 (List UInt8) Ag x.1,.int .i64 x.2,.int .i64 (0:Int)]∧∀(i:Int),(0:Int)≤i∧i≤(↑(List.length x.1):Int)→Ab (decide (i<(↑(List.length (Ce x.2 (Int.toNat i)++List.drop (Int.toNat i) x.1)):Int))) (cA Hs [.int .i64 (x.2+i)] fun x_1 y=>((0:Int)≤i∧i<(↑(List.length (Ce x.2 (Int.toNat i)++List.drop (Int.toNat i) x.1)):Int))∧Int.toNat i<List.length (Ce x.2 (Int.toNat i)++List.drop (Int.toNat i) x.1)∧∀(x_2:List UInt8),(Ce x.2 (Int.toNat i)++List.drop (Int.toNat i) x.1)[Int.toNat i]? =some x_2→∃(x':List UInt8),((@List.nil AV)=[]∧(@List.nil AV)=[])∧EK x_1=x'∧inR IntKind.i64 (x.2+i+(1:Int))∧inR IntKind.i64 (i+(1:Int))∧eN (TG x) i [AV.sl true 0 1 (List UInt8) Ag (List.set (Ce x.2 (Int.toNat i)++List.drop (Int.toNat i) x.1) (Int.toNat i) x'),.int .i64 (x.2+i+(1:Int)),.int .i64 (i+(1:Int))]) (rA Nq x [.int .i64 (x.2+i),AV.sl true 0 1 (List UInt8) Ag (Ce x.2 (Int.toNat i)++List.drop (Int.toNat i) x.1),.top])) (fun x=>by kernel_rfl) fun(x:List (List UInt8)×Int) (hx:x.1.length≤2^41∧0≤x.2∧x.2≤2^50)=>(by
 dsimp only[cA,eA,eN,TG,Cg,rA,Nq,Hs,Aq,Aw,mvL,lnL,mvE,lnE,mvG,mvH,lnG,lnH,AZ]
 obtain⟨h1,h2,h3⟩:=hx
 (repeat' first|(with_reducible first|rfl|exact True.intro|apply AG|apply And.intro|((first|apply Au|apply AE|apply Av|apply AF)<;>intro _))|(apply As<;>intro _)|apply AD|refine Af () ?_ ?_|((first|apply AK|apply AJ|apply AI|apply AH|apply AC|apply AB|apply AA|apply Az|apply Ax)<;>try dsimp only)|apply Af|(refine Prod.forall.2 ?_;intro _;try dsimp only)|(intro _;try dsimp only))
 all_goals first
  |rfl
  |(simp [Ce];done)
  |exact c0r ‹_› ‹_›
  |exact c0s ‹_› ‹_›
  |exact c0t ‹_› ‹_›
  |((try simp only[Ai]);omega)
  |(have hi:=(show(0:Int)≤_∧_≤(x.1.length:Int) by assumption);have hl:= @TE x.2 _ x.1 hi;(try simp only[Ai]);omega)
  |skip)
def Lw:Sig:= {X:=List (List UInt8)×Int,args:=fun x=>[Ej x.1,.int .i64 x.2],pre:=fun x=>x.1=Ce x.2 x.1.length∧x.1.length≤2^41∧0≤x.2∧x.2≤2^50,Y:=Unit,post:=fun x y=>True,res:=fun x y=> .int .i64 (x.2+x.1.length),outs:=fun x y=>[.top,.top],keep:=false}
def TH(x:List (List UInt8)×Int):LS:= {ι:=Int,inv:=fun i=>0≤i∧i≤x.1.length,regs:=fun i=>[(0,Ej x.1),(1,.int .i64 (x.2+i)),(5,.int .i64 i)],als:=[],meas:=fun i=>x.1.length-i.toNat}
theorem c0w:Ah G Tryz.prog 67 Lw:=
 vcFun_okP [(64,0,Hs)] [] false (fun x=>[(2,TH x)]) Tryz.func67 rfl (by decide) ⟨YS,trivial⟩ (fun(x:List (List UInt8)×Int)=>(∀(y:Unit),True→True∧True∧True∧True)∧eA (TH x) [AV.sl false 0 1 (List UInt8) Ag x.1,.int .i64 x.2,.int .i64 (0:Int)]∧∀(i:Int),(0:Int)≤i∧i≤(↑(List.length x.1):Int)→Ab (decide (i<(↑(List.length x.1):Int))) (true=true∧true=true∧((0:Int)≤i∧i<(↑(List.length x.1):Int))∧∀(e:List UInt8),x.1[Int.toNat i]? =some e→∃(x_1:Int),x_1≤(2:Int)^(60:Nat)∧x.2+i=x_1∧∃(y0:Unit),(∀(y:Unit),True→AV.str (EK x_1)=AV.str (EK x_1))∧true=true∧Ab (!e==EK x_1) (rA Lw x [.int .i64 (-1:Int),.top,.top]) (inR IntKind.i64 (x.2+i+(1:Int))∧inR IntKind.i64 (i+(1:Int))∧eN (TH x) i [AV.sl false 0 1 (List UInt8) Ag x.1,.int .i64 (x.2+i+(1:Int)),.int .i64 (i+(1:Int))])) (rA Lw x [.int .i64 (x.2+i),.top,.top])) (fun x=>by kernel_rfl) fun(x:List (List UInt8)×Int) (hx:x.1=Ce x.2 x.1.length∧x.1.length≤2^41∧0≤x.2∧x.2≤2^50)=>(by
 dsimp only[eA,eN,TH,rA,Lw,Ej,Aq,Aw,AZ]
 obtain⟨h0,h1,h2,h3⟩:=hx
 have hat:∀ {i:Int} {v:List UInt8},0≤i→x.1[i.toNat]? =some v→v=EK (x.2+i):=by
  intro i v hi hv
  have hl:=(Cm hv).1
  rw[h0,c0p hl] at hv
  simp only[Option.some.injEq] at hv
  rw[←hv,show((i.toNat:Nat):Int)=i by omega]
 (repeat' first|(with_reducible first|rfl|exact True.intro|apply AG|apply And.intro|((first|apply Au|apply AE|apply Av|apply AF)<;>intro _))|(apply As<;>intro _)|apply AD|refine Af () ?_ ?_|((first|apply AK|apply AJ|apply AI|apply AH|apply AC|apply AB|apply AA|apply Az|apply Ax)<;>try dsimp only)|apply Af|(refine Prod.forall.2 ?_;intro _;try dsimp only)|(intro _;try dsimp only))
 all_goals try(have hv:=hat (show 0≤_ from And.left ‹_›) ‹_›)
 all_goals first
  |rfl
  |((try simp only[Ai]);omega)
  |(exfalso;rename(_==EK _)=false=>hq;rw[hv] at hq;simp at hq)
  |skip)
def IT:Sig:= {X:=List (List UInt8)×Int×Int,args:=fun x=>[.agg [Cg x.1,.int .i64 x.2.1],.int .i64 x.2.2],pre:=fun x=>x.1.length≤2^41∧0≤x.2.2∧x.2.2≤2^50,Y:=Unit,post:=fun x y=>True,res:=fun x y=> .int .i64 (x.2.2+x.1.length),outs:=fun x y=>[.agg [Cg (Ce x.2.2 x.1.length),.top],.top],keep:=false,fixed:=[0]}
theorem a8n:Ah G Tryz.prog 27 IT:=
 vcFun_okP [(66,0,Nq)] [] false (fun x=>[]) Tryz.func27 rfl (by decide) ⟨c0v,trivial⟩ (fun(x:List (List UInt8)×Int×Int)=>(∀(y:Unit),True→True∧((∀(x:List UInt8),True∧True)∧True∧True)∧True∧True)∧cA Nq [AV.sl true 0 1 (List UInt8) Ag x.1,.int .i64 x.2.2] fun x_1 y=>rA IT x [.int .i64 (x_1.2+(↑(List.length x_1.1):Int)),.agg [AV.sl true 0 1 (List UInt8) Ag (Ce x_1.2 (List.length x_1.1)),.int .i64 x.2.1],.top]) (fun x=>by kernel_rfl) fun(x:List (List UInt8)×Int×Int) (hx:x.1.length≤2^41∧0≤x.2.2∧x.2.2≤2^50)=>(by
 dsimp only[cA,Cg,rA,Nq,IT,Aq,Aw,mvL,lnL,mvE,lnE,mvG,mvH,lnG,lnH]
 obtain⟨h1,h2,h3⟩:=hx
 (repeat' first|(with_reducible first|rfl|exact True.intro|apply AG|apply And.intro|((first|apply Au|apply AE|apply Av|apply AF)<;>intro _))|(apply As<;>intro _)|apply AD|refine Af () ?_ ?_|((first|apply AK|apply AJ|apply AI|apply AH|apply AC|apply AB|apply AA|apply Az|apply Ax)<;>try dsimp only)|apply Af|(refine Prod.forall.2 ?_;intro _;try dsimp only)|(intro _;try dsimp only))
 all_goals first
  |rfl
  |omega
  |skip)
def GR:Sig:= {X:=List (List UInt8)×Int×Int,args:=fun x=>[.agg [Ej x.1,.int .i64 x.2.1],.int .i64 x.2.2],pre:=fun x=>x.1=Ce x.2.2 x.1.length∧x.1.length≤2^41∧0≤x.2.2∧x.2.2≤2^50,Y:=Unit,post:=fun x y=>True,res:=fun x y=> .int .i64 (x.2.2+x.1.length),outs:=fun x y=>[.top,.top],keep:=false}
theorem a8o:Ah G Tryz.prog 28 GR:=
 vcFun_okP [(67,0,Lw)] [] false (fun x=>[]) Tryz.func28 rfl (by decide) ⟨c0w,trivial⟩ (fun(x:List (List UInt8)×Int×Int)=>(∀(y:Unit),True→True∧True∧True∧True)∧cA Lw [AV.sl false 0 1 (List UInt8) Ag x.1,.int .i64 x.2.2] fun x_1 y=>Ab (decide (x_1.2+(↑(List.length x_1.1):Int)<(0:Int))) (rA GR x [.int .i64 (-1:Int),.top,.top]) (rA GR x [.int .i64 (x_1.2+(↑(List.length x_1.1):Int)),.top,.top])) (fun x=>by kernel_rfl) fun(x:List (List UInt8)×Int×Int) (hx:x.1=Ce x.2.2 x.1.length∧x.1.length≤2^41∧0≤x.2.2∧x.2.2≤2^50)=>(by
 dsimp only[cA,rA,Lw,GR,Ej,Aq,Aw,mvL,lnL,mvE,lnE,mvG,mvH,lnG,lnH]
 obtain⟨h0,h1,h2,h3⟩:=hx
 (repeat' first|(with_reducible first|rfl|exact True.intro|apply AG|apply And.intro|((first|apply Au|apply AE|apply Av|apply AF)<;>intro _))|(apply As<;>intro _)|apply AD|refine Af () ?_ ?_|((first|apply AK|apply AJ|apply AI|apply AH|apply AC|apply AB|apply AA|apply Az|apply Ax)<;>try dsimp only)|apply Af|(refine Prod.forall.2 ?_;intro _;try dsimp only)|(intro _;try dsimp only))
 all_goals first
  |rfl
  |assumption
  |omega
  |skip)
end Go.My
end
