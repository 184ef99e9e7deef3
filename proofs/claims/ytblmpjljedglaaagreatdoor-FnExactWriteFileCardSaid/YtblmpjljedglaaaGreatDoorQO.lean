/- joined -/
import Derived.Test.YtblmpjljedglaaaGreatDoorQN
import Derived.Test.YtblmpjljedglaaaGreatDoorProg
set_option linter.unusedSimpArgs false
set_option linter.unusedVariables false
section
namespace Go.My
open Go.Eng Go.Proofs
variable {G:GInv}
theorem a8p(k:Int)(n:Nat):Ce k n=Ce k (Ce k n).length:=by rw[JU]
attribute [local irreducible] wnR wfR
def Gg(n:Nat):Sig:= {X:=List Nd×Int×Int×Int×Int,args:=fun x=>[nds x.1,.int .i64 x.2.1,.int .i64 x.2.2.1,.int .i64 x.2.2.2.1,.int .i64 x.2.2.2.2],pre:=fun x=>Fe x.1∧1048576≤n,Y:=Unit,post:=fun x y=>True,res:=fun x y=> .bool true,outs:=fun x y=>[.top,.top,.top,.top,.top],keep:=false}
set_option maxHeartbeats 4000000 in
theorem lawWriteNode_ok(n:Nat):Ah G Tryz.prog 4 (Gg n):=
 vcFun_okP [(20,0,Hq),(22,0,Ft),(21,0,(To n)),(23,0,(Py n)),(24,0,Fu),(25,0,Hr),(26,0,IR),(27,0,IT),(28,0,GR)] [] false (fun x=>[]) Tryz.func4 rfl (by decide) ⟨a7Q,a7R,(b9F n (SM n)),(b9y n),a8m,a7S,a8f,a8n,a8o,trivial⟩ (fun(x:List Nd×Int×Int×Int×Int)=>(∀(y:Unit),True→True∧True∧True∧True∧True∧True∧True)∧cA Hq [nds x.1,.int .i64 (1048576:Int)] fun x_1 y=>Ab (decide (Dp x_1.1 x_1.2<(0:Int))) (rA (Gg n) x [.bool true,.top,.top,.top,.top,.top]) (cA Ft [nds x.1] fun x_2 y=>cA (To n) [CS x_2,.int .i64 x.2.1,.int .i64 x.2.2.1,.int .i64 x.2.2.2.1,.int .i64 x.2.2.2.2] fun x_3 y=>cA Ft [nds x.1] fun x_4 y=>cA (Py n) [CS x_4,.int .i64 x.2.1,.int .i64 x.2.2.1,.int .i64 x.2.2.2.1,.int .i64 x.2.2.2.2] fun x_5 y=>cA Fu [.agg [AV.sl true 0 1 (List UInt8) Ag (wnR x_5.1 n x_5.2.1 x_5.2.2.1 x_5.2.2.2.1 x_5.2.2.2.2).ls,.int .i64 (wnR x_5.1 n x_5.2.1 x_5.2.2.1 x_5.2.2.2.1 x_5.2.2.2.2).st],.agg [AV.sl true 0 1 (List UInt8) Ag (wnR x_3.1 n x_3.2.1 x_3.2.2.1 x_3.2.2.2.1 x_3.2.2.2.2).ls,.int .i64 (wnR x_3.1 n x_3.2.1 x_3.2.2.1 x_3.2.2.2.1 x_3.2.2.2.2).st]] fun x_6 y=>Ab (!(x_6.1==x_6.2.2.1&&decide (x_6.2.1=x_6.2.2.2))) (rA (Gg n) x [.bool false,.top,.top,.top,.top,.top]) (cA Ft [nds x.1] fun x_7 y=>cA Hr [CS x_4,CS x_7] fun x_8 y=>Ab (!FO x_8.1 x_8.2) (rA (Gg n) x [.bool false,.top,.top,.top,.top,.top]) (cA IR [CS x_4,.int .i64 (1:Int)] fun x_9 y=>Ab (decide (x_9.2+BS szN x_9.1<(0:Int))) (rA (Gg n) x [.bool false,.top,.top,.top,.top,.top]) (cA Fu [.agg [AV.sl true 0 1 (List UInt8) Ag (wnR x_5.1 n x_5.2.1 x_5.2.2.1 x_5.2.2.2.1 x_5.2.2.2.2).ls,.int .i64 (wnR x_5.1 n x_5.2.1 x_5.2.2.1 x_5.2.2.2.1 x_5.2.2.2.2).st],.agg [AV.sl true 0 1 (List UInt8) Ag (wnR x_3.1 n x_3.2.1 x_3.2.2.1 x_3.2.2.2.1 x_3.2.2.2.2).ls,.int .i64 (wnR x_3.1 n x_3.2.1 x_3.2.2.1 x_3.2.2.2.1 x_3.2.2.2.2).st]] fun x_10 y=>Ab (!(x_10.1==x_10.2.2.1&&decide (x_10.2.1=x_10.2.2.2))) (rA (Gg n) x [.bool false,.top,.top,.top,.top,.top]) (cA IT [.agg [AV.sl true 0 1 (List UInt8) Ag (wnR x_5.1 n x_5.2.1 x_5.2.2.1 x_5.2.2.2.1 x_5.2.2.2.2).ls,.int .i64 (wnR x_5.1 n x_5.2.1 x_5.2.2.1 x_5.2.2.2.1 x_5.2.2.2.2).st],.int .i64 (1:Int)] fun x_11 y=>cA GR [.agg [AV.sl true 0 1 (List UInt8) Ag (Ce x_11.2.2 (List.length x_11.1)),.int .i64 (wnR x_5.1 n x_5.2.1 x_5.2.2.1 x_5.2.2.2.1 x_5.2.2.2.2).st],.int .i64 (1:Int)] fun x_12 y=>Ab (decide (x_12.2.2+(↑(List.length x_12.1):Int)<(0:Int))) (rA (Gg n) x [.bool false,.top,.top,.top,.top,.top]) (Ab (x_12.2.2+(↑(List.length x_12.1):Int) != x_11.2.2+(↑(List.length x_11.1):Int)) (rA (Gg n) x [.bool false,.top,.top,.top,.top,.top]) (cA Ft [nds x.1] fun x_13 y=>cA (Py n) [CS x_13,.int .i64 x.2.1,.int .i64 x.2.2.1,.int .i64 x.2.2.2.1,.int .i64 x.2.2.2.2] fun x_14 y=>cA Fu [.agg [AV.sl true 0 1 (List UInt8) Ag (wnR x_14.1 n x_14.2.1 x_14.2.2.1 x_14.2.2.2.1 x_14.2.2.2.2).ls,.int .i64 (wnR x_14.1 n x_14.2.1 x_14.2.2.1 x_14.2.2.2.1 x_14.2.2.2.2).st],.agg [AV.sl true 0 1 (List UInt8) Ag (wnR x_3.1 n x_3.2.1 x_3.2.2.1 x_3.2.2.2.1 x_3.2.2.2.2).ls,.int .i64 (wnR x_3.1 n x_3.2.1 x_3.2.2.1 x_3.2.2.2.1 x_3.2.2.2.2).st]] fun x_15 y=>Ab (!(x_15.1==x_15.2.2.1&&decide (x_15.2.1=x_15.2.2.2))) (rA (Gg n) x [.bool false,.top,.top,.top,.top,.top]) (cA GR [.agg [AV.sl true 0 1 (List UInt8) Ag (Ce x_11.2.2 (List.length x_11.1)),.int .i64 (wnR x_5.1 n x_5.2.1 x_5.2.2.1 x_5.2.2.2.1 x_5.2.2.2.2).st],.int .i64 (1:Int)] fun x_16 y=>Ab (decide (x_16.2.2+(↑(List.length x_16.1):Int)<(0:Int))) (rA (Gg n) x [.bool false,.top,.top,.top,.top,.top]) (Ab (x_16.2.2+(↑(List.length x_16.1):Int) != x_11.2.2+(↑(List.length x_11.1):Int)) (rA (Gg n) x [.bool false,.top,.top,.top,.top,.top]) (rA (Gg n) x [.bool true,.top,.top,.top,.top,.top]))))))))))) (fun x=>by kernel_rfl) fun(x:List Nd×Int×Int×Int×Int) (hx:Fe x.1∧1048576≤n)=>(by
 dsimp only[cA,Bg,nds,CS,Cg,rA,Hr,Fu,GR,Gg,IR,IT,Hq,Ft,Py,To,Ej,Aq,Aw,mvL,lnL,mvE,lnE,mvG,mvH,lnG,lnH]
 obtain⟨ns,k,i,w,bud⟩:=x;dsimp only at hx ⊢
 obtain⟨h1,hn⟩:=hx
 have h1:Fe ns:=h1
 simp only[a0I]
 (repeat' first|(with_reducible first|rfl|exact True.intro|apply AG|apply And.intro|((first|apply Au|apply AE|apply Av|apply AF)<;>intro _))|(apply As<;>intro _)|apply AD|refine Af () ?_ ?_|((first|apply AK|apply AJ|apply AI|apply AH|apply AC|apply AB|apply AA|apply Az|apply Ax)<;>try dsimp only)|apply Af|(refine Prod.forall.2 ?_;intro _;try dsimp only)|(intro _;try dsimp only))
 all_goals try(have hr:=YU (show¬Dp ns 1048576<0 by assumption);have ht:= @a8l ns n ‹_› hn;have hl:= @c0n ns n k i w bud ht;have hn1:=YT szN ns)
 all_goals try rw[a8g] at*
 all_goals first
  |exact h1
  |assumption
  |omega
  |contradiction
  |exact gB6 ‹_›
  |exact a8h hr
  |exact YV hr
  |exact a8j hr
  |exact a8i hr
  |exact a8p _ _
  |(rw[JU];omega)
  |exact gB3 ‹_›
  |(exact fun e he=>gB4 ‹_› he)
  |(have:=gB4 ‹_› ‹_›;omega)
  |(simp only[ne_eq,not_true_eq_false] at*;done)
  |(exfalso;simp [a0E] at*;done)
  |(exfalso;simp [JU] at*;done)
  |skip)
def Gh(n:Nat):Sig:= {X:=List Nd×Int×Int,args:=fun x=>[nds x.1,.int .i64 x.2.1,.int .i64 x.2.2],pre:=fun x=>Fe x.1∧1048576≤n,Y:=Unit,post:=fun x y=>True,res:=fun x y=> .bool true,outs:=fun x y=>[.top,.top,.top],keep:=false}
set_option maxHeartbeats 4000000 in
theorem c0x(n:Nat):Ah G Tryz.prog 5 (Gh n):=
 vcFun_okP [(20,0,Hq),(22,0,Ft),(29,0,(Tp n)),(30,0,(PA n)),(24,0,Fu),(25,0,Hr),(26,0,IR),(27,0,IT),(28,0,GR)] [] false (fun x=>[]) Tryz.func5 rfl (by decide) ⟨a7Q,a7R,(b9H n (SM n)),(b9z n),a8m,a7S,a8f,a8n,a8o,trivial⟩ (fun(x:List Nd×Int×Int)=>(∀(y:Unit),True→True∧True∧True∧True∧True)∧cA Hq [nds x.1,.int .i64 (1048576:Int)] fun x_1 y=>Ab (decide (Dp x_1.1 x_1.2<(0:Int))) (rA (Gh n) x [.bool true,.top,.top,.top]) (cA Ft [nds x.1] fun x_2 y=>cA (Tp n) [CS x_2,.int .i64 x.2.1,.int .i64 x.2.2] fun x_3 y=>cA Ft [nds x.1] fun x_4 y=>cA (PA n) [CS x_4,.int .i64 x.2.1,.int .i64 x.2.2] fun x_5 y=>cA Fu [.agg [AV.sl true 0 1 (List UInt8) Ag (wfR x_5.1 n x_5.2.1 x_5.2.2).ls,.int .i64 (wfR x_5.1 n x_5.2.1 x_5.2.2).st],.agg [AV.sl true 0 1 (List UInt8) Ag (wfR x_3.1 n x_3.2.1 x_3.2.2).ls,.int .i64 (wfR x_3.1 n x_3.2.1 x_3.2.2).st]] fun x_6 y=>Ab (!(x_6.1==x_6.2.2.1&&decide (x_6.2.1=x_6.2.2.2))) (rA (Gh n) x [.bool false,.top,.top,.top]) (cA Ft [nds x.1] fun x_7 y=>cA Hr [CS x_4,CS x_7] fun x_8 y=>Ab (!FO x_8.1 x_8.2) (rA (Gh n) x [.bool false,.top,.top,.top]) (cA IR [CS x_4,.int .i64 (1:Int)] fun x_9 y=>Ab (decide (x_9.2+BS szN x_9.1<(0:Int))) (rA (Gh n) x [.bool false,.top,.top,.top]) (cA Fu [.agg [AV.sl true 0 1 (List UInt8) Ag (wfR x_5.1 n x_5.2.1 x_5.2.2).ls,.int .i64 (wfR x_5.1 n x_5.2.1 x_5.2.2).st],.agg [AV.sl true 0 1 (List UInt8) Ag (wfR x_3.1 n x_3.2.1 x_3.2.2).ls,.int .i64 (wfR x_3.1 n x_3.2.1 x_3.2.2).st]] fun x_10 y=>Ab (!(x_10.1==x_10.2.2.1&&decide (x_10.2.1=x_10.2.2.2))) (rA (Gh n) x [.bool false,.top,.top,.top]) (cA IT [.agg [AV.sl true 0 1 (List UInt8) Ag (wfR x_5.1 n x_5.2.1 x_5.2.2).ls,.int .i64 (wfR x_5.1 n x_5.2.1 x_5.2.2).st],.int .i64 (1:Int)] fun x_11 y=>cA GR [.agg [AV.sl true 0 1 (List UInt8) Ag (Ce x_11.2.2 (List.length x_11.1)),.int .i64 (wfR x_5.1 n x_5.2.1 x_5.2.2).st],.int .i64 (1:Int)] fun x_12 y=>Ab (decide (x_12.2.2+(↑(List.length x_12.1):Int)<(0:Int))) (rA (Gh n) x [.bool false,.top,.top,.top]) (Ab (x_12.2.2+(↑(List.length x_12.1):Int) != x_11.2.2+(↑(List.length x_11.1):Int)) (rA (Gh n) x [.bool false,.top,.top,.top]) (cA Ft [nds x.1] fun x_13 y=>cA (PA n) [CS x_13,.int .i64 x.2.1,.int .i64 x.2.2] fun x_14 y=>cA Fu [.agg [AV.sl true 0 1 (List UInt8) Ag (wfR x_14.1 n x_14.2.1 x_14.2.2).ls,.int .i64 (wfR x_14.1 n x_14.2.1 x_14.2.2).st],.agg [AV.sl true 0 1 (List UInt8) Ag (wfR x_3.1 n x_3.2.1 x_3.2.2).ls,.int .i64 (wfR x_3.1 n x_3.2.1 x_3.2.2).st]] fun x_15 y=>Ab (!(x_15.1==x_15.2.2.1&&decide (x_15.2.1=x_15.2.2.2))) (rA (Gh n) x [.bool false,.top,.top,.top]) (cA GR [.agg [AV.sl true 0 1 (List UInt8) Ag (Ce x_11.2.2 (List.length x_11.1)),.int .i64 (wfR x_5.1 n x_5.2.1 x_5.2.2).st],.int .i64 (1:Int)] fun x_16 y=>Ab (decide (x_16.2.2+(↑(List.length x_16.1):Int)<(0:Int))) (rA (Gh n) x [.bool false,.top,.top,.top]) (Ab (x_16.2.2+(↑(List.length x_16.1):Int) != x_11.2.2+(↑(List.length x_11.1):Int)) (rA (Gh n) x [.bool false,.top,.top,.top]) (rA (Gh n) x [.bool true,.top,.top,.top]))))))))))) (fun x=>by kernel_rfl) fun(x:List Nd×Int×Int) (hx:Fe x.1∧1048576≤n)=>(by
 dsimp only[cA,Bg,nds,CS,Cg,rA,Hr,Fu,GR,Gh,IR,IT,Hq,Ft,PA,Tp,Ej,Aq,Aw,mvL,lnL,mvE,lnE,mvG,mvH,lnG,lnH]
 obtain⟨ns,w,bud⟩:=x;dsimp only at hx ⊢
 obtain⟨h1,hn⟩:=hx
 have h1:Fe ns:=h1
 simp only[a0I]
 (repeat' first|(with_reducible first|rfl|exact True.intro|apply AG|apply And.intro|((first|apply Au|apply AE|apply Av|apply AF)<;>intro _))|(apply As<;>intro _)|apply AD|refine Af () ?_ ?_|((first|apply AK|apply AJ|apply AI|apply AH|apply AC|apply AB|apply AA|apply Az|apply Ax)<;>try dsimp only)|apply Af|(refine Prod.forall.2 ?_;intro _;try dsimp only)|(intro _;try dsimp only))
 all_goals try(have hr:=YU (show¬Dp ns 1048576<0 by assumption);have ht:= @a8l ns n ‹_› hn;have hl:= @c0o ns n w bud ht;have hn1:=YT szN ns)
 all_goals try rw[a8g] at*
 all_goals first
  |exact h1
  |assumption
  |omega
  |contradiction
  |exact gB6 ‹_›
  |exact a8h hr
  |exact YV hr
  |exact a8j hr
  |exact a8i hr
  |exact a8p _ _
  |(rw[JU];omega)
  |exact gB3 ‹_›
  |(exact fun e he=>gB4 ‹_› he)
  |(have:=gB4 ‹_› ‹_›;omega)
  |(simp only[ne_eq,not_true_eq_false] at*;done)
  |(exfalso;simp [a0E] at*;done)
  |(exfalso;simp [JU] at*;done)
  |skip)
end Go.My
end
section
namespace Go.Eng
open Go.ChangeShapes Go.WideShapes Go.ChangeAt Go.RowKit
theorem after_below{Z Z' A':FP}{w w':World}(h:After Z w (fun _=>False) Z' w' A'):Below w.heap.size w w':=
 ⟨h.os,h.tape,h.output,h.size,fun b hb=>(h.old b hb (fun x=>x)).1⟩
theorem a8q{H:Type}{enc:TypeId×Value→H}{P:Program}(hl:laidOutB P=true){W W':World}(hb:Below W.heap.size W W'):
 ∀(ts:List TypeId) (vs:List Value) (ds:List (DataW H)) (ps:List MemPlace),ts.all (fun t=>P.readableRec t&&decide (t<P.types.size))=true→
 DataW.TrodAll enc P W 0 (fun _=>true) true ts vs ds ps→(∀x∈ps,x.block<W.heap.size)→DataW.TrodAll enc P W' 0 (fun b=>decide (b<W.heap.size)) true ts vs ds ps
 |[],[],[],ps,ht,h,hp=>h
 |t::ts,v::vs,d::ds,ps,ht,h,hp=>by
  obtain⟨p,q,h1,h2,rfl⟩:=h
  simp only[List.all_cons,Bool.and_eq_true,decide_eq_true_eq] at ht
  exact⟨p,q,Below.trod hl ht.1.1 ht.1.2 h1 hb (fun x hx=>hp x (List.mem_append_left _ hx)),a8q hl hb ts vs ds q ht.2 h2 (fun x hx=>hp x (List.mem_append_right _ hx)),rfl⟩
 |[],_::_,_,_,ht,h,hp=>h.elim
 |[],[],_::_,_,ht,h,hp=>h.elim
 |_::_,[],_,_,ht,h,hp=>h.elim
 |_::_,_::_,[],_,ht,h,hp=>h.elim
theorem c0y{H:Type}{enc:TypeId×Value→H}{P:Program}{f:Func}{s:ChangeSpec}{W W':World}{args:Array Value}{ds gs:List (DataW H)}{before:List MemPlace}{tb:TypeId}
 (hl:laidOutB P=true) (ht:f.params.toList.all (fun t=>P.readableRec t&&decide (t<P.types.size))=true) (hv:s.vars=[])
 (hs:s.fn H ds= {results:=[.lit (.bool true)],args:=ds}) (hr:f.resultTypes= #[tb]) (htb:P.underlying tb=some .bool)
 (hW:DataW.Whole enc P f.params.toList s.vars false W args.toList ds gs before) (hb:Below W.heap.size W W'):s.post enc P f false true false false W args (.bool true) W':=by
 have hW0:=hW
 obtain⟨p,q,hA,hV,rfl,hfz,hnd⟩:=hW
 rw[hv] at hV
 obtain⟨rfl,rfl⟩:=trodVars_none hV
 refine⟨ds,[],p++[],[],p,[],hW0,?_,?_,?_,hb.frame _,fun h=>by cases h⟩
 ·simp only[List.append_nil]
  rw[hs,hr]
  exact trodAll_mk1 (shut_bool htb _)
 ·simp only[List.append_nil]
  rw[hs]
  exact a8q hl hb _ _ _ _ ht hA (fun x hx=>by simpa using hW0.lt x (by simpa using hx))
 ·simp only[List.append_nil]
  rw[hs,hv]
  rfl
def noG:GInv:=⟨fun _ _=>True,fun _ _ _ _ _ _=>trivial⟩
def c0z(X:Type)(args:X→List AV)(pre:X→Prop)(n:Nat):Sig:=
 {X:=X,args:=args,pre:=pre,Y:=Unit,post:=fun _ _=>True,res:=fun _ _=> .bool true,outs:=fun _ _=>List.replicate n .top,keep:=false}
theorem c0A{H:Type}{enc:TypeId×Value→H}{P:Program}{fi:FuncId}{f:Func}{s:ChangeSpec}{W:World}{args:Array Value}{ds gs:List (DataW H)}{before:List MemPlace}{tb:TypeId}
 {X:Type} {azs:X→List AV} {pre:X→Prop} {n:Nat} {G:GInv} (hc:Ah G P fi (c0z X azs pre n)) (hG:G.p (Old W) W)
 (hl:laidOutB P=true) (ht:f.params.toList.all (fun t=>P.readableRec t&&decide (t<P.types.size))=true) (hv:s.vars=[])
 (hs:s.fn H ds= {results:=[.lit (.bool true)],args:=ds}) (hr:f.resultTypes= #[tb]) (htb:P.underlying tb=some .bool)
 (hW:DataW.Whole enc P f.params.toList s.vars false W args.toList ds gs before)
 (ho:∃x,pre x∧AS (Old W) W (azs x) args.toList (fun _=>False)):
 Calls P fi args W fun e W'=>∃v,e= .returned v∧s.post enc P f false true false false W args v W':=by
 obtain⟨x,hx,hrel⟩:=ho
 refine(hc.2 x hx (Old W) W args.toList _ hG hrel (fun b h=>h.elim) trivial).mono fun e W' h=> ?_
 obtain⟨y,v,Z',A',_,rfl,hr2,hafter⟩:=h
 simp only[AS] at hr2
 obtain⟨v',us,A1,A2,e1,_,h1,_⟩:=hr2
 simp only[List.cons.injEq] at e1
 obtain⟨rfl,_⟩:=e1
 have:v= .bool true:=by
  have h1:Aj Z' W' (.bool true) v A1:=h1
  simp only[Aj] at h1;exact h1.1
 subst this
 exact⟨_,rfl,c0y hl ht hv hs hr htb hW (after_below hafter)⟩
end Go.Eng
end
section
namespace Go.Eng
open Go.ChangeShapes Go.WideShapes Go.ChangeAt Go.RowKit
theorem a8r{H:Type}{enc:TypeId×Value→H}{P:Program}{t:TypeId}{α:Type}{f:α→AV}{good:α→Prop}(hO:Opens P t (fun x=>[f x]) good){W:World}{v:Value}(hc:Cu v)
 {d:DataW H} {ps:List MemPlace} (h:DataW.Trod enc P W 0 (fun _=>true) true t v d ps):∃x,good x∧Aj (Old W) W (f x) v (fun _=>False):=by
 obtain⟨fuel,hf⟩:=h
 rw[LF hc] at hf
 obtain⟨x,hg,hr⟩:=hO enc W _ _ fuel _ _ hf
 exact⟨x,hg,Iy.1 hr⟩
theorem a8s{H:Type}{enc:TypeId×Value→H}{P:Program}{t:TypeId}{k:IntKind}(ht:P.underlying t=some (.int k)){W:World}{r:Reach}{base:Nat}{v:Value}(hv:Value.okWide P W r base t v)
 {d:DataW H} {ps:List MemPlace} (h:DataW.Trod enc P W 0 (fun _=>true) true t v d ps):∃n,inR k n∧Aj (Old W) W (.int k n) v (fun _=>False):=
 a8r (Wq ht) (by obtain⟨n,rfl⟩:=okWide_int ht hv;trivial) h
theorem c0B{H:Type}{enc:TypeId×Value→H}{P:Program}{t e:TypeId}{α:Type}{f:α→AV}{good:α→Prop}(ht:P.underlying t=some (.slice e))(hO:Opens P t (fun x=>[f x]) good)
 {W:World} {r:Reach} {base:Nat} {v:Value} (hv:Value.okWide P W r base t v)
 {d:DataW H} {ps:List MemPlace} (h:DataW.Trod enc P W 0 (fun _=>true) true t v d ps):∃x,good x∧Aj (Old W) W (f x) v (fun _=>False):=
 a8r hO (by obtain⟨a,l,c,rfl⟩:=okWide_slice ht hv;trivial) h
theorem c0C{Z:FP}{w:World}:AS Z w [] [] (fun _=>False):=⟨rfl,AO⟩
theorem c0D{P:Program}{t:TypeId}{f0 f1 f2 f3:Field}{α β γ δ:Type}{a:α→AV}{b:β→AV}{c:γ→AV}{d:δ→AV}{ga:α→Prop}{gb:β→Prop}{gc:γ→Prop}{gd:δ→Prop}
 (ht:P.underlying t=some (.struct #[f0,f1,f2,f3])) (hn:P.cellsOf t=4)
 (h0:f0.offset=0∧P.cellsOf f0.type=1) (h1:f1.offset=1∧P.cellsOf f1.type=1) (h2:f2.offset=2∧P.cellsOf f2.type=1) (h3:f3.offset=3∧P.cellsOf f3.type=1)
 (o0:Opens P f0.type (fun x=>[a x]) ga) (o1:Opens P f1.type (fun x=>[b x]) gb) (o2:Opens P f2.type (fun x=>[c x]) gc) (o3:Opens P f3.type (fun x=>[d x]) gd):
 Opens P t (fun x:α×β×γ×δ=>[a x.1,b x.2.1,c x.2.2.1,d x.2.2.2]) (fun x=>ga x.1∧gb x.2.1∧gc x.2.2.1∧gd x.2.2.2):=by
 intro H enc w spare held fuel cs y h
 obtain⟨hl,n,hf⟩:=b3G ht hn (fun i f hi=>by
  match i,hi with
  |0,hi=>simp at hi;subst hi;exact h0
  |1,hi=>simp at hi;subst hi;exact h1
  |2,hi=>simp at hi;subst hi;exact h2
  |3,hi=>simp at hi;subst hi;exact h3
  |n+4,hi=>simp at hi) h
 match cs,hl with
 |[c0,c1,c2,c3],_=>
  obtain⟨z0,e0⟩:=hf 0 _ c0 rfl rfl
  obtain⟨z1,e1⟩:=hf 1 _ c1 rfl rfl
  obtain⟨z2,e2⟩:=hf 2 _ c2 rfl rfl
  obtain⟨z3,e3⟩:=hf 3 _ c3 rfl rfl
  obtain⟨x0,g0,r0⟩:=o0 enc w _ _ _ _ _ e0
  obtain⟨x1,g1,r1⟩:=o1 enc w _ _ _ _ _ e1
  obtain⟨x2,g2,r2⟩:=o2 enc w _ _ _ _ _ e2
  obtain⟨x3,g3,r3⟩:=o3 enc w _ _ _ _ _ e3
  exact⟨(x0,x1,x2,x3),⟨g0,g1,g2,g3⟩,MC (Iy.1 r0) (MC (Iy.1 r1) (MC (Iy.1 r2) r3))⟩
theorem opens_map{P:Program}{t:TypeId}{α β:Type}{f:α→List AV}{g:β→List AV}{p:α→Prop}{q:β→Prop}(m:α→β)(ho:Opens P t f p)(hf:∀x,f x=g (m x))(hg:∀x,p x→q (m x)):Opens P t g q:=by
 intro H enc w spare held fuel cs y h
 obtain⟨x,hx,hr⟩:=ho enc w _ _ fuel _ _ h
 exact⟨m x,hg x hx,by rw[←hf];exact hr⟩
end Go.Eng
end
section
set_option maxRecDepth 100000
namespace Go.My
open Go.Eng Go.Proofs
variable {G:GInv}
theorem c0E:Opens Tryz.prog 38 (fun l:List Int=>[Ad l]) (fun l=>l.length<2^63∧∀x∈l,inR .i64 x):=
 a2P (e:=3) rfl (by kernel_rfl) (by decide) (Wq rfl)
theorem c0F:Opens Tryz.prog 92 (ndA false) GV:=
 opens_map (fun x:Int×List UInt8×List Int×Bool=>(⟨x.1,x.2.1,x.2.2.1,x.2.2.2⟩:Nd)) (c0D (t:=92) (P:=Tryz.prog) (a:=fun n=> .int .i64 n) (b:= .str) (c:=Ad) (d:= .bool)
  (gd:=fun _=>True) rfl (by kernel_rfl) ⟨by kernel_rfl,by kernel_rfl⟩ ⟨by kernel_rfl,by kernel_rfl⟩ ⟨by kernel_rfl,by kernel_rfl⟩ ⟨by kernel_rfl,by kernel_rfl⟩ (Wq (k:= .i64) rfl) (b3F rfl) c0E (b3E rfl)) (fun _=>rfl) (fun x h=>⟨h.2.1,h.2.2.1.1⟩)
theorem c0G:Opens Tryz.prog 46 (fun l:List Nd=>[nds l]) Fe:=
 a2P (e:=92) rfl (by kernel_rfl) (by decide) c0F
end Go.My
end
