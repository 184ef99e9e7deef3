/- A part of the proof: the engine and the contracts, joined. -/
import Derived.Test.YtjmoahjpdapjkaaGreatDoorQL
import Derived.Test.YtjmoahjpdapjkaaGreatDoorProg
section
set_option linter.unusedVariables false
set_option linter.unusedSimpArgs false
namespace Go.Eng
open Go.ChangeShapes Go.WideShapes Go.ChangeAt Go.RowKit
theorem b3t{Z Z' A':FP}{w w':World}(h:After Z w (fun _=>False) Z' w' A'):Below w.heap.size w w':=
 ⟨h.os,h.tape,h.output,h.size,fun b hb=>(h.old b hb (fun x=>x)).1⟩
theorem a2X{H:Type}{enc:TypeId×Value→H}{P:Program}(hl:laidOutB P=true){W W':World}(hb:Below W.heap.size W W'):
 ∀(ts:List TypeId) (vs:List Value) (ds:List (DataW H)) (ps:List MemPlace),ts.all (fun t=>P.readableRec t&&decide (t<P.types.size))=true→
 DataW.TrodAll enc P W 0 (fun _=>true) true ts vs ds ps→(∀x∈ps,x.block<W.heap.size)→DataW.TrodAll enc P W' 0 (fun b=>decide (b<W.heap.size)) true ts vs ds ps
 |[],[],[],ps,ht,h,hp=>h
 |t::ts,v::vs,d::ds,ps,ht,h,hp=>by
  obtain⟨p,q,h1,h2,rfl⟩:=h
  simp only[List.all_cons,Bool.and_eq_true,decide_eq_true_eq] at ht
  exact⟨p,q,Below.trod hl ht.1.1 ht.1.2 h1 hb (fun x hx=>hp x (List.mem_append_left _ hx)),a2X hl hb ts vs ds q ht.2 h2 (fun x hx=>hp x (List.mem_append_right _ hx)),rfl⟩
 |[],_::_,_,_,ht,h,hp=>h.elim
 |[],[],_::_,_,ht,h,hp=>h.elim
 |_::_,[],_,_,ht,h,hp=>h.elim
 |_::_,_::_,[],_,ht,h,hp=>h.elim
theorem b3u{H:Type}{enc:TypeId×Value→H}{P:Program}{f:Func}{s:ChangeSpec}{W W':World}{args:Array Value}{ds gs:List (DataW H)}{before:List MemPlace}{tb:TypeId}
 (hl:laidOutB P=true) (ht:f.params.toList.all (fun t=>P.readableRec t&&decide (t<P.types.size))=true) (hv:s.vars=[])
 (hs:s.fn H ds= {results:=[.lit (.bool true)],args:=ds}) (hr:f.resultTypes= #[tb]) (htb:P.underlying tb=some .bool)
 (hW:DataW.Whole enc P f.params.toList s.vars false W args.toList ds gs before) (hb:Below W.heap.size W W'):s.post enc P f false true false false W args (.bool true) W':=by
 have hW0:=hW
 obtain⟨p,q,hA,hV,rfl,hfz,hnd⟩:=hW
 rw[hv] at hV
 obtain⟨rfl,rfl⟩:=trodVars_none hV
 refine⟨ds,[],p++[],[],p,[],hW0,?_,?_,?_,hb.frame _,fun h=>by cases h⟩
 ·simp only[List.append_nil]
  rw[hs,hr]
  exact trodAll_mk1 (shut_bool htb _)
 ·simp only[List.append_nil]
  rw[hs]
  exact a2X hl hb _ _ _ _ ht hA (fun x hx=>by simpa using hW0.lt x (by simpa using hx))
 ·simp only[List.append_nil]
  rw[hs,hv]
  rfl
def b3v(X:Type)(args:X→List AV)(pre:X→Prop)(n:Nat):Sig:=
 {X:=X,args:=args,pre:=pre,Y:=Unit,post:=fun _ _=>True,res:=fun _ _=> .bool true,outs:=fun _ _=>List.replicate n .top,keep:=false}
theorem b3w{H:Type}{enc:TypeId×Value→H}{P:Program}{fi:FuncId}{f:Func}{s:ChangeSpec}{W:World}{args:Array Value}{ds gs:List (DataW H)}{before:List MemPlace}{tb:TypeId}
 {X:Type} {azs:X→List AV} {pre:X→Prop} {n:Nat} {G:GInv} (hc:Aq G P fi (b3v X azs pre n)) (hG:G.p (Old W) W)
 (hl:laidOutB P=true) (ht:f.params.toList.all (fun t=>P.readableRec t&&decide (t<P.types.size))=true) (hv:s.vars=[])
 (hs:s.fn H ds= {results:=[.lit (.bool true)],args:=ds}) (hr:f.resultTypes= #[tb]) (htb:P.underlying tb=some .bool)
 (hW:DataW.Whole enc P f.params.toList s.vars false W args.toList ds gs before)
 (ho:∃x,pre x∧AX (Old W) W (azs x) args.toList (fun _=>False)):
 Calls P fi args W fun e W'=>∃v,e= .returned v∧s.post enc P f false true false false W args v W':=by
 obtain⟨x,hx,hrel⟩:=ho
 refine(hc.2 x hx (Old W) W args.toList _ hG hrel (fun b h=>h.elim) trivial).mono fun e W' h=> ?_
 obtain⟨y,v,Z',A',_,rfl,hr2,hafter⟩:=h
 simp only[AX] at hr2
 obtain⟨v',us,A1,A2,e1,_,h1,_⟩:=hr2
 simp only[List.cons.injEq] at e1
 obtain⟨rfl,_⟩:=e1
 have:v= .bool true:=by
  have h1:Am Z' W' (.bool true) v A1:=h1
  simp only[Am] at h1;exact h1.1
 subst this
 exact⟨_,rfl,b3u hl ht hv hs hr htb hW (b3t hafter)⟩
end Go.Eng
end
section
set_option linter.unusedVariables false
set_option linter.unusedSimpArgs false
namespace Go.Eng
open Go.ChangeShapes Go.WideShapes Go.ChangeAt Go.RowKit
theorem b3x{H:Type}{enc:TypeId×Value→H}{P:Program}{t:TypeId}{α:Type}{f:α→AV}{good:α→Prop}(hO:YL P t (fun x=>[f x]) good){W:World}{v:Value}(hc:CV v)
 {d:DataW H} {ps:List MemPlace} (h:DataW.Trod enc P W 0 (fun _=>true) true t v d ps):∃x,good x∧Am (Old W) W (f x) v (fun _=>False):=by
 obtain⟨fuel,hf⟩:=h
 rw[VQ hc] at hf
 obtain⟨x,hg,hr⟩:=hO enc W _ _ fuel _ _ hf
 exact⟨x,hg,YM.1 hr⟩
theorem b3y{H:Type}{enc:TypeId×Value→H}{P:Program}{t:TypeId}(ht:P.underlying t=some .string){W:World}{r:Reach}{base:Nat}{v:Value}(hv:Value.okWide P W r base t v)
 {d:DataW H} {ps:List MemPlace} (h:DataW.Trod enc P W 0 (fun _=>true) true t v d ps):∃s:List UInt8,s.length<2^63∧Am (Old W) W (.str s) v (fun _=>False):=
 b3x (a7s ht) (by obtain⟨n,rfl⟩:=okWide_string ht hv;trivial) h
theorem b3z{Z:FP}{w:World}:AX Z w [] [] (fun _=>False):=⟨rfl,AP⟩
end Go.Eng
end
section
namespace Go.My
end Go.My
end
