/- joined -/
import Derived.Test.YtglbamflbnldhaaGreatDoorQN
import Derived.Test.YtglbamflbnldhaaGreatDoorProg
set_option linter.unusedSimpArgs false
set_option linter.unusedVariables false
section
namespace Go.My
open Go.Eng Go.Proofs
variable {G:GInv}
def inO(t:List UInt8)(o az:List Int):Prop:=(t.length≤6000∧bgn t)∧plQ o∧Uj az
theorem c4q{t u:List UInt8}{o:List Int}{v w:Int}(h:t.length≤4000∧bgn t)(hu:u.length≤2000)(ho:o.length=12∧∀e∈o,0≤e∧e<10000)(hv:o[0]? =some v)(hw:o[1]? =some w):inO (t++u) o [v.tmod 5,w.tmod 5]:=⟨⟨by rw[List.length_append];omega,c0c h.2⟩,ho,c3y ho hv hw⟩
theorem c4r{t:List UInt8}{o az:List Int}(h:inO t o az):((∀a∈az,bdd a)∧az.length≤12)∧t.length≤6000:=⟨h.2.2,h.1.1⟩
theorem c4s{t:List UInt8}{o az:List Int}{L:List Nd}(h:inO t o az)(hs:(Cb t).isSome=true)(hL:L=(Cb t).getD []∧BM L):OrB L (HR L):=c0k h.1.2 hs hL
theorem c4t{ns:List Nd}{t:List UInt8}{az o:List Int}{st r c s:Int}(h:ruQ ns t az st (o,r,c,s)):o.length<2^62:=by have:=h.2;simp only at this;omega
theorem Ur{L A:List Nd}(h:OrB L A):(BM L∧L.length≤2^30)∧(BM A∧A.length≤2^30):=⟨⟨h.t.1.2,by have:=h.t.2;omega⟩,h.ta.1.2,by have:=h.ta.2;omega⟩
theorem Le{L A:List Nd}(h:OrB L A){t:List UInt8}{az:List Int}{st:Int}{y z:RuY}(hy:ruQ L t az st y)(hz:ruQ A t az st z):(y.1=z.1∧y.2.1=z.2.1)∧y.2.2.1=z.2.2.1∧y.2.2.2=z.2.2.2:=by rw[h.run hy hz];exact⟨⟨rfl,rfl⟩,rfl,rfl⟩
theorem c4u{L A:List Nd}(h:OrB L A):0≤Bb A [109,97,105,110] (Bc A).kids:=h.meth
attribute [local irreducible] inO ruQ Bf HR Cb Bb CF
def OM:Sig:= {X:=List UInt8,args:=fun x=>[.sl false 0 1 UInt8 byA x],pre:=fun x=>x.length<2^63,Y:=Unit,post:=fun x y=>True,res:=fun x y=> .bool true,outs:=fun x y=>[.top],keep:=false}
def Us(x:List UInt8):LS:= {ι:=List UInt8×List Int×List Int,inv:=fun i=>inO i.1 i.2.1 i.2.2,regs:=fun i=>[(0,.sl false 0 1 UInt8 byA x),(3,.str i.1),(4,Ab i.2.1),(5,Ab i.2.2)],als:=[],meas:=fun _=>0}
theorem c4v:Aj G Tryz.prog 3 OM:=
 vcFun_okP [(6,0,OH),(7,0,MI),(8,0,MK),(9,0,OG),(10,0,FU),(11,0,Ld),(13,0,Qt),(12,0,IT),(14,0,HZ),(15,0,HQ)] [(25,⟨Int,AZ⟩)] false (fun x=>[(100005,Us x)]) Tryz.func3 rfl (by decide) ⟨c3q,c4c,c4k,c3p,Zh,c3W,b9R,c4p,Xx,a2A,trivial⟩ (fun(x:List UInt8)=>(∀(y:Unit),True→True∧True∧True)∧cA OH [byL x] fun x_1 y=>Aa (decide ((↑(List.length x_1):Int)>(1048576:Int))) (rA OM x [.bool true,.top]) (cA MI [byL x] fun x_2 y=>cA MK [byL x] fun x_3 y_1=>(↑(List.length y.1+List.length y_1.1):Int)≤IntKind.max IntKind.i64∧cA OG [byL x] fun x_4 y_2=>true=true∧(((0:Int)≤(0:Int)∧(0:Int)<(↑(List.length y_2.1):Int))∧((0:Int)≤(1:Int)∧(1:Int)<(↑(List.length y_2.1):Int))∧((0:Nat)<List.length y_2.1∧∀(x_5:Int),y_2.1[(0:Nat)]? =some x_5→(5:Int)≠(0:Int)∧(1:Nat)<List.length y_2.1∧∀(x_6:Int),y_2.1[(1:Nat)]? =some x_6→(5:Int)≠(0:Int)∧∃(x_7:Int),Int.tmod x_5 (5:Int)=x_7∧∃(x_8:Int),Int.tmod x_6 (5:Int)=x_8∧true=true∧eA (Us x) [byL x,.str (y.1++y_1.1),Ab y_2.1,Ab [x_7,x_8]])∧(1:Nat)<List.length y_2.1∧∀(x_5:Int),y_2.1[(1:Nat)]? =some x_5→(5:Int)≠(0:Int)∧(0:Nat)<List.length y_2.1∧∀(x_6:Int),y_2.1[(0:Nat)]? =some x_6→(5:Int)≠(0:Int)∧∃(x_7:Int),Int.tmod x_6 (5:Int)=x_7∧∃(x_8:Int),Int.tmod x_5 (5:Int)=x_8∧true=true∧eA (Us x) [byL x,.str (y.1++y_1.1),Ab y_2.1,Ab [x_7,x_8]])∧∀(i:List UInt8×List Int×List Int),inO i.1 i.2.1 i.2.2→cA FU [.str i.1] fun x_5 y=>cA Ld [nds y.1] fun x_6 y_3=>Aa (!Option.isSome (Cb x_5)) (rA OM x [.bool true,.top]) (cA Qt [nds y.1,.str #[(109:UInt8),(97:UInt8),(105:UInt8),(110:UInt8)].toList,Ab i.2.2,.int .i64 (60:Int)] fun x_7 y_4=>cA Qt [Ba (HR x_6),.str #[(109:UInt8),(97:UInt8),(105:UInt8),(110:UInt8)].toList,AV.sl false 0 1 Int (fun(x:Int)=>fzL (AZ x)) i.2.2,.int .i64 (60:Int)] fun x_8 y_5=>cA IT [.agg [Af y_4.1,.int .i64 y_4.2.1,.int .i64 y_4.2.2.1,.int .i64 y_4.2.2.2],.agg [Af y_5.1,.int .i64 y_5.2.1,.int .i64 y_5.2.2.1,.int .i64 y_5.2.2.2]] fun x_9 y_6=>cA HZ [AV.sl false 0 4 Nd (fun(x:Nd)=>fzL (ndA true x)) (HR x_6),.str #[(109:UInt8),(97:UInt8),(105:UInt8),(110:UInt8)].toList] fun x_10 y_7=>Aa (decide (Bb x_10.1 x_10.2 (Bc x_10.1).kids≥(0:Int))) (cA HQ [AV.sl false 0 4 Nd (fun(x:Nd)=>fzL (ndA true x)) (HR x_6)] fun x_11 y_8=>cA HQ [nds y.1] fun x_12 y=>rA OM x [.bool ((↑(List.length (CF x_11)):Int)==(↑(List.length (CF x_12)):Int)),.top]) (rA OM x [.bool false,.top])))) (fun x=>by kernel_rfl) fun(x:List UInt8) (hx:x.length<2^63)=>(by
 dsimp only[Gj,byL,cA,Ah,cls,cur,eA,Us,Af,Bu,nds,GA,Ab,Ba,rA,HQ,Ld,OM,HZ,FU,Qt,IT,OH,MK,OG,MI,Db,sgs,srd,usA,Au,Az,mvL,lnL,mvE,lnE,Br]
 have hx:x.length<2^63:=hx
 (repeat' first|(apply c3z<;>try dsimp only)|(with_reducible first|rfl|exact True.intro|apply AK|apply And.intro|((first|apply AA|apply AI|apply AB|apply AJ)<;>intro _))|(apply Ax<;>intro _)|apply AH|refine Ae () ?_ ?_|((first|apply AO|apply AN|apply AM|apply AL|apply AG|apply AF|apply AE|apply AD|apply AC)<;>try dsimp only)|apply Ae|(refine Prod.forall.2 ?_;intro _;try dsimp only)|(intro _;try dsimp only))
 all_goals(try(have hI:=c0l (show _=(Cb _).getD []∧BM _ by assumption)))
 all_goals(try(have hF:=c4s (show inO _ _ _ by assumption) ‹_› (show _=(Cb _).getD []∧BM _ by assumption)))
 all_goals first
  |rfl
  |exact()
  |assumption
  |omega
  |exact c4q ‹_› ‹_› ‹_› ‹_› ‹_›
  |(have hA:=c4r ‹_›;first|exact hA.1.1|exact hA.1.2|exact hA.1|exact hA.1.1 _ ‹_› |omega)
  |exact hI.1
  |exact hI.2
  |exact hI.1.1
  |exact hI.1.2
  |exact hF.t
  |exact hF.ta
  |exact(Ur hF).1.1
  |exact(Ur hF).1.2
  |exact(Ur hF).2.1
  |exact(Ur hF).2.2
  |exact c4t ‹_›
  |exact(Le hF ‹_› ‹_›).1.1
  |exact(Le hF ‹_› ‹_›).1.2
  |exact(Le hF ‹_› ‹_›).2.1
  |exact(Le hF ‹_› ‹_›).2.2
  |exact(Le hF ‹_› ‹_›).1.1.symm
  |exact(Le hF ‹_› ‹_›).1.2.symm
  |exact(Le hF ‹_› ‹_›).2.1.symm
  |exact(Le hF ‹_› ‹_›).2.2.symm
  |(have hq:=(show List.length _≤4000∧bgn _ by assumption).1;(try simp only[AQ]);omega)
  |(rw[hF.grp];exact beq_self_eq_true _)
  |(exfalso;rename¬_≥_=>hq;exact hq (c4u hF))
  |skip)
end Go.My
end
section
namespace Go.Eng
open Go.ChangeShapes Go.WideShapes Go.ChangeAt Go.RowKit
theorem c4w{Z Z' A':FP}{w w':World}(h:After Z w (fun _=>False) Z' w' A'):Below w.heap.size w w':=
 ⟨h.os,h.tape,h.output,h.size,fun b hb=>(h.old b hb (fun x=>x)).1⟩
theorem a7N{H:Type}{enc:TypeId×Value→H}{P:Program}(hl:laidOutB P=true){W W':World}(hb:Below W.heap.size W W'):
 ∀(ts:List TypeId) (vs:List Value) (ds:List (DataW H)) (ps:List MemPlace),ts.all (fun t=>P.readableRec t&&decide (t<P.types.size))=true→
 DataW.TrodAll enc P W 0 (fun _=>true) true ts vs ds ps→(∀x∈ps,x.block<W.heap.size)→DataW.TrodAll enc P W' 0 (fun b=>decide (b<W.heap.size)) true ts vs ds ps
 |[],[],[],ps,ht,h,hp=>h
 |t::ts,v::vs,d::ds,ps,ht,h,hp=>by
  obtain⟨p,q,h1,h2,rfl⟩:=h
  simp only[List.all_cons,Bool.and_eq_true,decide_eq_true_eq] at ht
  exact⟨p,q,Below.trod hl ht.1.1 ht.1.2 h1 hb (fun x hx=>hp x (List.mem_append_left _ hx)),a7N hl hb ts vs ds q ht.2 h2 (fun x hx=>hp x (List.mem_append_right _ hx)),rfl⟩
 |[],_::_,_,_,ht,h,hp=>h.elim
 |[],[],_::_,_,ht,h,hp=>h.elim
 |_::_,[],_,_,ht,h,hp=>h.elim
 |_::_,_::_,[],_,ht,h,hp=>h.elim
theorem c4x{H:Type}{enc:TypeId×Value→H}{P:Program}{f:Func}{s:ChangeSpec}{W W':World}{args:Array Value}{ds gs:List (DataW H)}{before:List MemPlace}{tb:TypeId}
 (hl:laidOutB P=true) (ht:f.params.toList.all (fun t=>P.readableRec t&&decide (t<P.types.size))=true) (hv:s.vars=[])
 (hs:s.fn H ds= {results:=[.lit (.bool true)],args:=ds}) (hr:f.resultTypes= #[tb]) (htb:P.underlying tb=some .bool)
 (hW:DataW.Whole enc P f.params.toList s.vars false W args.toList ds gs before) (hb:Below W.heap.size W W'):s.post enc P f false true false false W args (.bool true) W':=by
 have hW0:=hW
 obtain⟨p,q,hA,hV,rfl,hfz,hnd⟩:=hW
 rw[hv] at hV
 obtain⟨rfl,rfl⟩:=trodVars_none hV
 refine⟨ds,[],p++[],[],p,[],hW0,?_,?_,?_,hb.frame _,fun h=>by cases h⟩
 ·simp only[List.append_nil]
  rw[hs,hr]
  exact trodAll_mk1 (shut_bool htb _)
 ·simp only[List.append_nil]
  rw[hs]
  exact a7N hl hb _ _ _ _ ht hA (fun x hx=>by simpa using hW0.lt x (by simpa using hx))
 ·simp only[List.append_nil]
  rw[hs,hv]
  rfl
def noG:GInv:=⟨fun _ _=>True,fun _ _ _ _ _ _=>trivial⟩
def c4y(X:Type)(args:X→List AV)(pre:X→Prop)(n:Nat):Sig:=
 {X:=X,args:=args,pre:=pre,Y:=Unit,post:=fun _ _=>True,res:=fun _ _=> .bool true,outs:=fun _ _=>List.replicate n .top,keep:=false}
theorem c4z{H:Type}{enc:TypeId×Value→H}{P:Program}{fi:FuncId}{f:Func}{s:ChangeSpec}{W:World}{args:Array Value}{ds gs:List (DataW H)}{before:List MemPlace}{tb:TypeId}
 {X:Type} {azs:X→List AV} {pre:X→Prop} {n:Nat} {G:GInv} (hc:Aj G P fi (c4y X azs pre n)) (hG:G.p (Old W) W)
 (hl:laidOutB P=true) (ht:f.params.toList.all (fun t=>P.readableRec t&&decide (t<P.types.size))=true) (hv:s.vars=[])
 (hs:s.fn H ds= {results:=[.lit (.bool true)],args:=ds}) (hr:f.resultTypes= #[tb]) (htb:P.underlying tb=some .bool)
 (hW:DataW.Whole enc P f.params.toList s.vars false W args.toList ds gs before)
 (ho:∃x,pre x∧AS (Old W) W (azs x) args.toList (fun _=>False)):
 Calls P fi args W fun e W'=>∃v,e= .returned v∧s.post enc P f false true false false W args v W':=by
 obtain⟨x,hx,hrel⟩:=ho
 refine(hc.2 x hx (Old W) W args.toList _ hG hrel (fun b h=>h.elim) trivial).mono fun e W' h=> ?_
 obtain⟨y,v,Z',A',_,rfl,hr2,hafter⟩:=h
 simp only[AS] at hr2
 obtain⟨v',us,A1,A2,e1,_,h1,_⟩:=hr2
 simp only[List.cons.injEq] at e1
 obtain⟨rfl,_⟩:=e1
 have:v= .bool true:=by
  have h1:Ai Z' W' (.bool true) v A1:=h1
  simp only[Ai] at h1;exact h1.1
 subst this
 exact⟨_,rfl,c4x hl ht hv hs hr htb hW (c4w hafter)⟩
end Go.Eng
end
section
namespace Go.Eng
open Go.ChangeShapes Go.WideShapes Go.ChangeAt Go.RowKit
theorem c4A{H:Type}{enc:TypeId×Value→H}{P:Program}{t:TypeId}{α:Type}{f:α→AV}{good:α→Prop}(hO:Kf P t (fun x=>[f x]) good){W:World}{v:Value}(hc:CI v)
 {d:DataW H} {ps:List MemPlace} (h:DataW.Trod enc P W 0 (fun _=>true) true t v d ps):∃x,good x∧Ai (Old W) W (f x) v (fun _=>False):=by
 obtain⟨Cw,hf⟩:=h
 rw[MU hc] at hf
 obtain⟨x,hg,hr⟩:=hO enc W _ _ Cw _ _ hf
 exact⟨x,hg,Uo.1 hr⟩
theorem c4B{H:Type}{enc:TypeId×Value→H}{P:Program}{t e:TypeId}{α:Type}{f:α→AV}{good:α→Prop}(ht:P.underlying t=some (.slice e))(hO:Kf P t (fun x=>[f x]) good)
 {W:World} {r:Reach} {base:Nat} {v:Value} (hv:Value.okWide P W r base t v)
 {d:DataW H} {ps:List MemPlace} (h:DataW.Trod enc P W 0 (fun _=>true) true t v d ps):∃x,good x∧Ai (Old W) W (f x) v (fun _=>False):=
 c4A hO (by obtain⟨a,l,c,rfl⟩:=okWide_slice ht hv;trivial) h
theorem c4C{Z:FP}{w:World}:AS Z w [] [] (fun _=>False):=⟨rfl,AP⟩
end Go.Eng
end
section
set_option maxRecDepth 100000
namespace Go.My
open Go.Eng Go.Proofs
variable {G:GInv}
theorem opens_mapP{P:Program}{t:TypeId}{α β:Type}{f:α→List AV}{g:β→List AV}{p:α→Prop}{q:β→Prop}(m:α→β)(ho:Kf P t f p)(hf:∀x,p x→f x=g (m x))(hg:∀x,p x→q (m x)):Kf P t g q:=by
 intro H enc w spare held Cw cs y h
 obtain⟨x,hx,hr⟩:=ho enc w _ _ Cw _ _ h
 exact⟨m x,hg x hx,by rw[←hf x hx];exact hr⟩
theorem c4D:Kf Tryz.prog 5 byA (fun _=>True):=
 opens_mapP (fun n:Int=>UInt8.ofNat n.toNat) (c4n (k:= .u8) rfl) (fun x h=>by
  have h1:0≤x∧x≤255:=by have h1:IntKind.min .u8≤x:=h.1;have h2:x≤IntKind.max .u8:=h.2;have e1:IntKind.min .u8=0:=rfl;have e2:IntKind.max .u8=255:=rfl;omega
  have:(UInt8.ofNat x.toNat).toNat=x.toNat:=by simp;omega
  rw[Gj,this];congr 2;omega) (fun _ _=>trivial)
theorem c4E:Kf Tryz.prog 22 (fun l:List UInt8=>[.sl false 0 1 UInt8 byA l]) (fun l=>l.length<2^63):=
 opens_mapP (fun l=>l) (c4o (e:=5) rfl (by kernel_rfl) (by decide) c4D) (fun _ _=>rfl) (fun _ h=>h.1)
end Go.My
end
