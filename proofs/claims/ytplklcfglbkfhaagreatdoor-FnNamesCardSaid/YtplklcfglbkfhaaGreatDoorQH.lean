/- A part of the proof: the engine and the contracts, joined. -/
import Derived.Test.YtplklcfglbkfhaaGreatDoorQG
import Derived.Shelf.Sort.Plain
import Derived.Shelf.Slices.In.SortNone
import Derived.Test.YtplklcfglbkfhaaGreatDoorProg
import Derived.ProofKit
import Derived.Lib.ItoaNum
section
set_option linter.unusedVariables false
set_option linter.unusedSimpArgs false
namespace Go.My
open Go.Eng Go.Proofs
variable {G:GInv}
attribute [local irreducible] undL BH Bl DC CE DD Cu fdl ltI fiI cnI usI ujI MK ER frP unP BV usP
noncomputable def Gc:Sig:= {X:=List Nd×Int×List UInt8,args:=fun x=>[nds x.1,.int .i64 x.2.1,.str x.2.2],pre:=fun x=>Bc x.1∧x.1.length≤2^30,Y:=Unit,post:=fun x y=>True,res:=fun x y=> .int .i64 (BV x.1 x.2.1 x.2.2),outs:=fun x y=>[.top,.top,.top],keep:=false}
noncomputable def Ov (x:List Nd×Int×List UInt8):LS:= {ι:=Int×Int,inv:=fun i=>cnI x i.1 i.2,regs:=fun i=>[(0,nds x.1),(2,.str x.2.2),(7,.int .i64 i.2),(12,Ae (undL x.1 x.2.1)),(13,.int .i64 (undL x.1 x.2.1).length),(14,.int .i64 i.1)],als:=[],meas:=fun i=>(undL x.1 x.2.1).length-i.1.toNat}
theorem ZY:Al G Tryz.prog 29 Gc:=
 vcFun_okP [(31,0,Dt),(86,0,IB)] [(26,⟨Int,Bh⟩)] false (fun x=>[(3,Ov x)]) Tryz.func29 rfl (by decide) ⟨Mk,a9u,trivial⟩ (fun(x:List Nd×Int×List UInt8)=>(∀(y:Unit),True→True∧True∧True∧True∧True)∧cA Dt [nds x.1,.int .i64 x.2.1] fun x_1 y=>eA (Ov x) [nds x.1,.str x.2.2,.int .i64 (0:Int),Ae (undL x_1.1 x_1.2),.int .i64 (↑(List.length (undL x_1.1 x_1.2)):Int),.int .i64 (0:Int)]∧∀(i:Int×Int),cnI x i.1 i.2→Aa (decide (i.1<(↑(List.length (undL x.1 x.2.1)):Int))) (((0:Int)≤i.1∧i.1<(↑(List.length (undL x.1 x.2.1)):Int))∧Int.toNat i.1<List.length (undL x.1 x.2.1)∧∀(x_2:Int),(undL x.1 x.2.1)[Int.toNat i.1]? =some x_2→((0:Int)≤x_2∧x_2<(↑(List.length x.1):Int))∧∀(e:Nd),x.1[Int.toNat x_2]? =some e→cA IB [.agg [.int .i64 e.kind,.str e.text,An e.kids,.bool e.blank],.str x.2.2] fun x_3 y=>Aa (Cj x_3.1.kind&&x_3.1.text==x_3.2) (inR IntKind.i64 (i.2+(1:Int))∧inR IntKind.i64 (i.1+(1:Int))∧eN (Ov x) i [nds x.1,.str x.2.2,.int .i64 (i.2+(1:Int)),Ae (undL x.1 x.2.1),.int .i64 (↑(List.length (undL x.1 x.2.1)):Int),.int .i64 (i.1+(1:Int))]) (inR IntKind.i64 (i.1+(1:Int))∧eN (Ov x) i [nds x.1,.str x.2.2,.int .i64 i.2,Ae (undL x.1 x.2.1),.int .i64 (↑(List.length (undL x.1 x.2.1)):Int),.int .i64 (i.1+(1:Int))])) (rA Gc x [.int .i64 i.2,.top,.top,.top])) (fun x=>by kernel_rfl) fun(x:List Nd×Int×List UInt8) (hx:Bc x.1∧x.1.length≤2^30)=>(by
 dsimp only[BX,cA,eA,eN,Ov,An,Bt,nds,Ae,rA,IB,Gc,Dt,Av,AA,mvL,lnL,mvE,lnE,Bi]
 obtain⟨h1,h2⟩:=hx
 (repeat' first|(with_reducible first|rfl|exact True.intro|apply AL|apply And.intro|((first|apply AB|apply AJ|apply AC|apply AK)<;>intro _))|(apply Az<;>intro _)|apply AI|refine Ag () ?_ ?_|((first|apply AP|apply AO|apply AN|apply AM|apply AH|apply AG|apply AF|apply AE|apply AD)<;>try dsimp only)|apply Ag|(refine Prod.forall.2 ?_;intro _;try dsimp only)|(intro _;try dsimp only))
 all_goals(try(repeat(rename(_:List Int)[_]? =some _=>hq;revert hq;rename(_:List Int)[_]? =some _=>hr;intro hq;rw[hr] at hq;cases hq)))
 all_goals(try(repeat(rename(_:List Nd)[_]? =some _=>hq;revert hq;rename(_:List Nd)[_]? =some _=>hr;intro hq;rw[hr] at hq;cases hq)))
 all_goals(try(repeat(rename(_:List Bool)[_]? =some _=>hq;revert hq;rename(_:List Bool)[_]? =some _=>hr;intro hq;rw[hr] at hq;cases hq)))
 all_goals(try(repeat(rename(_:List (List UInt8))[_]? =some _=>hq;revert hq;rename(_:List (List UInt8))[_]? =some _=>hr;intro hq;rw[hr] at hq;cases hq)))
 all_goals(try(have hB:=a9i (show cnI _ _ _ by assumption)))
 all_goals first
  |rfl
  |omega
  |exact()
  |exact h1
  |exact Ou h2
  |exact⟨h1,h2⟩
  |exact(DY ‹_›).1
  |exact(DY ‹_›).2
  |(have hq:=DY (show(undL _ _)[_]? =some _ by assumption);omega)
  |exact a9h h2
  |exact a9j ‹_› ‹_› ‹_› (by first|assumption|(simp [*];done))
  |exact a9k ‹_› ‹_› ‹_› (by first|assumption|(simp [*];done))
  |exact a9l ‹_› ‹_›
  |((try simp only[AR,Bb,List.length_cons,List.length_nil]);omega)
  |skip)
end Go.My
end
section
namespace Go.Proofs
open Go.Shelf
def Tryz.lays189_ren:Go.Shelf.Ren:=⟨fun|189=>97|125=>129|257=>128|128=>155|129=>156|294=>146|295=>147|296=>148|297=>149|298=>150|299=>151|216=>152|300=>153|301=>154|328=>175|329=>176|330=>177|331=>178|332=>179|215=>180|343=>194|n=>n,fun|28=>26|3=>3|46=>91|0=>0|51=>137|53=>139|4=>4|183=>129|182=>128|131=>134|5=>5|9=>9|218=>148|222=>152|228=>162|229=>67|n=>n,fun|n=>n⟩
theorem Tryz.lays189:Go.Proofs.Lays.n189 Tryz.prog Tryz.lays189_ren:= {
 mixed:=by kernel_rfl
 f125:=Tryz.func129.trans (congrArg some (by kernel_rfl))
 f128:=Tryz.func155.trans (congrArg some (by kernel_rfl))
 f129:=Tryz.func156.trans (congrArg some (by kernel_rfl))
 f189:=Tryz.func97.trans (congrArg some (by kernel_rfl))
 f215:=Tryz.func180.trans (congrArg some (by kernel_rfl))
 f216:=Tryz.func152.trans (congrArg some (by kernel_rfl))
 f257:=Tryz.func128.trans (congrArg some (by kernel_rfl))
 f294:=Tryz.func146.trans (congrArg some (by kernel_rfl))
 f295:=Tryz.func147.trans (congrArg some (by kernel_rfl))
 f296:=Tryz.func148.trans (congrArg some (by kernel_rfl))
 f297:=Tryz.func149.trans (congrArg some (by kernel_rfl))
 f298:=Tryz.func150.trans (congrArg some (by kernel_rfl))
 f299:=Tryz.func151.trans (congrArg some (by kernel_rfl))
 f300:=Tryz.func153.trans (congrArg some (by kernel_rfl))
 f301:=Tryz.func154.trans (congrArg some (by kernel_rfl))
 f328:=Tryz.func175.trans (congrArg some (by kernel_rfl))
 f329:=Tryz.func176.trans (congrArg some (by kernel_rfl))
 f330:=Tryz.func177.trans (congrArg some (by kernel_rfl))
 f331:=Tryz.func178.trans (congrArg some (by kernel_rfl))
 f332:=Tryz.func179.trans (congrArg some (by kernel_rfl))
 f343:=Tryz.func194.trans (congrArg some (by kernel_rfl))
 t0:=Tryz.underlying0
 a0:=Tryz.isAgg0
 z0:=Tryz.sizeOf0
 v0:=Tryz.zeroValue0
 t3:=Tryz.underlying3
 a3:=Tryz.isAgg3
 z3:=Tryz.sizeOf3
 v3:=Tryz.zeroValue3
 t4:=Tryz.underlying4
 a4:=Tryz.isAgg4
 z4:=Tryz.sizeOf4
 v4:=Tryz.zeroValue4
 t5:=Tryz.underlying5
 a5:=Tryz.isAgg5
 z5:=Tryz.sizeOf5
 v5:=Tryz.zeroValue5
 t9:=Tryz.underlying9
 a9:=Tryz.isAgg9
 z9:=Tryz.sizeOf9
 v9:=Tryz.zeroValue9
 t28:=Tryz.underlying26
 a28:=Tryz.isAgg26
 z28:=Tryz.sizeOf26
 v28:=Tryz.zeroValue26
 t46:=Tryz.underlying91
 a46:=Tryz.isAgg91
 z46:=Tryz.sizeOf91
 v46:=Tryz.zeroValue91
 t51:=Tryz.underlying137
 a51:=Tryz.isAgg137
 z51:=Tryz.sizeOf137
 v51:=Tryz.zeroValue137
 t53:=Tryz.underlying139
 a53:=Tryz.isAgg139
 z53:=Tryz.sizeOf139
 v53:=Tryz.zeroValue139
 t131:=Tryz.underlying134
 a131:=Tryz.isAgg134
 z131:=Tryz.sizeOf134
 v131:=Tryz.zeroValue134
 t182:=Tryz.underlying128
 a182:=Tryz.isAgg128
 z182:=Tryz.sizeOf128
 v182:=Tryz.zeroValue128
 t183:=Tryz.underlying129
 a183:=Tryz.isAgg129
 z183:=Tryz.sizeOf129
 v183:=Tryz.zeroValue129
 t218:=Tryz.underlying148
 a218:=Tryz.isAgg148
 z218:=Tryz.sizeOf148
 v218:=Tryz.zeroValue148
 t222:=Tryz.underlying152
 a222:=Tryz.isAgg152
 z222:=Tryz.sizeOf152
 v222:=Tryz.zeroValue152
 t228:=Tryz.underlying162
 a228:=Tryz.isAgg162
 z228:=Tryz.sizeOf162
 v228:=Tryz.zeroValue162
 t229:=Tryz.underlying67
 a229:=Tryz.isAgg67
 z229:=Tryz.sizeOf67
 v229:=Tryz.zeroValue67}
open Go.Sort Go.RowKit in
theorem Tryz.slices_Sort_int(blk off cap:Nat)(zs:List Int)(w:World)(hH:Holds (Value.int .i64) w blk off zs.toArray)(hblk:blk<w.heap.size)(hsz:zs.length<4611686018427387904):
 Calls Tryz.prog 97 #[.slice (some ⟨blk,off,none⟩) zs.length cap] w fun e w'=>
  e= .returned (.tuple #[])∧∃n os,w'=grow (putRow (Value.int .i64) (Sort.ahead w n) blk off (zs.mergeSort fun x y=>decide (x≤y)).toArray) os:=Any.slices_Sort_int Tryz.lays189 blk off cap zs w hH hblk hsz
open Go.RowKit Go.Sort in
theorem Tryz.slices_Sort_int_none(p:Option Addr)(cap:Nat)(w:World):
 Calls Tryz.prog 97 #[.slice p 0 cap] w fun e w'=>e= .returned (.tuple #[])∧w'=w:=Any.slices_Sort_int_none Tryz.lays189 p cap w
end Go.Proofs
end
section
set_option linter.unusedVariables false
set_option linter.unusedSimpArgs false
namespace Go.Eng
def Old(w:World):FP:=fun b=>w.heap.size≤b
def IC(P:Program)(t:TypeId){α:Type}(f:α→List AV)(good:α→Prop):Prop:=
 ∀ {H:Type} (enc:TypeId×Value→H) (w:World) (spare:Nat→Bool) (held:Bool) (fuel:Nat) (cs:List Value) (y:DataW H×List MemPlace),
   DataW.trod enc P w 0 spare held fuel t cs=some y→∃x:α,good x∧AX (Old w) w (f x) cs (fun _=>False)
theorem QI{Z:FP}{w:World}{a:AV}{v:Value}:AX Z w [a] [v] (fun _=>False)↔Aj Z w a v (fun _=>False):=by
 simp only[AX]
 constructor
 ·rintro⟨u,cs',A,B,e,hj,h1,h2,h3⟩
  simp only[List.cons.injEq] at e
  obtain⟨rfl,rfl⟩:=e
  have:=(HF hj AQ).1
  rwa [Ei this] at h1
 ·intro h
  exact⟨v,[],fun _=>False,fun _=>False,rfl,BD _,h,rfl,AQ⟩
theorem a9v{Z:FP}{w:World}{a:AV}{azs:List AV}{v:Value}{vs:List Value}(h1:Aj Z w a v (fun _=>False))(h2:AX Z w azs vs (fun _=>False)):
 AX Z w (a::azs) (v::vs) (fun _=>False):=by
 simp only[AX]
 exact⟨v,vs,_,_,rfl,BD _,h1,h2⟩
theorem a9w{k:IntKind}{n:Int}(h:(Lit.int k n).wf=true):inR k n:=by
 unfold inR
 simpa [Lit.wf] using h
theorem a9x{P:Program}{t:TypeId}{k:IntKind}(ht:P.underlying t=some (.int k)):IC P t (fun n:Int=>[.int k n]) (fun n=>inR k n):=by
 intro H enc w spare held fuel cs y h
 obtain⟨n,rfl,_,hw⟩:=DataW.trod_int ht h
 exact⟨n,a9w hw,QI.2 (by simp [Aj,emp])⟩
theorem ZZ{α:Type}{p:Nat→α→Prop}:∀n,(∀i,i<n→∃x,p i x)→∃l:List α,l.length=n∧∀i x,l[i]? =some x→p i x
 |0,_=>⟨[],rfl,fun i x h=>by simp at h⟩
 |n+1,h=>by
  obtain⟨l,hl,hp⟩:=ZZ n fun i hi=>h i (by omega)
  obtain⟨x,hx⟩:=h n (by omega)
  refine⟨l++[x],by simp [hl],fun i y hy=> ?_⟩
  by_cases hi:i<l.length
  ·rw[List.getElem?_append_left hi] at hy;exact hp i y hy
  ·rw[List.getElem?_append_right (by omega)] at hy
   have:i-l.length=0:=by
    rcases Nat.eq_zero_or_pos (i-l.length) with h|h
    ·exact h
    ·rw[List.getElem?_eq_none (by simp;omega)] at hy;cases hy
   rw[this] at hy;simp at hy;subst hy
   rwa [show i=n by omega]
theorem a0a{α:Type}{sz:Nat}{R:α→List Value→FP→Prop}:∀(xs:List α) (arr:List Value),
 (∀(i:Nat) (x:α),xs[i]? =some x→((arr.drop (i*sz)).take sz).length=sz∧R x ((arr.drop (i*sz)).take sz) (fun _=>False))→Rows sz R xs arr (fun _=>False)
 |[],arr,h=>AQ
 |x::xs,arr,h=>by
  have h0:=h 0 x rfl
  simp only[Nat.zero_mul,List.drop_zero] at h0
  refine⟨_,_,BD _,h0.1,h0.2,a0a xs (arr.drop sz) fun i y hy=> ?_⟩
  have:=h (i+1) y (by simpa using hy)
  rwa [Nat.succ_mul,Nat.add_comm,←List.drop_drop] at this
theorem a9y{P:Program}{t e:TypeId}{sz:Nat}{α:Type}{f:α→List AV}{good:α→Prop}(ht:P.underlying t=some (.slice e))(hc:P.cellsOf e=sz)(hpos:0<sz)
 (ho:IC P e f good):IC P t (fun l:List α=>[.sl false 0 sz α f l]) (fun l=>l.length<2^63∧∀x∈l,good x):=by
 intro H enc w spare held fuel cs y h
 rcases DataW.trod_slice ht h with⟨rfl,_⟩|⟨a,len,cap,elems,rest,n,_,rfl,_,hb,hl,hm,hlen,hel,_,_⟩
 ·refine⟨[],⟨by simp,by simp⟩,QI.2 ?_⟩
  simp only[Aj]
  exact⟨none,0,0,rfl,rfl,Nat.le_refl _,.inr ⟨trivial,AQ,.inl trivial⟩⟩
 ·have each:∀i,i<len→∃x:α,good x∧∃cs,w.cells? 0 (a.add (i*sz)) sz=some cs∧AX (Old w) w (f x) cs (fun _=>False):=by
   intro i hi
   have h1:=hel i hi
   rw[hc] at h1
   rw[List.getElem?_eq_getElem (by omega:i<elems.length),Option.bind_eq_some_iff] at h1
   obtain⟨cs,h2,h3⟩:=h1
   obtain⟨x,hg,hr⟩:=ho enc w spare held n cs _ h3
   exact⟨x,hg,cs,h2,hr⟩
  obtain⟨l,hll,hp⟩:=ZZ len each
  refine⟨l,⟨?_,?_⟩,QI.2 ?_⟩
  ·unfold maxLen at hm;omega
  ·intro x hx
   obtain⟨i,hi⟩:=List.getElem?_of_mem hx
   exact(hp i x hi).1
  ·simp only[Aj]
   refine⟨some a,len,cap,rfl,hll.symm,hl,.inr ⟨trivial,AQ,?_⟩⟩
   rcases Nat.eq_zero_or_pos len with h0|h0
   ·exact .inl (List.length_eq_zero_iff.1 (by omega))
   ·refine .inr ?_
    obtain⟨x0,_,c0,hc0,_⟩:=each 0 h0
    have h00:=(World.cells?_some hc0).2.2 0 hpos
    have hcl:=(World.cells?_some hc0).2.1
    simp only[Nat.zero_mul,Addr.add] at h00
    obtain⟨b,off,sp⟩:=a
    simp only[World.cell?,if_true] at h00
    split at h00
    ·rename_i arr ty fr harr
     split at h00
     ·rw[List.getElem?_eq_getElem (by omega)] at h00;cases h00
     ·rename_i hsp
      have hsp:sp=none:=by simpa using hsp
      subst hsp
      have hlt:b<w.heap.size:=by
       rcases Nat.lt_or_ge b w.heap.size with h|h
       ·exact h
       ·rw[Array.getElem?_eq_none h] at harr;cases harr
      refine⟨b,off,arr,ty,fr,rfl,by unfold Old;omega,harr,a0a l _ fun i x hx=> ?_⟩
      have hi:i<l.length:=(List.getElem?_eq_some_iff.1 hx).1
      obtain⟨hg,cs,hcs,hr⟩:=hp i x hx
      obtain⟨_,hcl,hce⟩:=World.cells?_some hcs
      have e:((arr.toList.drop off).drop (i*sz)).take sz=cs:=by
       refine List.ext_getElem? fun j=> ?_
       rw[List.getElem?_take]
       split
       ·rename_i hj
        have:=hce j hj
        rw[←this]
        simp only[List.getElem?_drop,Array.getElem?_toList]
        have ea:((⟨b,off,none⟩:Addr).add (i*sz)).add j=⟨b,off+i*sz+j,none⟩:=by
         unfold Addr.add
         by_cases h1:i*sz=0<;>by_cases h2:j=0<;>simp [h1,h2]
        rw[ea]
        simp only[World.cell?,harr]
        simp [Nat.add_assoc]
       ·rw[List.getElem?_eq_none (by omega)]
      rw[e]
      exact⟨hcl,hr⟩
    ·rw[List.getElem?_eq_getElem (by omega)] at h00;cases h00
end Go.Eng
end
section
set_option linter.unusedVariables false
set_option linter.unusedSimpArgs false
namespace Go.My
open Go.Eng Go.Proofs
variable {G:GInv}
def EG(l:List Int):List Int:=l.mergeSort fun x y=>decide (x≤y)
theorem a0b(l:List Int):(EG l).length=l.length:=(List.mergeSort_perm _ _).length_eq
theorem a0c{Z:FP}{w:World}:∀(xs:List Int) (cs:List Value) (S:FP),Go.Eng.Rows 1 (fun x cs A=>AX Z w (Bh x) cs A) xs cs S→emp S∧∀(j:Nat) x,xs[j]? =some x→cs[j]? =some (.int .i64 x)
 |[],cs,S,h=>⟨h,fun j x hj=>by simp at hj⟩
 |y::xs,cs,S,h=>by
  obtain⟨A,B,hj,hl,h1,h2⟩:=h
  simp only[Bh,AX,Aj] at h1
  obtain⟨v,cs',A1,B1,e1,hj1,⟨e2,he2⟩,e3,he3⟩:=h1
  subst e2;subst e3
  obtain⟨hB,ih⟩:=a0c xs _ B h2
  refine⟨fun b hb=>((hj.1 b).1 hb).elim (fun ha=>((hj1.1 b).1 ha).elim (he2 b) (he3 b)) (hB b),fun j x hjx=> ?_⟩
  cases j with
  |zero=>
   simp only[List.getElem?_cons_zero,Option.some.injEq] at hjx
   subst hjx
   have:(cs.take 1)[0]? =some (.int .i64 y):=by rw[e1];rfl
   rw[List.getElem?_take] at this
   simpa using this
  |succ j=>
   have:=ih j x (by simpa using hjx)
   rw[List.getElem?_drop] at this
   rw[show j+1=1+j by omega];exact this
theorem a0d{Z:FP}{w:World}:∀(xs:List Int) (cs:List Value),(∀(j:Nat) x,xs[j]? =some x→cs[j]? =some (.int .i64 x))→Go.Eng.Rows 1 (fun x cs A=>AX Z w (Bh x) cs A) xs cs (fun _=>False)
 |[],cs,_=>AQ
 |y::xs,cs,h=>by
  have h0:=h 0 y rfl
  obtain⟨c,cs',rfl⟩:∃c cs',cs=c::cs':=by
   cases cs with
   |nil=>simp at h0
   |cons c cs'=>exact⟨c,cs',rfl⟩
  simp only[List.getElem?_cons_zero,Option.some.injEq] at h0
  subst h0
  refine⟨_,_,BD _,rfl,?_,a0d xs cs' fun j x hj=>by simpa using h (j+1) x (by simpa using hj)⟩
  simp only[Bh,AX,Aj]
  exact⟨_,_,_,_,rfl,BD _,⟨rfl,AQ⟩,rfl,AQ⟩
def KJ:Sig:= {X:=List Int,args:=fun x=>[Ae x],pre:=fun x=>x.length≤2^40,Y:=Unit,post:=fun _ _=>True,res:=fun _ _=> .tup [],outs:=fun x _=>[Ae (EG x)],keep:=false,fixed:=[0]}
theorem a9z:Al G Go.Proofs.Tryz.prog 97 KJ:=by
 refine⟨⟨⟨_,Go.Proofs.Tryz.func97,by kernel_rfl,by kernel_rfl⟩,fun x y _ _=>⟨trivial,fun _=>⟨trivial,trivial⟩,trivial⟩⟩,?_⟩
 intro x0 hx Z w vals A hG h hA _
 obtain⟨x,rfl⟩:∃x:List Int,x=x0:=⟨x0,rfl⟩
 have hx:x.length≤2^40:=hx
 simp only[KJ,AX] at h
 obtain⟨v,cs,A1,A2,rfl,hj,h1,rfl,he⟩:=h
 have hAA:∀b,A b↔A1 b:=fun b=>(hj.1 b).trans ⟨fun hh=>hh.elim id (fun h2=>(he b h2).elim),.inl⟩
 simp only[Ae,Aj] at h1
 obtain⟨a,n,c,rfl,hn,hnc,h1⟩:=h1
 rcases h1 with⟨_,h1⟩|⟨h1,_⟩
 ·rcases h1 with⟨rfl,hc,hem⟩|⟨b,off,arr,ty,S1,rfl,hb,hlen,hrows,hjo⟩
  ·have h0:n=0:=by omega
   subst h0
   have hxe:x=[]:=List.length_eq_zero_iff.1 hn.symm
   subst hxe
   refine(Go.Proofs.Tryz.slices_Sort_int_none none c w).mono ?_
   rintro e w' ⟨rfl,rfl⟩
   refine⟨(),_,Z,A,trivial,rfl,?_,⟨rfl,rfl,rfl,Nat.le_refl _,fun _ _ _=>⟨rfl,Iff.rfl⟩,fun b hb=>⟨(hA b hb).1,(hA b hb).2,fun _=>hb⟩⟩⟩
   have hAe:emp A:=fun b hb=>hem b ((hAA b).1 hb)
   simp only[KJ,AX,Aj,Ae]
   refine⟨_,_,(fun _=>False),A,rfl,BD _,⟨[],rfl,rfl,AQ⟩,_,_,A,(fun _=>False),rfl,Hd _,⟨none,0,c,rfl,by simp [EG],by omega,.inl ⟨trivial,.inl ⟨rfl,hc,hAe⟩⟩⟩,rfl,AQ⟩
  ·obtain⟨hS1,hat⟩:=a0c x _ S1 hrows
   subst hn
   have hbl:b<w.heap.size:=by
    rcases Nat.lt_or_ge b w.heap.size with hh|hh
    ·exact hh
    ·rw[Array.getElem?_eq_none hh] at hb;cases hb
   have hcell:∀j,j<x.length→arr[off+j]? =some (.int .i64 x[j]!):=fun j hjx=>by
    have e0:x[j]? =some x[j]! :=by rw[getElem!_pos x j hjx];simp
    have:=hat j _ e0
    rw[List.getElem?_drop] at this
    simpa using this
   have hH:Go.Sort.Holds (Value.int .i64) w b off x.toArray:=fun j hjx=>by
    have hjx:j<x.length:=by simpa using hjx
    constructor
    ·show w.cell? _=_
     unfold World.cell?
     simp only[hb]
     rw[if_neg (by simp),hcell j hjx]
     simp
    ·unfold World.frozen?
     simp only[hb]
     simp
   refine(Go.Proofs.Tryz.slices_Sort_int b off c x w hH hbl (by omega)).mono ?_
   rintro e w' ⟨rfl,n,os,rfl⟩
   have hsz:(Go.Sort.putRow (Value.int .i64) (Go.Sort.ahead w n) b off (EG x).toArray).heap.size=w.heap.size:=by rw[Go.Sort.size_putRow];rfl
   have hblk:(Go.Sort.putRow (Value.int .i64) (Go.Sort.ahead w n) b off (EG x).toArray).heap[b]? =some (.cells (Go.Sort.putCells (Value.int .i64) off (EG x).toArray arr) ty (0,0)):=by
    unfold Go.Sort.putRow Go.Sort.mapBlock Go.Sort.ahead
    simp only[Array.getElem?_modify,if_true,hb,Option.map_some,Go.Sort.onCells]
   have hoth:∀k,k≠b→(Go.Sort.putRow (Value.int .i64) (Go.Sort.ahead w n) b off (EG x).toArray).heap[k]? =w.heap[k]? :=fun k hk=>by
    unfold Go.Sort.putRow Go.Sort.mapBlock Go.Sort.ahead
    simp only[Array.getElem?_modify]
    rw[if_neg (fun e=>hk e.symm)]
   have hg:∀k,k<w.heap.size→(Go.Sort.grow (Go.Sort.putRow (Value.int .i64) (Go.Sort.ahead w n) b off (EG x).toArray) os).heap[k]? =(Go.Sort.putRow (Value.int .i64) (Go.Sort.ahead w n) b off (EG x).toArray).heap[k]? :=fun k hk=>by
    show(_++os)[k]? =_
    rw[Array.getElem?_append_left (by rw[hsz];exact hk)]
   have hge:w.heap.size≤(Go.Sort.grow (Go.Sort.putRow (Value.int .i64) (Go.Sort.ahead w n) b off (EG x).toArray) os).heap.size:=by
    show _≤(_++os).size
    rw[Array.size_append,hsz];omega
   have hAb:A b:=(hAA b).2 ((hjo.1 b).2 (.inl rfl))
   refine⟨(),_,Z,A,trivial,rfl,?_,⟨rfl,rfl,rfl,hge,fun k hk hnk=>⟨?_,Iff.rfl⟩,fun k hk=>⟨(hA k hk).1,Nat.lt_of_lt_of_le (hA k hk).2 hge,fun _=>hk⟩⟩⟩
   ·simp only[KJ,AX,Aj,Ae]
    refine⟨_,_,(fun _=>False),A,rfl,BD _,⟨[],rfl,rfl,AQ⟩,_,_,A,(fun _=>False),rfl,Hd _,⟨_,_,c,rfl,by rw[a0b],hnc,.inl ⟨trivial,.inr ⟨b,off,_,ty,(fun _=>False),rfl,(hg b hbl).trans hblk,?_,a0d _ _ fun j y hjy=> ?_,?_⟩⟩⟩,rfl,AQ⟩
    ·unfold Go.Sort.putCells;rw[Array.size_mapIdx];exact hlen
    ·have hjl:=(List.getElem?_eq_some_iff.1 hjy).1
     have hjx:j<x.length:=by rw[a0b] at hjl;exact hjl
     rw[List.getElem?_drop]
     unfold Go.Sort.putCells
     rw[Array.getElem?_toList,Array.getElem?_mapIdx,hcell j hjx]
     simp only[Option.map_some]
     rw[if_pos ⟨by omega,by simp;omega⟩]
     have:off+j-off=j:=by omega
     rw[this,getElem!_pos _ j (by simpa using hjl)]
     have:=(List.getElem?_eq_some_iff.1 hjy).2
     simp [this]
    ·exact⟨fun k=>by rw[hAA k,hjo.1 k];exact⟨fun hh=>hh.imp id (hS1 k),fun hh=>hh.imp id False.elim⟩,fun k _ hh=>hh⟩
   ·refine(hg k hk).trans ?_
    exact hoth k (fun e=>hnk (e▸hAb))
 ·cases h1
end Go.My
end
section
set_option linter.unusedVariables false
set_option linter.unusedSimpArgs false
namespace Go.My
open Go.Eng Go.Proofs
variable {G:GInv}
end Go.My
end
section
set_option linter.unusedVariables false
set_option linter.unusedSimpArgs false
namespace Go.My
open Go.Eng Go.Proofs
variable {G:GInv}
structure Gr where
 notes:List Int
 member:Int
end Go.My
end
section
set_option linter.unusedVariables false
set_option linter.unusedSimpArgs false
namespace Go.My
open Go.Eng
section
variable {α:Type} (lt:α→α→Bool)
variable {lt}
end
end Go.My
end
section
set_option linter.unusedVariables false
set_option linter.unusedSimpArgs false
namespace Go.My
open Go.Eng Go.Proofs
variable {G:GInv}
end Go.My
end
section
set_option linter.unusedVariables false
set_option linter.unusedSimpArgs false
namespace Go.My
open Go.Eng Go.Proofs
variable {G:GInv}
end Go.My
end
section
set_option linter.unusedVariables false
set_option linter.unusedSimpArgs false
namespace Go.My
open Go.Eng Go.Proofs
variable {G:GInv}
section
variable {α:Type}
variable {mk:Int→α→α} {sz:α→Nat}
end
end Go.My
end
section
set_option linter.unusedVariables false
set_option linter.unusedSimpArgs false
namespace Go.My
open Go.Eng Go.Proofs
variable {G:GInv}
end Go.My
end
section
set_option linter.unusedVariables false
set_option linter.unusedSimpArgs false
namespace Go.My
open Go.Eng Go.Proofs
variable {G:GInv}
end Go.My
end
section
set_option linter.unusedVariables false
set_option linter.unusedSimpArgs false
namespace Go.My
open Go.Eng Go.Proofs
variable {G:GInv}
def dgt(m:Nat):List UInt8:=if m=0 then [] else Lib.decDigits m
theorem KK{m:Nat}(h:0<m):dgt m=dgt (m/10)++[UInt8.ofNat (48+m % 10)]:=by
 rw[dgt,if_neg (by omega),Lib.decDigits]
 split
 ·rename_i h10
  have e:m/10=0:=by omega
  have e2:m % 10=m:=by omega
  rw[e,e2,dgt,if_pos rfl];rfl
 ·rw[dgt,if_neg (by omega)]
theorem a0e:∀(n m:Nat),m<10^n→(dgt m).length≤n
 |0,m,h=>by have:m=0:=by simpa using h
            subst this;simp [dgt]
 |n+1,m,h=>by
  by_cases h0:0<m
  ·rw[KK h0,List.length_append]
   have:=a0e n (m/10) (by rw[Nat.div_lt_iff_lt_mul (by omega)];rw[Nat.pow_succ] at h;exact h)
   simp;omega
  ·have:m=0:=by omega
   subst this;simp [dgt]
def FC(x:Int):List UInt8:=Lib.itoa x
theorem Ow{x:Int}(h:0<x):FC x=dgt x.toNat:=by
 rw[FC,Lib.itoa,if_neg (by omega),dgt,if_neg (by omega)]
theorem a9A:FC 0=[48]:=by
 rw[FC,Lib.itoa,if_neg (by omega),Lib.decDigits];rfl
theorem Us{x:Int}(h0:0≤x)(h:x≤999999999):(FC x).length≤9:=by
 by_cases hx:0<x
 ·rw[Ow hx];exact a0e 9 x.toNat (by omega)
 ·have:x=0:=by omega
  subst this;rw[a9A];simp
end Go.My
end
section
set_option linter.unusedVariables false
set_option linter.unusedSimpArgs false
namespace Go.My
open Go.Eng Go.Proofs
variable {G:GInv}
theorem a9B{n:Nat}{P:Int→Prop}{m:List Bool}{c:Int}{b:Bool}(h:MK n P m)(hc:0≤c∧c<n):MK n (fun j=>(P j∧j≠c)∨(j=c∧b=true)) (m.set c.toNat b):=by
 refine⟨by rw[List.length_set];exact h.1,fun j=> ?_⟩
 rw[KG (by have:=h.1;omega),h.2]
 by_cases e:j=c<;>simp [e]
def Gd(k:Int):Bool:=decide (k=22)||decide (k=21)
def HW(ns:List Nd)(i:Int)(j:Int):Prop:=kindAt ns j≠19∧∃p:Int,(0≤p∧p<i)∧Gd (kindAt ns p)=true∧j∈(Ab ns p).kids
def moI(ns:List Nd)(i:Int)(m:List Bool):Prop:=(Od ns∧0≤i∧i≤ns.length)∧MK ns.length (HW ns i) m
def mnI(ns:List Nd)(i t:Int)(m:List Bool):Prop:=((Od ns∧0≤i∧i<ns.length)∧0≤t∧t≤(Ab ns i).kids.length)∧
 MK ns.length (fun j=>HW ns i j∨(kindAt ns j≠19∧Gd (kindAt ns i)=true∧j∈(Ab ns i).kids.take t.toNat)) m
theorem a9C{ns:List Nd}(h:Od ns):moI ns 0 (List.replicate ns.length false):=
 ⟨⟨h,by omega,by omega⟩,Oe fun j hj=>by obtain⟨_,p,hp,_⟩:=hj;omega⟩
theorem a9D{ns:List Nd}{i:Int}{m:List Bool}(h:moI ns i m)(hi:i<ns.length):mnI ns i 0 m:=
 ⟨⟨⟨h.1.1,h.1.2.1,hi⟩,by omega,by omega⟩,GJ h.2 fun j=>by simp⟩
theorem a0f{ns:List Nd}{i t c:Int}{m:List Bool}(h:mnI ns i t m)(hc:(Ab ns i).kids[t.toNat]? =some c):0≤c∧c<ns.length:=by
 have hn:=h.1.1.1.1 i.toNat (by have:=h.1.1;omega)
 rw[show((i.toNat:Nat):Int)=i by have:=h.1.1;omega] at hn
 have:=(CS hn).2.2.2.1 c (List.mem_of_getElem? hc)
 have:=h.1.1;omega
theorem a9E{ns:List Nd}{i t c:Int}{b:Bool}{m:List Bool}(h:mnI ns i t m)(ht:Gd (kindAt ns i)=true)(hc:(Ab ns i).kids[t.toNat]? =some c)(hb:b= !decide (kindAt ns c=19)):mnI ns i (t+1) (m.set c.toNat b):=by
 have hk:=a0f h hc
 have hl:=(List.getElem?_eq_some_iff.1 hc).1
 have h2:=h.1.2
 refine⟨⟨h.1.1,by omega,by omega⟩,GJ (a9B h.2 hk) fun j=> ?_⟩
 rw[show(t+1).toNat=t.toNat+1 by omega,List.take_add_one,hc]
 simp only[Option.toList,List.mem_append,List.mem_singleton]
 subst hb
 by_cases e:j=c
 ·subst e
  simp only[ne_eq,not_true,and_false,false_or,true_and,ht,or_true,and_true,Bool.not_eq_true',decide_eq_false_iff_not]
  constructor
  ·exact fun hh=> .inr hh
  ·rintro(hh|hh)
   ·exact hh.1
   ·exact hh
 ·simp only[ne_eq,e,not_false_eq_true,and_true,false_and,or_false]
theorem a0g{ns:List Nd}{i t:Int}{m:List Bool}(h:mnI ns i t m)(he:¬t<((Ab ns i).kids.length:Int)∨Gd (kindAt ns i)=false):moI ns (i+1) m:=by
 refine⟨⟨h.1.1.1,by have:=h.1.1;omega,by have:=h.1.1;omega⟩,GJ h.2 fun j=> ?_⟩
 constructor
 ·rintro(⟨h1,p,h2,h3⟩|⟨h1,h2,h3⟩)
  ·exact⟨h1,p,by omega,h3⟩
  ·exact⟨h1,i,by have:=h.1.1;omega,h2,List.mem_of_mem_take h3⟩
 ·rintro⟨h1,p,h2,h3,h4⟩
  by_cases e:p=i
  ·subst e
   refine .inr ⟨h1,h3,?_⟩
   rcases he with he|he
   ·rw[List.take_of_length_le (by omega)];exact h4
   ·rw[he] at h3;cases h3
  ·exact .inl ⟨h1,p,by omega,h3,h4⟩
noncomputable def memL (ns:List Nd):List Int:=if treeOk ns=true then DB (Iw ns.length (HW ns ns.length)) else []
theorem QJ{ns:List Nd}(h:Od ns){i j:Int}(hi:i≤ns.length)(hj:HW ns i j):0≤j∧j<ns.length:=by
 obtain⟨_,p,hp,_,hm⟩:=hj
 have hn:=h.1 p.toNat (by omega)
 rw[show((p.toNat:Nat):Int)=p by omega] at hn
 have:=(CS hn).2.2.2.1 j hm;omega
theorem a0h{ns:List Nd}{j:Int}:j∈memL ns↔treeOk ns=true∧HW ns ns.length j:=by
 by_cases ht:treeOk ns=true
 ·rw[memL,if_pos ht,Mh,(Mi fun j hj=>QJ (Dd ht).1 (Int.le_refl _) hj).2];simp [ht]
 ·rw[memL,if_neg ht];simp [ht]
theorem QK{ns:List Nd}{j:Int}(h:j∈memL ns):0≤j∧j<ns.length:=by
 obtain⟨h1,h2⟩:=a0h.1 h
 exact QJ (Dd h1).1 (Int.le_refl _) h2
theorem a0i{ns:List Nd}:(memL ns).length≤ns.length:=by
 unfold memL;split
 ·exact Nat.le_trans (Og _) (by simp [Iw])
 ·simp
def HX(ns:List Nd)(l:List Int):List Int:=l.filter fun c=> !decide (kindAt ns c=19)
def DZ(ns:List Nd)(l:List Nd):List Int:=l.flatMap fun x=>if Gd x.kind=true then HX ns x.kids else []
theorem a0j{ns:List Nd}{i:Int}{x:Nd}(h0:0≤i)(hx:ns[i.toNat]? =some x):DZ ns (ns.take (i+1).toNat)=DZ ns (ns.take i.toNat)++(if Gd x.kind=true then HX ns x.kids else []):=by
 rw[show(i+1).toNat=i.toNat+1 by omega,List.take_add_one,hx];simp [DZ]
theorem a0k{ns:List Nd}{l:List Int}{t c:Int}(h0:0≤t)(hc:l[t.toNat]? =some c):HX ns (l.take (t+1).toNat)=HX ns (l.take t.toNat)++(if kindAt ns c=19 then [] else [c]):=by
 rw[show(t+1).toNat=t.toNat+1 by omega,List.take_add_one,hc]
 by_cases e:kindAt ns c=19<;>simp [HX,e]
theorem HY{a:List Nd}{i:Int}(h0:0≤i)(h:i<a.length):a[i.toNat]? =some (Ab a i):=by
 have:i.toNat<a.length:=by omega
 simp [Ab,List.getD,this]
theorem a0l{ns:List Nd}{j:Int}:j∈DZ ns ns↔HW ns ns.length j:=by
 simp only[DZ,List.mem_flatMap]
 constructor
 ·rintro⟨x,hx,hj⟩
  split at hj
  ·rename_i ht
   simp only[HX,List.mem_filter,Bool.not_eq_true',decide_eq_false_iff_not] at hj
   obtain⟨p,hp⟩:=List.mem_iff_getElem?.1 hx
   have hn:Ab ns p=x:=AZ (by simpa using hp)
   have:=(List.getElem?_eq_some_iff.1 hp).1
   exact⟨hj.2,p,by omega,by rw[kindAt,hn];exact ht,by rw[hn];exact hj.1⟩
  ·cases hj
 ·rintro⟨h1,p,h2,h3,h4⟩
  refine⟨Ab ns p,List.mem_of_getElem? (HY h2.1 h2.2),?_⟩
  rw[kindAt] at h3
  rw[if_pos h3]
  simp [HX,h1,h4]
theorem a0m{α:Type}[DecidableEq α]:∀ {l:List α},(∀a,l.count a≤1)→l.Nodup
 |[],_=>List.Pairwise.nil
 |x::l,h=>by
  refine List.nodup_cons.2 ⟨fun hx=> ?_,a0m fun a=> ?_⟩
  ·have:=h x;rw[List.count_cons_self] at this
   have:=List.count_pos_iff.2 hx;omega
  ·have:=h a;rw[List.count_cons] at this;omega
theorem a0n{ns:List Nd}(a:Int):∀l:List Nd,(DZ ns l).count a≤(BC l).count a
 |[]=>by simp [DZ,BC]
 |x::l=>by
  have ih:=a0n (ns:=ns) a l
  simp only[DZ,BC,List.flatMap_cons,List.count_append] at ih ⊢
  have:List.count a (if Gd x.kind=true then HX ns x.kids else [])≤List.count a x.kids:=by
   split
   ·exact List.Sublist.count_le a (List.filter_sublist)
   ·simp
  omega
theorem a9F{ns:List Nd}(h:treeOk ns=true):(DZ ns ns).Nodup:=by
 have t:=Dd h
 refine a0m fun a=> ?_
 have h1:=a0n (ns:=ns) a ns
 by_cases hm:a∈DZ ns ns
 ·obtain⟨_,p,hp,_,hk⟩:=a0l.1 hm
  have hn:=t.1.1 p.toNat (by omega)
  rw[show((p.toNat:Nat):Int)=p by omega] at hn
  have hb:=(CS hn).2.2.2.1 a hk
  have:=t.1.2 a.toNat (by omega)
  rw[show((a.toNat:Nat):Int)=a by omega] at this
  omega
 ·rw[List.count_eq_zero.2 hm];omega
theorem a9G{ns:List Nd}(h:treeOk ns=true):EG (DZ ns ns)=memL ns:=by
 have hp:(EG (DZ ns ns)).Perm (DZ ns ns):=List.mergeSort_perm _ _
 have hs:(EG (DZ ns ns)).Pairwise (fun a b=>decide (a≤b)=true):=List.pairwise_mergeSort (fun a b c h1 h2=>by simp at*;omega) (fun a b=>by simp;omega) _
 have hn:(EG (DZ ns ns)).Nodup:=hp.nodup_iff.2 (a9F h)
 have hlt:(EG (DZ ns ns)).Pairwise (· < ·):=by
  refine(hs.and hn).imp fun {a b} hh=> ?_
  have h1:=hh.1;have h2:=hh.2
  simp at h1
  exact(by omega:a<b)
 rw[memL,if_pos h]
 refine YU hlt (Of _ 0) fun j=> ?_
 show _↔j∈DB _
 rw[hp.mem_iff,a0l,Mh,(Mi fun j hj=>QJ (Dd h).1 (Int.le_refl _) hj).2]
def DE(b:List UInt8)(n:Int):List UInt8:=if n≤1 then b else b++FC n
def CF(ns:List Nd)(s:List UInt8):Bool:=ns.any fun x=>x.text==s
def frF(ns:List Nd)(b:List UInt8):Nat→Int→List UInt8
 |0,_=>[]
 |f+1,n=>if CF ns (DE b n)=true then frF ns b f (n+1) else DE b n
def Ea(ns:List Nd)(b:List UInt8):List UInt8:=if BK b=true∧b.length≤20 then frF ns b (ns.length+1) 1 else []
def fsI(ns:List Nd)(b:List UInt8)(n:Int):Prop:=((BK b=true∧b.length≤20)∧1≤n∧n≤ns.length+2)∧frF ns b ((ns.length:Int)+2-n).toNat n=Ea ns b∧∀m:Int,1≤m→m<n→CF ns (DE b m)=true
theorem a0o{ns:List Nd}{b:List UInt8}(h:BK b=true)(hl:b.length≤20):fsI ns b 1:=by
 refine⟨⟨⟨h,hl⟩,by omega,by omega⟩,?_,fun m h1 h2=>by omega⟩
 rw[Ea,if_pos ⟨h,hl⟩,show((ns.length:Int)+2-1).toNat=ns.length+1 by omega]
theorem a0p{ns:List Nd}{b:List UInt8}{n:Int}(h:fsI ns b n)(hn:n≤ns.length+1)(hh:CF ns (DE b n)=false):DE b n=Ea ns b:=by
 rw[←h.2.1,show((ns.length:Int)+2-n).toNat=((ns.length:Int)+1-n).toNat+1 by omega,frF,hh];simp
theorem a0q{ns:List Nd}{b:List UInt8}{n:Int}(h:fsI ns b n)(hn:n≤ns.length+1)(hh:CF ns (DE b n)=true):fsI ns b (n+1):=by
 refine⟨⟨h.1.1,by have:=h.1;omega,by have:=h.1;omega⟩,?_,fun m h1 h2=> ?_⟩
 ·rw[←h.2.1,show((ns.length:Int)+2-n).toNat=((ns.length:Int)+2-(n+1)).toNat+1 by omega,frF,hh];simp
 ·by_cases e:m=n
  ·rw[e];exact hh
  ·exact h.2.2 m h1 (by omega)
theorem a0r{ns:List Nd}{b:List UInt8}(h:¬(BK b=true∧b.length≤20)):([]:List UInt8)=Ea ns b:=by rw[Ea,if_neg h]
theorem QL{α:Type}[DecidableEq α]:∀ {l t:List α},l.Nodup→(∀x∈l,x∈t)→l.length≤t.length
 |[],_,_,_=>by simp
 |a::l,t,h,hs=>by
  rw[List.nodup_cons] at h
  have ha:=hs a (by simp)
  have:=QL (t:=t.erase a) h.2 fun x hx=>(List.mem_erase_of_ne (fun e=>by subst e;exact h.1 hx)).2 (hs x (by simp [hx]))
  rw[List.length_erase_of_mem ha] at this
  have:=List.length_pos_of_mem ha
  simp only[List.length_cons];omega
theorem a0s:∀(n:Nat) {a b:Nat},a≤n→dgt a=dgt b→a=b
 |n,a,b,hn,h=>by
  by_cases ha:0<a
  ·by_cases hb:0<b
   ·rw[KK ha,KK hb] at h
    have h1:=List.append_inj' h rfl
    have h2:a/10=b/10:=by
     cases n with
     |zero=>omega
     |succ n=>exact a0s n (by omega) h1.1
    have h3:UInt8.ofNat (48+a % 10)=UInt8.ofNat (48+b % 10):=by simpa using h1.2
    have h4:=congrArg UInt8.toNat h3
    simp at h4;omega
   ·have:b=0:=by omega
    subst this
    rw[KK ha] at h;simp [dgt] at h
  ·have:a=0:=by omega
   subst this
   by_cases hb:0<b
   ·rw[KK hb] at h;simp [dgt] at h
   ·omega
theorem a9H{b:List UInt8}{m n:Int}(hm:1≤m)(hn:1≤n)(h:DE b m=DE b n):m=n:=by
 have hpos:∀k:Int,1<k→FC k≠[]:=fun k hk e=>by
  rw[Ow (by omega),KK (by omega)] at e;simp at e
 unfold DE at h
 split at h<;>split at h
 ·omega
 ·exact(hpos n (by omega) (by simpa using h.symm)).elim
 ·exact(hpos m (by omega) (by simpa using h)).elim
 ·have:=List.append_cancel_left h
  rw[Ow (by omega),Ow (by omega)] at this
  have:=a0s _ (Nat.le_refl _) this;omega
theorem Ox{ns:List Nd}{b:List UInt8}{n:Int}(h:fsI ns b n):n≤ns.length+1:=by
 have:=QL (l:=(List.range (n-1).toNat).map fun(i:Nat)=>DE b ((i:Int)+1)) (t:=ns.map (·.text)) ?_ ?_
 ·simp at this;have:=h.1;omega
 ·refine List.pairwise_map.2 ((List.nodup_range).imp fun {i j} hij e=>hij ?_)
  have:=a9H (by omega) (by omega) e;omega
 ·intro x hx
  obtain⟨i,hi,rfl⟩:=List.mem_map.1 hx
  rw[List.mem_range] at hi
  have hh:=h.2.2 ((i:Int)+1) (by omega) (by omega)
  simp only[CF,List.any_eq_true,beq_iff_eq] at hh
  obtain⟨y,hy,he⟩:=hh
  exact List.mem_map.2 ⟨y,hy,he⟩
theorem a9I{b:List UInt8}{n:Int}(hb:b.length≤20)(h0:0≤n)(hn:n≤999999999):(DE b n).length≤29:=by
 unfold DE;split
 ·omega
 ·rw[List.length_append];have:=Us h0 hn;omega
def rnF(ns:List Nd)(S:List Int)(from' to:List UInt8):List Nd:=ns.mapIdx fun j x=>if(S.elem (j:Int)&&(Cj x.kind&&x.text==from'))=true then {x with text:=to} else x
theorem QM{ns:List Nd}{S:List Int}{a b:List UInt8}:(rnF ns S a b).length=ns.length:=by simp [rnF]
theorem HZ{ns:List Nd}{S:List Int}{a b:List UInt8}{j:Nat}:(rnF ns S a b)[j]? =ns[j]?.map fun x=>if(S.elem (j:Int)&&(Cj x.kind&&x.text==a))=true then {x with text:=b} else x:=by
 simp [rnF,List.getElem?_mapIdx]
theorem a9J{ns:List Nd}{a b:List UInt8}:rnF ns [] a b=ns:=by
 apply List.ext_getElem?;intro j;rw[HZ];cases ns[j]? <;>simp
theorem a9K{ns:List Nd}{L:List Int}{a b:List UInt8}{i c:Int}{x y:Nd}(h0:0≤i)(hc:L[i.toNat]? =some c)(hb:0≤c)(hx:ns[c.toNat]? =some x)(hn:L.Nodup)(hm:(Cj x.kind&&x.text==a)=true)(hy:y= {x with text:=b}):(rnF ns (L.take i.toNat) a b).set c.toNat y=rnF ns (L.take (i+1).toNat) a b:=by
 apply List.ext_getElem?;intro j
 rw[HZ,List.getElem?_set,HZ,show(i+1).toNat=i.toNat+1 by omega,List.take_add_one,hc]
 by_cases e:c.toNat=j
 ·subst e
  have hl:=(List.getElem?_eq_some_iff.1 hx).1
  rw[if_pos rfl,if_pos (by rw[QM];exact hl),hx]
  have:((c.toNat:Nat):Int)=c:=by omega
  simp only[Option.map_some,Option.toList,this,hy,hm,Bool.and_true]
  rw[if_pos (by simp)]
 ·rw[if_neg e]
  have:((j:Nat):Int)≠c:=by omega
  congr 1;funext z
  simp [this]
theorem a9L{ns:List Nd}{L:List Int}{a b:List UInt8}{i c:Int}{x:Nd}(h0:0≤i)(hc:L[i.toNat]? =some c)(hb:0≤c)(hx:ns[c.toNat]? =some x)(hm:(Cj x.kind&&x.text==a)=false):rnF ns (L.take i.toNat) a b=rnF ns (L.take (i+1).toNat) a b:=by
 apply List.ext_getElem?;intro j
 rw[HZ,HZ,show(i+1).toNat=i.toNat+1 by omega,List.take_add_one,hc]
 by_cases e:c.toNat=j
 ·subst e;rw[hx];simp only[Option.map_some,hm,Bool.and_false]
 ·have:((j:Nat):Int)≠c:=by omega
  congr 1;funext z
  simp [this]
theorem Ut(m:List Bool):(DB m).Nodup:=(Of m 0).imp fun h=>by omega
theorem a0t{ns:List Nd}{k:Int}:(undL ns k).Nodup:=by unfold undL;split;exact List.Pairwise.nil;exact Ut _
theorem a9M{ns:List Nd}{L:List Int}{a b:List UInt8}{i c:Int}{x:Nd}(h0:0≤i)(hc:L[i.toNat]? =some c)(hb:0≤c)(hn:L.Nodup)(hx:(rnF ns (L.take i.toNat) a b)[c.toNat]? =some x):ns[c.toNat]? =some x:=by
 rw[HZ] at hx
 rw[←hx]
 cases hh:ns[c.toNat]? with
 |none=>rfl
 |some y=>
  have:(L.take i.toNat).elem c=false:=by
   rw[Bool.eq_false_iff];intro hm
   have hm:=List.elem_iff.1 hm
   obtain⟨q,hq,he⟩:=List.mem_iff_getElem.1 hm
   rw[List.length_take] at hq
   have hl:=(List.getElem?_eq_some_iff.1 hc)
   obtain⟨hl1,hl2⟩:=hl
   rw[List.getElem_take] at he
   have:=(List.getElem_inj hn).1 (he.trans hl2.symm)
   omega
  simp only[Option.map_some,show((c.toNat:Nat):Int)=c by omega,this,Bool.false_and,Bool.false_eq_true,if_false]
end Go.My
end
section
set_option linter.unusedVariables false
set_option linter.unusedSimpArgs false
namespace Go.My
open Go.Eng Go.Proofs
variable {G:GInv}
def mmO(x:List Nd)(i:Int)(o:List Int):Prop:=(((treeOk x=true∧x.length≤300)∧0≤i∧i≤x.length)∧o.length≤12*i)∧o=DZ x (x.take i.toNat)
def mmI(x:List Nd)(i t:Int)(o:List Int):Prop:=(((treeOk x=true∧x.length≤300)∧0≤i∧i<x.length)∧(0≤t∧t≤(Ab x i).kids.length)∧o.length≤12*i+t)∧Gd (kindAt x i)=true∧o=DZ x (x.take i.toNat)++HX x ((Ab x i).kids.take t.toNat)
theorem QN{x:List Nd}{i:Int}(h:treeOk x=true)(h0:0≤i∧i<x.length):(Ab x i).kids.length≤12:=by
 have hn:=(Dd h).1.1 i.toNat (by omega)
 rw[show((i.toNat:Nat):Int)=i by omega] at hn
 exact(CS hn).2.1
theorem a9N{x:List Nd}(h:treeOk x=true):mmO x 0 []:=⟨⟨⟨⟨h,(Dd h).2.2.1⟩,by omega,by omega⟩,by simp⟩,by simp [DZ]⟩
theorem a9O{x:List Nd}{i:Int}{o:List Int}(h:mmO x i o):((0≤i∧i≤x.length)∧x.length≤300)∧o.length≤12*i:=⟨⟨h.1.1.2,h.1.1.1.2⟩,h.1.2⟩
theorem a0u{x:List Nd}{i t:Int}{o:List Int}(h:mmI x i t o):(((0≤i∧i<x.length)∧x.length≤300)∧(0≤t∧t≤(Ab x i).kids.length)∧(Ab x i).kids.length≤12)∧o.length≤12*i+t:=
 ⟨⟨⟨h.1.1.2,h.1.1.1.2⟩,h.1.2.1,QN h.1.1.1.1 h.1.1.2⟩,h.1.2.2⟩
theorem Mp{x:List Nd}{i:Int}{e:Nd}(he:x[i.toNat]? =some e):kindAt x i=e.kind:=by rw[kindAt,AZ he]
theorem a9P{x:List Nd}{i:Int}{o:List Int}{e:Nd}(h:mmO x i o)(he:x[i.toNat]? =some e)(h1:e.kind≠21)(h2:e.kind≠22):mmO x (i+1) o:=by
 have hl:=(List.getElem?_eq_some_iff.1 he).1
 obtain⟨⟨⟨h3,h4⟩,h5⟩,h6⟩:=h
 refine⟨⟨⟨h3,by omega,by omega⟩,by omega⟩,?_⟩
 rw[a0j h4.1 he,←h6,Gd,decide_eq_false h1,decide_eq_false h2];simp
theorem a0v{x:List Nd}{i:Int}{o:List Int}{e:Nd}(h:mmO x i o)(he:x[i.toNat]? =some e)(hk:e.kind=21∨e.kind=22):mmI x i 0 o:=by
 have hl:=(List.getElem?_eq_some_iff.1 he).1
 obtain⟨⟨⟨h3,h4⟩,h5⟩,h6⟩:=h
 refine⟨⟨⟨h3,h4.1,by omega⟩,⟨by omega,by omega⟩,by omega⟩,?_,by simp [HX,h6]⟩
 rw[Mp he,Gd];rcases hk with hk|hk<;>simp [hk]
theorem a9Q{x:List Nd}{i:Int}{o:List Int}{e:Nd}(h:mmO x i o)(he:x[i.toNat]? =some e)(hk:e.kind=21):mmI x i 0 o:=a0v h he (.inl hk)
theorem a9R{x:List Nd}{i:Int}{o:List Int}{e:Nd}(h:mmO x i o)(he:x[i.toNat]? =some e)(hk:e.kind=22):mmI x i 0 o:=a0v h he (.inr hk)
theorem a9S{x:List Nd}{i t c:Int}{o:List Int}(h:mmI x i t o)(hc:(Ab x i).kids[t.toNat]? =some c):0≤c∧c<x.length:=by
 have hi:=h.1.1.2
 have hn:=(Dd h.1.1.1.1).1.1 i.toNat (by omega)
 rw[show((i.toNat:Nat):Int)=i by omega] at hn
 have:=(CS hn).2.2.2.1 c (List.mem_of_getElem? hc)
 omega
theorem a9T{x:List Nd}{i t c:Int}{o:List Int}{e:Nd}(h:mmI x i t o)(hc:(Ab x i).kids[t.toNat]? =some c)(he:x[c.toNat]? =some e)(hk:e.kind≠19):mmI x i (t+1) (o++[c]):=by
 have hl:=(List.getElem?_eq_some_iff.1 hc).1
 obtain⟨⟨h1,h2,h3⟩,h4,h5⟩:=h
 refine⟨⟨h1,by omega,by rw[List.length_append];simp;omega⟩,h4,?_⟩
 rw[a0k h2.1 hc,Mp he,if_neg hk,h5];simp
theorem a9U{x:List Nd}{i t c:Int}{o:List Int}{e:Nd}(h:mmI x i t o)(hc:(Ab x i).kids[t.toNat]? =some c)(he:x[c.toNat]? =some e)(hk:e.kind=19):mmI x i (t+1) o:=by
 have hl:=(List.getElem?_eq_some_iff.1 hc).1
 obtain⟨⟨h1,h2,h3⟩,h4,h5⟩:=h
 refine⟨⟨h1,by omega,by omega⟩,h4,?_⟩
 rw[a0k h2.1 hc,Mp he,if_pos hk,h5];simp
theorem a9V{x:List Nd}{i t:Int}{o:List Int}(h:mmI x i t o)(hl:¬t<((Ab x i).kids.length:Int)):mmO x (i+1) o:=by
 have hb:=a0u h
 obtain⟨⟨h1,h2,h3⟩,h4,h5⟩:=h
 refine⟨⟨⟨h1.1,by omega,by omega⟩,by omega⟩,?_⟩
 have he:x[i.toNat]? =some (Ab x i):=HY h1.2.1 h1.2.2
 rw[a0j h1.2.1 he,h5,List.take_of_length_le (l:=(Ab x i).kids) (by omega)]
 rw[kindAt] at h4;rw[if_pos h4]
theorem a9W{x:List Nd}{i:Int}{o:List Int}(h:mmO x i o)(hl:¬i<(x.length:Int)):EG o=memL x:=by
 rw[h.2,List.take_of_length_le (by omega)];exact a9G h.1.1.1.1
theorem QO{x:List Nd}(h:treeOk x=false):([]:List Int)=memL x:=by rw[memL,if_neg (by rw[h];simp)]
def mmK(x:List Nd)(i:Int×List Int):LS:= {
 ι:=Int×List Int,inv:=fun j=>mmI x i.1 j.1 j.2,
 regs:=fun j=>[(0,nds x),(3,Ae j.2),(11,nds x),(12,.int .i64 x.length),(13,.int .i64 i.1),(26,An (Ab x i.1).kids),(27,.int .i64 (Ab x i.1).kids.length),(28,.int .i64 j.1)],als:=[],meas:=fun j=>(Ab x i.1).kids.length-j.1.toNat}
def mmL(x:List Nd):LS:= {
 ι:=Int×List Int,inv:=fun i=>mmO x i.1 i.2,
 regs:=fun i=>[(0,nds x),(3,Ae i.2),(11,nds x),(12,.int .i64 x.length),(13,.int .i64 i.1)],als:=[],meas:=fun i=>x.length-i.1.toNat,sub:=fun i=>[(9,mmK x i)]}
def smI(x:List Nd)(m:List Bool)(i:Int)(o:List Int):Prop:=(((treeOk x=true∧x.length≤300)∧m.length=x.length)∧0≤i∧i≤m.length)∧MK x.length (HW x x.length) m∧o=DB (m.take i.toNat)
theorem a9X{x:List Nd}{m:List Bool}{i:Int}(ht:treeOk x=true)(h:moI x i m)(hl:¬i<(x.length:Int)):smI x m 0 []:=by
 have e:i=x.length:=by have:=h.1;omega
 subst e
 exact⟨⟨⟨⟨ht,(Dd ht).2.2.1⟩,h.2.1⟩,by omega,by omega⟩,h.2,by simp [DB,EF]⟩
theorem a9Y{x:List Nd}{m:List Bool}{i:Int}{o:List Int}(h:smI x m i o):((0≤i∧i≤m.length)∧m.length≤300)∧o.length≤m.length:=by
 refine⟨⟨h.1.2,by rw[h.1.1.2];exact h.1.1.1.2⟩,?_⟩
 rw[h.2.2];exact Nat.le_trans (Og _) (by rw[List.length_take];omega)
theorem a9Z{x:List Nd}{m:List Bool}{i:Int}{o:List Int}{b:Bool}(h:smI x m i o)(hb:m[i.toNat]? =some b)(ht:b=true):smI x m (i+1) (o++[i]):=by
 have hl:=(List.getElem?_eq_some_iff.1 hb).1
 obtain⟨⟨h1,h2⟩,h3,h4⟩:=h
 subst ht
 exact⟨⟨h1,by omega,by omega⟩,h3,by rw[Qy h2.1 hb,h4];simp⟩
theorem b0a{x:List Nd}{m:List Bool}{i:Int}{o:List Int}{b:Bool}(h:smI x m i o)(hb:m[i.toNat]? =some b)(ht:b=false):smI x m (i+1) o:=by
 have hl:=(List.getElem?_eq_some_iff.1 hb).1
 obtain⟨⟨h1,h2⟩,h3,h4⟩:=h
 subst ht
 exact⟨⟨h1,by omega,by omega⟩,h3,by rw[Qy h2.1 hb,h4];simp⟩
theorem b0b{x:List Nd}{m:List Bool}{i:Int}{o:List Int}(h:smI x m i o)(hl:¬i<(m.length:Int)):o=memL x:=by
 have ht:=h.1.1.1.1
 rw[h.2.2,List.take_of_length_le (by omega),memL,if_pos ht]
 exact YV h.2.1 (Mi fun j hj=>QJ (Dd ht).1 (Int.le_refl _) hj)
def moJ(x:List Nd)(i:Int)(m:List Bool):Prop:=moI x i m∧treeOk x=true
def mnJ(x:List Nd)(i t:Int)(m:List Bool):Prop:=mnI x i t m∧treeOk x=true
theorem b0c{x:List Nd}(h:treeOk x=true):moJ x 0 (List.replicate x.length false):=⟨a9C (Dd h).1,h⟩
theorem b0d{x:List Nd}{i:Int}{m:List Bool}(h:moJ x i m):((0≤i∧i≤x.length)∧x.length≤300)∧m.length=x.length:=⟨⟨h.1.1.2,(Dd h.2).2.2.1⟩,h.1.2.1⟩
theorem Uu{x:List Nd}{i t:Int}{m:List Bool}(h:mnJ x i t m):(((0≤i∧i<x.length)∧x.length≤300)∧(0≤t∧t≤(Ab x i).kids.length)∧(Ab x i).kids.length≤12)∧m.length=x.length:=
 ⟨⟨⟨h.1.1.1.2,(Dd h.2).2.2.1⟩,h.1.1.2,QN h.2 h.1.1.1.2⟩,h.1.2.1⟩
theorem b0e{x:List Nd}{i:Int}{m:List Bool}(h:moJ x i m)(hi:i<x.length):mnJ x i 0 m:=⟨a9D h.1 hi,h.2⟩
theorem b0f{x:List Nd}{i t c:Int}{m:List Bool}{e:Nd}(h:mnJ x i t m)(he:x[i.toNat]? =some e)(hc:e.kids[t.toNat]? =some c):0≤c∧c<x.length:=a0f h.1 (by rw[AZ he];exact hc)
theorem a0w{x:List Nd}{i t c:Int}{m:List Bool}{e y:Nd}{b:Bool}(h:mnJ x i t m)(he:x[i.toNat]? =some e)(hk:e.kind=22∨e.kind=21)(hc:e.kids[t.toNat]? =some c)(hy:x[c.toNat]? =some y)(hb:b=(y.kind != 19)):mnJ x i (t+1) (m.set c.toNat b):=by
 refine⟨a9E h.1 ?_ (by rw[AZ he];exact hc) ?_,h.2⟩
 ·rw[Mp he,Gd];rcases hk with hk|hk<;>simp [hk]
 ·rw[Mp hy,hb];rfl
theorem b0g{x:List Nd}{i t:Int}{m:List Bool}{e:Nd}(h:mnJ x i t m)(he:x[i.toNat]? =some e)(hl:¬t<(e.kids.length:Int)):moJ x (i+1) m:=⟨a0g h.1 (.inl (by rw[AZ he];exact hl)),h.2⟩
theorem b0h{x:List Nd}{i t:Int}{m:List Bool}{e:Nd}(h:mnJ x i t m)(he:x[i.toNat]? =some e)(h1:e.kind≠22)(h2:e.kind≠21):moJ x (i+1) m:=⟨a0g h.1 (.inr (by rw[Mp he,Gd,decide_eq_false h1,decide_eq_false h2];rfl)),h.2⟩
theorem b0i{x:List Nd}{i:Int}{m:List Bool}(h:moJ x i m)(hl:¬i<(x.length:Int)):smI x m 0 []:=a9X h.2 h.1 hl
theorem b0j{x:List Nd}{i t:Int}{m:List Bool}{e:Nd}(h:mnJ x i t m)(he:x[i.toNat]? =some e):(Ab x i).kids=e.kids:=by rw[AZ he]
noncomputable def msC (x:List Nd) (i:Int×List Bool) (j:Int×List Bool):LS:= {
 ι:=List Bool×Unit,inv:=fun q=>mnJ x i.1 (j.1+1) q.1,
 regs:=fun q=>[(0,nds x),(3,Ae []),(4,BX q.1),(5,.int .i64 i.1),(6,.int .i64 j.1)],als:=[],meas:=fun _=>0}
noncomputable def msK (x:List Nd) (i:Int×List Bool):LS:= {
 ι:=Int×List Bool,inv:=fun j=>mnJ x i.1 j.1 j.2,
 regs:=fun j=>[(0,nds x),(3,Ae []),(4,BX j.2),(5,.int .i64 i.1),(6,.int .i64 j.1)],als:=[],meas:=fun j=>(Ab x i.1).kids.length-j.1.toNat,sub:=fun j=>[(100011,msC x i j)]}
noncomputable def msL (x:List Nd):LS:= {
 ι:=Int×List Bool,inv:=fun i=>moJ x i.1 i.2,regs:=fun i=>[(0,nds x),(3,Ae []),(4,BX i.2),(5,.int .i64 i.1)],als:=[],meas:=fun i=>x.length-i.1.toNat,sub:=fun i=>[(9,msK x i)]}
attribute [local irreducible] mmO mmI memL smI moJ mnJ treeOk
noncomputable def KL:Sig:= {X:=List Nd×Unit,args:=fun x=>[nds x.1],pre:=fun x=>Bc x.1∧x.1.length≤2^30,Y:=Unit,post:=fun x y=>True,res:=fun x y=>Ae (memL x.1),outs:=fun x y=>[.top],keep:=false}
theorem b0k:Al G Tryz.prog 46 KL:=
 vcFun_okP [(13,0,HQ),(97,0,KJ)] [(26,⟨Int,Bh⟩)] false (fun x=>[(5,mmL x.1)]) Tryz.func46 rfl (by decide) ⟨a7r,a9z,trivial⟩ (fun(x:List Nd×Unit)=>(∀(y:Unit),True→(∀(x:Int),True∧True)∧True∧True)∧cA HQ [nds x.1] fun x_1 y=>Aa (!treeOk x_1) (rA KL x [.nil,.top]) (eA (mmL x.1) [nds x.1,.nil,nds x.1,.int .i64 (↑(List.length x.1):Int),.int .i64 (0:Int)]∧∀(i:Int×List Int),mmO x.1 i.1 i.2→Aa (decide (i.1<(↑(List.length x.1):Int))) (((0:Int)≤i.1∧i.1<(↑(List.length x.1):Int))∧∀(e:Nd),x.1[Int.toNat i.1]? =some e→Aa (e.kind != (21:Int)) (Aa (e.kind != (22:Int)) (inR IntKind.i64 (i.1+(1:Int))∧eN (mmL x.1) i [nds x.1,Ae i.2,nds x.1,.int .i64 (↑(List.length x.1):Int),.int .i64 (i.1+(1:Int))]) (eA (mmK x.1 i) [nds x.1,Ae i.2,nds x.1,.int .i64 (↑(List.length x.1):Int),.int .i64 i.1,An e.kids,.int .i64 (↑(List.length e.kids):Int),.int .i64 (0:Int)]∧∀(i_1:Int×List Int),mmI x.1 i.1 i_1.1 i_1.2→Aa (decide (i_1.1<(↑(List.length (Ab x.1 i.1).kids):Int))) (((0:Int)≤i_1.1∧i_1.1<(↑(List.length (Ab x.1 i.1).kids):Int))∧∀(e:Int),(Ab x.1 i.1).kids[Int.toNat i_1.1]? =some e→((0:Int)≤e∧e<(↑(List.length x.1):Int))∧∀(e_1:Nd),x.1[Int.toNat e]? =some e_1→Aa (e_1.kind != (19:Int)) (∃(x_2:Int),e=x_2∧∃(zs:List Int),Ae [x_2]=Ae zs∧BG Bh∧Bb (List.length i_1.2+List.length zs) (8:Nat)∧inR IntKind.i64 (i_1.1+(1:Int))∧eN (mmK x.1 i) i_1 [nds x.1,Ae (i_1.2++zs),nds x.1,.int .i64 (↑(List.length x.1):Int),.int .i64 i.1,An (Ab x.1 i.1).kids,.int .i64 (↑(List.length (Ab x.1 i.1).kids):Int),.int .i64 (i_1.1+(1:Int))]) (inR IntKind.i64 (i_1.1+(1:Int))∧eN (mmK x.1 i) i_1 [nds x.1,Ae i_1.2,nds x.1,.int .i64 (↑(List.length x.1):Int),.int .i64 i.1,An (Ab x.1 i.1).kids,.int .i64 (↑(List.length (Ab x.1 i.1).kids):Int),.int .i64 (i_1.1+(1:Int))])) (inR IntKind.i64 (i.1+(1:Int))∧eN (mmL x.1) i [nds x.1,Ae i_1.2,nds x.1,.int .i64 (↑(List.length x.1):Int),.int .i64 (i.1+(1:Int))]))) (eA (mmK x.1 i) [nds x.1,Ae i.2,nds x.1,.int .i64 (↑(List.length x.1):Int),.int .i64 i.1,An e.kids,.int .i64 (↑(List.length e.kids):Int),.int .i64 (0:Int)]∧∀(i_1:Int×List Int),mmI x.1 i.1 i_1.1 i_1.2→Aa (decide (i_1.1<(↑(List.length (Ab x.1 i.1).kids):Int))) (((0:Int)≤i_1.1∧i_1.1<(↑(List.length (Ab x.1 i.1).kids):Int))∧∀(e:Int),(Ab x.1 i.1).kids[Int.toNat i_1.1]? =some e→((0:Int)≤e∧e<(↑(List.length x.1):Int))∧∀(e_1:Nd),x.1[Int.toNat e]? =some e_1→Aa (e_1.kind != (19:Int)) (∃(x_2:Int),e=x_2∧∃(zs:List Int),Ae [x_2]=Ae zs∧BG Bh∧Bb (List.length i_1.2+List.length zs) (8:Nat)∧inR IntKind.i64 (i_1.1+(1:Int))∧eN (mmK x.1 i) i_1 [nds x.1,Ae (i_1.2++zs),nds x.1,.int .i64 (↑(List.length x.1):Int),.int .i64 i.1,An (Ab x.1 i.1).kids,.int .i64 (↑(List.length (Ab x.1 i.1).kids):Int),.int .i64 (i_1.1+(1:Int))]) (inR IntKind.i64 (i_1.1+(1:Int))∧eN (mmK x.1 i) i_1 [nds x.1,Ae i_1.2,nds x.1,.int .i64 (↑(List.length x.1):Int),.int .i64 i.1,An (Ab x.1 i.1).kids,.int .i64 (↑(List.length (Ab x.1 i.1).kids):Int),.int .i64 (i_1.1+(1:Int))])) (inR IntKind.i64 (i.1+(1:Int))∧eN (mmL x.1) i [nds x.1,Ae i_1.2,nds x.1,.int .i64 (↑(List.length x.1):Int),.int .i64 (i.1+(1:Int))]))) (cA KJ [Ae i.2] fun x_2 y=>rA KL x [Ae (EG x_2),.top]))) (fun x=>by kernel_rfl) fun(x:List Nd×Unit) (hx:Bc x.1∧x.1.length≤2^30)=>(by
 dsimp only[cA,eA,eN,An,mmK,mmL,Bt,nds,Ae,rA,KL,HQ,KJ,Av,AA,mvL,lnL,mvE,lnE,Bi]
 obtain⟨x,_⟩:=x;dsimp only at hx ⊢
 obtain⟨h1,h2⟩:=hx
 (repeat' first|(with_reducible first|rfl|exact True.intro|apply AL|apply And.intro|((first|apply AB|apply AJ|apply AC|apply AK)<;>intro _))|(apply Az<;>intro _)|apply AI|refine Ag () ?_ ?_|((first|apply AP|apply AO|apply AN|apply AM|apply AH|apply AG|apply AF|apply AE|apply AD)<;>try dsimp only)|apply Ag|(refine Prod.forall.2 ?_;intro _;try dsimp only)|(intro _;try dsimp only))
 all_goals(try(repeat(rename(_:List Nd)[_]? =some _=>hq;revert hq;rename(_:List Nd)[_]? =some _=>hr;intro hq;rw[hr] at hq;cases hq)))
 all_goals(try(have hB:=a9O (show mmO _ _ _ by assumption)))
 all_goals(try(have hC:=a0u (show mmI _ _ _ _ by assumption)))
 all_goals first
  |rfl
  |omega
  |exact()
  |exact h1
  |exact h2
  |exact(QO ‹_›).symm
  |exact QO ‹_›
  |exact a9N ‹_›
  |exact a9P ‹_› ‹_› ‹_› ‹_›
  |exact a9Q ‹_› ‹_› ‹_›
  |exact a9R ‹_› ‹_› ‹_›
  |(rw[AZ ‹_›];done)
  |(have hq:=a9S (show mmI _ _ _ _ by assumption) ‹_›;omega)
  |exact a9T ‹_› ‹_› ‹_› ‹_›
  |exact a9U ‹_› ‹_› ‹_› ‹_›
  |exact a9V ‹_› ‹_›
  |exact a9W ‹_› ‹_›
  |((try simp only[AR,Bb,List.length_cons,List.length_nil]);omega)
  |skip)
noncomputable def KM:Sig:= {X:=List Nd×Unit,args:=fun x=>[nds x.1],pre:=fun x=>Bc x.1∧x.1.length≤2^30,Y:=Unit,post:=fun x y=>True,res:=fun x y=>Ae (memL x.1),outs:=fun x y=>[.top],keep:=false}
noncomputable def Oy (x:List Nd×Unit):LS:= {ι:=List Bool×Int×List Int,inv:=fun i=>smI x.1 i.1 i.2.1 i.2.2,regs:=fun i=>[(3,Ae i.2.2),(4,BX i.1),(7,.int .i64 i.2.1)],als:=[],meas:=fun i=>i.1.length-i.2.1.toNat}
theorem b0l:Al G Tryz.prog 47 KM:=
 vcFun_okP [(17,0,DN)] [(26,⟨Int,Bh⟩),(76,⟨Bool,Bq⟩)] false (fun x=>[(6,msL x.1),(13,Oy x)]) Tryz.func47 rfl (by decide) ⟨Qx,trivial⟩ (fun(x:List Nd×Unit)=>(∀(y:Unit),True→(∀(x:Int),True∧True)∧True∧True)∧cA DN [nds x.1] fun x_1 y=>Aa (!treeOk x_1) (rA KM x [Ae [],.top]) (((0:Int)≤(↑(List.length x.1):Int)∧(↑(List.length x.1):Int)≤(↑(List.length x.1):Int)∧(↑(1:Nat):Int)*(↑(List.length x.1):Int)≤(2:Int)^(46:Nat)∧(↑(List.length x.1):Int)≤(2:Int)^(46:Nat))∧∃(x_2:Bool),false=x_2∧eA (msL x.1) [nds x.1,Ae [],AV.sl true (0:Nat) (1:Nat) Bool Bq (List.replicate (Int.toNat (↑(List.length x.1):Int)) x_2),.int .i64 (0:Int)]∧∀(i:Int×List Bool),moJ x.1 i.1 i.2→Aa (decide (i.1<(↑(List.length x.1):Int))) (eA (msK x.1 i) [nds x.1,Ae [],AV.sl true (0:Nat) (1:Nat) Bool Bq i.2,.int .i64 i.1,.int .i64 (0:Int)]∧∀(i_1:Int×List Bool),mnJ x.1 i.1 i_1.1 i_1.2→((0:Int)≤i.1∧i.1<(↑(List.length x.1):Int))∧∀(e:Nd),x.1[Int.toNat i.1]? =some e→Aa (decide (i_1.1<(↑(List.length e.kids):Int))) (((0:Int)≤i.1∧i.1<(↑(List.length x.1):Int))∧∀(e:Nd),x.1[Int.toNat i.1]? =some e→Aa (e.kind==(22:Int)) (true=true∧(((0:Int)≤i.1∧i.1<(↑(List.length x.1):Int))∧∀(e:Nd),x.1[Int.toNat i.1]? =some e→((0:Int)≤i_1.1∧i_1.1<(↑(List.length e.kids):Int))∧∀(e_1:Int),e.kids[Int.toNat i_1.1]? =some e_1→((0:Int)≤i.1∧i.1<(↑(List.length x.1):Int))∧∀(e:Nd),x.1[Int.toNat i.1]? =some e→((0:Int)≤i_1.1∧i_1.1<(↑(List.length e.kids):Int))∧∀(e_2:Int),e.kids[Int.toNat i_1.1]? =some e_2→((0:Int)≤e_2∧e_2<(↑(List.length x.1):Int))∧∀(e:Nd),x.1[Int.toNat e_2]? =some e→((0:Int)≤e_1∧e_1<(↑(List.length i_1.2):Int))∧Int.toNat e_1<List.length i_1.2∧∀(x_3:Bool),i_1.2[Int.toNat e_1]? =some x_3→∃(x':Bool),((@List.nil AV)=[]∧(@List.nil AV)=[])∧(e.kind != (19:Int))=x'∧true=true∧eA (msC x.1 i i_1) [nds x.1,Ae [],AV.sl true (0:Nat) (1:Nat) Bool Bq (List.set i_1.2 (Int.toNat e_1) x'),.int .i64 i.1,.int .i64 i_1.1])∧∀(i_2:List Bool×Unit),mnJ x.1 i.1 (i_1.1+(1:Int)) i_2.1→inR IntKind.i64 (i_1.1+(1:Int))∧eN (msK x.1 i) i_1 [nds x.1,Ae [],AV.sl true (0:Nat) (1:Nat) Bool Bq i_2.1,.int .i64 i.1,.int .i64 (i_1.1+(1:Int))]) (((0:Int)≤i.1∧i.1<(↑(List.length x.1):Int))∧∀(e:Nd),x.1[Int.toNat i.1]? =some e→Aa (e.kind==(21:Int)) (true=true∧(((0:Int)≤i.1∧i.1<(↑(List.length x.1):Int))∧∀(e:Nd),x.1[Int.toNat i.1]? =some e→((0:Int)≤i_1.1∧i_1.1<(↑(List.length e.kids):Int))∧∀(e_1:Int),e.kids[Int.toNat i_1.1]? =some e_1→((0:Int)≤i.1∧i.1<(↑(List.length x.1):Int))∧∀(e:Nd),x.1[Int.toNat i.1]? =some e→((0:Int)≤i_1.1∧i_1.1<(↑(List.length e.kids):Int))∧∀(e_2:Int),e.kids[Int.toNat i_1.1]? =some e_2→((0:Int)≤e_2∧e_2<(↑(List.length x.1):Int))∧∀(e:Nd),x.1[Int.toNat e_2]? =some e→((0:Int)≤e_1∧e_1<(↑(List.length i_1.2):Int))∧Int.toNat e_1<List.length i_1.2∧∀(x_3:Bool),i_1.2[Int.toNat e_1]? =some x_3→∃(x':Bool),((@List.nil AV)=[]∧(@List.nil AV)=[])∧(e.kind != (19:Int))=x'∧true=true∧eA (msC x.1 i i_1) [nds x.1,Ae [],AV.sl true (0:Nat) (1:Nat) Bool Bq (List.set i_1.2 (Int.toNat e_1) x'),.int .i64 i.1,.int .i64 i_1.1])∧∀(i_2:List Bool×Unit),mnJ x.1 i.1 (i_1.1+(1:Int)) i_2.1→inR IntKind.i64 (i_1.1+(1:Int))∧eN (msK x.1 i) i_1 [nds x.1,Ae [],AV.sl true (0:Nat) (1:Nat) Bool Bq i_2.1,.int .i64 i.1,.int .i64 (i_1.1+(1:Int))]) (inR IntKind.i64 (i.1+(1:Int))∧eN (msL x.1) i [nds x.1,Ae [],AV.sl true (0:Nat) (1:Nat) Bool Bq i_1.2,.int .i64 (i.1+(1:Int))]))) (inR IntKind.i64 (i.1+(1:Int))∧eN (msL x.1) i [nds x.1,Ae [],AV.sl true (0:Nat) (1:Nat) Bool Bq i_1.2,.int .i64 (i.1+(1:Int))])) (eA (Oy x) [Ae [],AV.sl true (0:Nat) (1:Nat) Bool Bq i.2,.int .i64 (0:Int)]∧∀(i:List Bool×Int×List Int),smI x.1 i.1 i.2.1 i.2.2→Aa (decide (i.2.1<(↑(List.length i.1):Int))) (((0:Int)≤i.2.1∧i.2.1<(↑(List.length i.1):Int))∧Int.toNat i.2.1<List.length i.1∧∀(x_3:Bool),i.1[Int.toNat i.2.1]? =some x_3→Aa x_3 (∃(x_4:Int),i.2.1=x_4∧∃(zs:List Int),Ae [x_4]=Ae zs∧BG Bh∧Bb (List.length i.2.2+List.length zs) (8:Nat)∧inR IntKind.i64 (i.2.1+(1:Int))∧eN (Oy x) i [Ae (i.2.2++zs),AV.sl true (0:Nat) (1:Nat) Bool Bq i.1,.int .i64 (i.2.1+(1:Int))]) (inR IntKind.i64 (i.2.1+(1:Int))∧eN (Oy x) i [Ae i.2.2,AV.sl true (0:Nat) (1:Nat) Bool Bq i.1,.int .i64 (i.2.1+(1:Int))])) (rA KM x [Ae i.2.2,.top])))) (fun x=>by kernel_rfl) fun(x:List Nd×Unit) (hx:Bc x.1∧x.1.length≤2^30)=>(by
 dsimp only[BX,cA,eA,eN,Oy,msC,msK,msL,Bt,nds,Ae,rA,KM,DN,Av,AA,mvL,lnL,mvE,lnE,Bi]
 obtain⟨x,_⟩:=x;dsimp only at hx ⊢
 obtain⟨h1,h2⟩:=hx
 (repeat' first|(with_reducible first|rfl|exact True.intro|apply AL|apply And.intro|((first|apply AB|apply AJ|apply AC|apply AK)<;>intro _))|(apply Az<;>intro _)|apply AI|refine Ag () ?_ ?_|((first|apply AP|apply AO|apply AN|apply AM|apply AH|apply AG|apply AF|apply AE|apply AD)<;>try dsimp only)|apply Ag|(refine Prod.forall.2 ?_;intro _;try dsimp only)|(intro _;try dsimp only))
 all_goals(try((repeat(rename(_:List Nd)[Int.toNat _]? =some _=>hq;have hqe:=AZ hq;subst hqe;revert hq));intros))
 all_goals(try(repeat(rename(_:List Int)[_]? =some _=>hq;revert hq;rename(_:List Int)[_]? =some _=>hr;intro hq;rw[hr] at hq;cases hq)))
 all_goals(try(have hB:=b0d (show moJ _ _ _ by assumption)))
 all_goals(try(have hC:=Uu (show mnJ _ _ _ _ by assumption)))
 all_goals(try(have hD:=a9Y (show smI _ _ _ _ by assumption)))
 all_goals(try(have hK:=b0j (show mnJ _ _ _ _ by assumption) ‹_›;rw[hK] at hC))
 all_goals first
  |rfl
  |omega
  |exact()
  |exact h1
  |exact h2
  |exact(QO ‹_›).symm
  |exact QO ‹_›
  |exact b0c ‹_›
  |exact b0e ‹_› ‹_›
  |(have hq:=b0f (show mnJ _ _ _ _ by assumption) ‹_› ‹_›;omega)
  |exact a0w ‹_› ‹_› (.inl ‹_›) ‹_› ‹_› rfl
  |exact a0w ‹_› ‹_› (.inr ‹_›) ‹_› ‹_› rfl
  |exact b0g ‹_› ‹_› ‹_›
  |exact b0h ‹_› ‹_› ‹_› ‹_›
  |exact b0i ‹_› ‹_›
  |exact a9Z ‹_› ‹_› ‹_›
  |exact b0a ‹_› ‹_› ‹_›
  |exact b0b ‹_› ‹_›
  |(rename mnJ _ _ _ _=>u1;have q1:=Uu u1;clear u1;rename mnJ _ _ _ _=>u2;have q2:=Uu u2;omega)
  |((try rw[hK]);(try simp only[AR,Bb,List.length_cons,List.length_nil]);omega)
  |skip)
end Go.My
end
section
set_option linter.unusedVariables false
set_option linter.unusedSimpArgs false
namespace Go.My
open Go.Eng Go.Proofs
variable {G:GInv}
def byA:UInt8→List AV:=fun c=>[.int .u8 c.toNat]
theorem Eb(c:UInt8):byA c=[.int .u8 c.toNat]:=rfl
def byL(l:List UInt8):AV:= .sl false 0 1 UInt8 byA l
def cur(b:List UInt8)(i h:Int):List AV:=[.sl false 0 1 UInt8 byA b,.int .i64 i,.int .i64 h]
def Af(b:List UInt8)(i:Int):Prop:=(0≤i∧i≤b.length)∧b.length≤2^21
theorem Uv{n:Int}(h1: -9223372036854775808≤n)(h2:n≤9223372036854775807):IntKind.i64.wrap n=n:=Pm ⟨by simp [IntKind.min,IntKind.bits,IntKind.signed];omega,by simp [IntKind.max,IntKind.bits,IntKind.signed];omega⟩
theorem a0x(a:Int):0≤Du .and .i64 a 255∧Du .and .i64 a 255≤255:=by
 unfold Du
 have h:(BitVec.ofInt IntKind.i64.bits a&&& BitVec.ofInt IntKind.i64.bits 255).toNat≤255:=by
  rw[BitVec.toNat_and]
  exact Nat.le_trans Nat.and_le_right (by decide)
 simp only
 rw[Uv (by omega) (by omega)]
 omega
theorem Uw(a:Int):0≤Du .and .i64 a 1073741823∧Du .and .i64 a 1073741823≤1073741823:=by
 unfold Du
 have h:(BitVec.ofInt IntKind.i64.bits a&&& BitVec.ofInt IntKind.i64.bits 1073741823).toNat≤1073741823:=by
  rw[BitVec.toNat_and]
  exact Nat.le_trans Nat.and_le_right (by decide)
 simp only
 rw[Uv (by omega) (by omega)]
 omega
theorem Oz{a n:Int}(h0:0≤a)(hn:0<n):0≤a.tmod n∧a.tmod n<n:=⟨Int.tmod_nonneg n h0,Int.tmod_lt_of_pos a hn⟩
def FD:Sig:= {X:=List UInt8×Int×Int,args:=fun x=>[.box 0 (cur x.1 x.2.1 x.2.2)],pre:=fun x=>Af x.1 x.2.1,Y:=Int×Int×Int,post:=fun x y=>(0≤y.1∧y.1≤255)∧Af x.1 y.2.1,res:=fun x y=> .int .i64 y.1,outs:=fun x y=>[.box 0 (cur x.1 y.2.1 y.2.2)],keep:=true}
theorem a0y:Al G Tryz.prog 50 FD:=
 vcFun_okP [] [] true (fun x=>[]) Tryz.func50 rfl (by decide) trivial (fun(x:List UInt8×Int×Int)=>True∧true=true∧true=true∧(0:Int)≤(33:Int)∧(0:Int)≤(45:Int)∧true=true∧true=true∧Aa (decide (x.2.1<(↑(List.length x.1):Int))) (true=true∧true=true∧((0:Int)≤x.2.1∧x.2.1<(↑(List.length x.1):Int))∧∀(e:UInt8),x.1[Int.toNat x.2.1]? =some e→rA FD x [.int .i64 (Du BinOp.and IntKind.i64 (IntKind.wrap IntKind.i64 (Du BinOp.and IntKind.i64 (Du BinOp.xor IntKind.i64 (shI false IntKind.i64 (IntKind.wrap IntKind.i64 (IntKind.wrap IntKind.i64 (x.2.2*(6364136223846793005:Int))+(1442695040888963407:Int))) (33:Int)) (shI false IntKind.i64 (IntKind.wrap IntKind.i64 (IntKind.wrap IntKind.i64 (x.2.2*(6364136223846793005:Int))+(1442695040888963407:Int))) (45:Int))) (255:Int)+IntKind.wrap IntKind.i64 (↑(UInt8.toNat e):Int))) (255:Int)),.box 0 [byL x.1,.int .i64 (IntKind.wrap IntKind.i64 (x.2.1+(1:Int))),.int .i64 (IntKind.wrap IntKind.i64 (IntKind.wrap IntKind.i64 (x.2.2*(6364136223846793005:Int))+(1442695040888963407:Int)))]]) (rA FD x [.int .i64 (Du BinOp.and IntKind.i64 (Du BinOp.xor IntKind.i64 (shI false IntKind.i64 (IntKind.wrap IntKind.i64 (IntKind.wrap IntKind.i64 (x.2.2*(6364136223846793005:Int))+(1442695040888963407:Int))) (33:Int)) (shI false IntKind.i64 (IntKind.wrap IntKind.i64 (IntKind.wrap IntKind.i64 (x.2.2*(6364136223846793005:Int))+(1442695040888963407:Int))) (45:Int))) (255:Int)),.box 0 [byL x.1,.int .i64 x.2.1,.int .i64 (IntKind.wrap IntKind.i64 (IntKind.wrap IntKind.i64 (x.2.2*(6364136223846793005:Int))+(1442695040888963407:Int)))]])) (fun x=>by kernel_rfl) fun(x:List UInt8×Int×Int) (hx:Af x.1 x.2.1)=>(by
 dsimp only[Eb,byL,cur,rA,FD,Av,AA]
 obtain⟨b,i,h⟩:=x;dsimp only at hx ⊢
 have hx:Af b i:=hx
 have hb:=hx.1;have hl:=hx.2
 (repeat' first|(with_reducible first|rfl|exact True.intro|apply AL|apply And.intro|((first|apply AB|apply AJ|apply AC|apply AK)<;>intro _))|(apply Az<;>intro _)|apply AI|refine Ag () ?_ ?_|((first|apply AP|apply AO|apply AN|apply AM|apply AH|apply AG|apply AF|apply AE|apply AD)<;>try dsimp only)|apply Ag|(refine Prod.forall.2 ?_;intro _;try dsimp only)|(intro _;try dsimp only))
 all_goals first
  |rfl
  |omega
  |exact(a0x _).1
  |exact(a0x _).2
  |exact hx
  |(rw[Uv (by omega) (by omega)];exact⟨by omega,hl⟩)
  |skip)
def De:Sig:= {X:=List UInt8×Int×Int×Int,args:=fun x=>[.box 0 (cur x.1 x.2.1 x.2.2.1),.int .i64 x.2.2.2],pre:=fun x=>Af x.1 x.2.1,Y:=Int×Int×Int,post:=fun x y=>((0<x.2.2.2→0≤y.1∧y.1<x.2.2.2)∧(x.2.2.2≤0→y.1=0))∧Af x.1 y.2.1,res:=fun x y=> .int .i64 y.1,outs:=fun x y=>[.box 0 (cur x.1 y.2.1 y.2.2),.top],keep:=true}
theorem Hv:Al G Tryz.prog 51 De:=
 vcFun_okP [(50,0,FD)] [] false (fun x=>[]) Tryz.func51 rfl (by decide) ⟨a0y,trivial⟩ (fun(x:List UInt8×Int×Int×Int)=>True∧Aa (decide (x.2.2.2≤(0:Int))) (rA De x [.int .i64 (0:Int),.box 0 (cur x.1 x.2.1 x.2.2.1),.top]) (Aa (decide (x.2.2.2≤(256:Int))) (cA FD [.box 0 (cur x.1 x.2.1 x.2.2.1)] fun x_1 y=>x.2.2.2≠(0:Int)∧rA De x [.int .i64 (Int.tmod y.1 x.2.2.2),.box 0 (cur x_1.1 y.2.1 y.2.2),.top]) (cA FD [.box 0 (cur x.1 x.2.1 x.2.2.1)] fun x_1 y=>cA FD [.box 0 (cur x_1.1 y.2.1 y.2.2)] fun x_2 y_1=>cA FD [.box 0 (cur x_2.1 y_1.2.1 y_1.2.2)] fun x_3 y_2=>cA FD [.box 0 (cur x_3.1 y_2.2.1 y_2.2.2)] fun x_4 y_3=>inR IntKind.i64 (y.1*(16777216:Int))∧inR IntKind.i64 (y_1.1*(65536:Int))∧inR IntKind.i64 (y.1*(16777216:Int)+y_1.1*(65536:Int))∧inR IntKind.i64 (y_2.1*(256:Int))∧inR IntKind.i64 (y.1*(16777216:Int)+y_1.1*(65536:Int)+y_2.1*(256:Int))∧inR IntKind.i64 (y.1*(16777216:Int)+y_1.1*(65536:Int)+y_2.1*(256:Int)+y_3.1)∧x.2.2.2≠(0:Int)∧rA De x [.int .i64 (Int.tmod (y.1*(16777216:Int)+y_1.1*(65536:Int)+y_2.1*(256:Int)+y_3.1) x.2.2.2),.box 0 (cur x_4.1 y_3.2.1 y_3.2.2),.top]))) (fun x=>by kernel_rfl) fun(x:List UInt8×Int×Int×Int) (hx:Af x.1 x.2.1)=>(by
 dsimp only[Eb,cA,cur,rA,De,FD,Av,AA,mvL,lnL,mvE,lnE]
 obtain⟨b,i,h,n⟩:=x;dsimp only at hx ⊢
 have hx:Af b i:=hx
 (repeat' first|(with_reducible first|rfl|exact True.intro|apply AL|apply And.intro|((first|apply AB|apply AJ|apply AC|apply AK)<;>intro _))|(apply Az<;>intro _)|apply AI|refine Ag () ?_ ?_|((first|apply AP|apply AO|apply AN|apply AM|apply AH|apply AG|apply AF|apply AE|apply AD)<;>try dsimp only)|apply Ag|(refine Prod.forall.2 ?_;intro _;try dsimp only)|(intro _;try dsimp only))
 all_goals(repeat(rename(_∧_)∧Af _ _=>hq;obtain⟨⟨_,_⟩,_⟩:=hq))
 all_goals first
  |rfl
  |assumption
  |omega
  |exact(Oz (by omega) (by omega)).1
  |exact(Oz (by omega) (by omega)).2
  |skip)
def KN:Sig:= {X:=List UInt8×Int×Int×Int,args:=fun x=>[.box 0 (cur x.1 x.2.1 x.2.2.1),.int .i64 x.2.2.2],pre:=fun x=>Af x.1 x.2.1,Y:=Bool×Int×Int,post:=fun x y=>Af x.1 y.2.1,res:=fun x y=> .bool y.1,outs:=fun x y=>[.box 0 (cur x.1 y.2.1 y.2.2),.top],keep:=true}
theorem QP:Al G Tryz.prog 55 KN:=
 vcFun_okP [(51,0,De)] [] false (fun x=>[]) Tryz.func55 rfl (by decide) ⟨Hv,trivial⟩ (fun(x:List UInt8×Int×Int×Int)=>True∧cA De [.box 0 (cur x.1 x.2.1 x.2.2.1),.int .i64 x.2.2.2] fun x_1 y=>rA KN x [.bool (y.1==(0:Int)),.box 0 (cur x_1.1 y.2.1 y.2.2),.top]) (fun x=>by kernel_rfl) fun(x:List UInt8×Int×Int×Int) (hx:Af x.1 x.2.1)=>(by
 dsimp only[Eb,cA,cur,rA,De,KN,Av,AA,mvL,lnL,mvE,lnE]
 obtain⟨b,i,h,n⟩:=x;dsimp only at hx ⊢
 have hx:Af b i:=hx
 (repeat' first|(with_reducible first|rfl|exact True.intro|apply AL|apply And.intro|((first|apply AB|apply AJ|apply AC|apply AK)<;>intro _))|(apply Az<;>intro _)|apply AI|refine Ag () ?_ ?_|((first|apply AP|apply AO|apply AN|apply AM|apply AH|apply AG|apply AF|apply AE|apply AD)<;>try dsimp only)|apply Ag|(refine Prod.forall.2 ?_;intro _;try dsimp only)|(intro _;try dsimp only))
 all_goals(repeat(rename(_∧_)∧Af _ _=>hq;obtain⟨⟨_,_⟩,_⟩:=hq))
 all_goals first
  |rfl
  |assumption
  |skip)
def IE:Sig:= {X:=List UInt8×Int×Int×List (List UInt8),args:=fun x=>[.box 0 (cur x.1 x.2.1 x.2.2.1),.sl false 0 1 (List UInt8) Ai x.2.2.2],pre:=fun x=>Af x.1 x.2.1∧x.2.2.2≠[]∧x.2.2.2.length<2^30,Y:=List UInt8×Int×Int,post:=fun x y=>y.1∈x.2.2.2∧Af x.1 y.2.1,res:=fun x y=> .str y.1,outs:=fun x y=>[.box 0 (cur x.1 y.2.1 y.2.2),.top],keep:=true}
theorem Mq:Al G Tryz.prog 123 IE:=
 vcFun_okP [(51,0,De)] [] false (fun x=>[]) Tryz.func123 rfl (by decide) ⟨Hv,trivial⟩ (fun(x:List UInt8×Int×Int×List (List UInt8))=>True∧cA De [.box 0 (cur x.1 x.2.1 x.2.2.1),.int .i64 (↑(List.length x.2.2.2):Int)] fun x_1 y=>((0:Int)≤y.1∧y.1<(↑(List.length x.2.2.2):Int))∧∀(e:List UInt8),x.2.2.2[Int.toNat y.1]? =some e→rA IE x [.str e,.box 0 (cur x_1.1 y.2.1 y.2.2),.top]) (fun x=>by kernel_rfl) fun(x:List UInt8×Int×Int×List (List UInt8)) (hx:Af x.1 x.2.1∧x.2.2.2≠[]∧x.2.2.2.length<2^30)=>(by
 dsimp only[Eb,cA,cur,rA,De,IE,Av,AA,mvL,lnL,mvE,lnE]
 obtain⟨b,i,h,l⟩:=x;dsimp only at hx ⊢
 obtain⟨hx,hn,hl⟩:=hx
 have hp:0<l.length:=by cases l with|nil=>exact(hn rfl).elim|cons _ _=>simp
 (repeat' first|(with_reducible first|rfl|exact True.intro|apply AL|apply And.intro|((first|apply AB|apply AJ|apply AC|apply AK)<;>intro _))|(apply Az<;>intro _)|apply AI|refine Ag () ?_ ?_|((first|apply AP|apply AO|apply AN|apply AM|apply AH|apply AG|apply AF|apply AE|apply AD)<;>try dsimp only)|apply Ag|(refine Prod.forall.2 ?_;intro _;try dsimp only)|(intro _;try dsimp only))
 all_goals(repeat(rename(_∧_)∧Af _ _=>hq;obtain⟨⟨_,_⟩,_⟩:=hq))
 all_goals first
  |rfl
  |assumption
  |exact CZ ‹_›
  |omega
  |skip)
end Go.My
end
