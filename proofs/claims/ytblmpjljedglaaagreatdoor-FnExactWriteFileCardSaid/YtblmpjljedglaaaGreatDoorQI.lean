/- joined -/
import Derived.Test.YtblmpjljedglaaaGreatDoorQH
set_option linter.unusedSimpArgs false
set_option linter.unusedVariables false
section
namespace Go.My
open Go.Eng Go.Proofs
variable {G:GInv}
theorem a3N{p:Pc}{c:Co}{x:List Int}:∀ {r:Nat} {i:Int} {l:List StW},hM p (opN p c x r i l)≤hM p l+r*wt (p.rules.length-(x.length+1))
 |0,i,l=>by simp [opN]
 |r+1,i,l=>by
  rw[opN]
  have h:=a3N (p:=p) (c:=c) (x:=x) (r:=r) (i:=i+1) (l:=if Hc p c (x++[i]) then l else DD l ⟨x++[i],Cl p (x++[i])⟩)
  have h2:hM p (if Hc p c (x++[i]) then l else DD l ⟨x++[i],Cl p (x++[i])⟩)≤hM p l+wt (p.rules.length-(x.length+1)):=by
   split
   ·omega
   ·have:=(Wh (f:=wtS p) (l:=l) (x:=⟨x++[i],Cl p (x++[i])⟩)).1
    have e:wtS p ⟨x++[i],Cl p (x++[i])⟩=wt (p.rules.length-(x.length+1)):=by simp [wtS]
    unfold hM;omega
  rw[Nat.succ_mul];omega
theorem a3O{p:Pc}{c:Co}{x:List Int}(hp:pcOk p)(hv:vOk p x)(hl:x.length<p.rules.length):∀ {r:Nat} {i:Int} {l:List StW},0≤i→i+r≤(CJ p x.length).vals→Hd p l→Hd p (opN p c x r i l)
 |0,i,l,_,_,h=>h
 |r+1,i,l,h0,hi,h=>by
  rw[opN]
  refine a3O hp hv hl (by omega) (by omega) ?_
  split
  ·exact h
  ·have hs:=Wl hv hl h0 (by omega)
   exact a2s h ⟨hs,a2u hp hs⟩
structure huP (p:Pc) (w:Int) (h:Hu):Prop where
 bv:vOk p h.best
 bl:h.best.length=p.rules.length
 co:h.cost=Bi p h.best w
 hk:Hd p h.heap
theorem b4h{p:Pc}{w:Int}{v:List Int}{h:Hu}(hh:huP p w h)(hv:vOk p v)(hl:v.length=p.rules.length):huP p w (EJ p w v h)∧(EJ p w v h).heap=h.heap∧(EJ p w v h).pops=h.pops:=by
 unfold EJ
 split
 ·exact⟨⟨hv,hl,rfl,hh.hk⟩,rfl,rfl⟩
 ·exact⟨hh,rfl,rfl⟩
theorem WP{l:List StW}(h:0<l.length):AN l 0∈l:=AY (KM (l:=l) (i:=0) (by omega) (by omega))
theorem a3P{p:Pc}{w:Int}{h:Hu}(hp:pcOk p)(hh:huP p w h)(hl:0<h.heap.length):huP p w (Ju p w h)∧hM p (Ju p w h).heap<hM p h.heap∧(Ju p w h).pops=h.pops+1:=by
 have h1:=(Wi (f:=wtS p) hl).1
 have h2:=hh.hk _ (WP hl)
 have h3:=a2t hh.hk hl
 have h4:1≤wtS p (AN h.heap 0):=Wj
 unfold Ju
 split
 ·rename_i e
  have:=b4h (v:=(AN h.heap 0).vals) (h:=⟨h.best,h.cost,BJ h.heap,h.pops+1⟩) ⟨hh.bv,hh.bl,hh.co,h3⟩ h2.1 e
  refine⟨this.1,?_,this.2.2⟩
  rw[this.2.1];show hM p (BJ h.heap)<_;unfold hM;omega
 ·rename_i e
  have hlt:(AN h.heap 0).vals.length<p.rules.length:=by have:=h2.1.1;omega
  have hr:=Mz hp (i:=((AN h.heap 0).vals.length:Int)) (by omega) (by omega)
  have h5:=a3N (p:=p) (c:=h.cost) (x:=(AN h.heap 0).vals) (r:=(CJ p (AN h.heap 0).vals.length).vals.toNat) (i:=0) (l:=BJ h.heap)
  refine⟨⟨hh.bv,hh.bl,hh.co,a3O hp h2.1 hlt (by omega) (by omega) h3⟩,?_,rfl⟩
  have e1:wtS p (AN h.heap 0)=1+3*wt (p.rules.length-((AN h.heap 0).vals.length+1)):=by
   rw[wtS,show p.rules.length-(AN h.heap 0).vals.length=(p.rules.length-((AN h.heap 0).vals.length+1))+1 by omega,wt]
  have h6:(CJ p (AN h.heap 0).vals.length).vals.toNat*wt (p.rules.length-((AN h.heap 0).vals.length+1))≤3*wt (p.rules.length-((AN h.heap 0).vals.length+1)):=Nat.mul_le_mul_right _ (by omega)
  show hM p (opN p h.cost (AN h.heap 0).vals (CJ p (AN h.heap 0).vals.length).vals.toNat 0 (BJ h.heap))<hM p h.heap
  unfold hM at h5 ⊢;omega
theorem a3Q:∀ {a b:Nat},a≤b→wt a≤wt b
 |0,b,_=>Wj
 |a+1,0,h=>by omega
 |a+1,b+1,h=>by rw[wt,wt];have:=a3Q (a:=a) (b:=b) (by omega);omega
def ruI(p:Pc)(w bud:Int)(h:Hu)(n:Nat):Prop:=(huP p w h∧hM p h.heap<n)∧HK p w bud n h=srF p w bud∧0≤h.pops∧h.pops+hM p h.heap≤9841
theorem RD{p:Pc}{w bud:Int}(hp:pcOk p):ruI p w bud ⟨Df p,Bi p (Df p) w,[st0],0⟩ 9842:=by
 have h1:=Ot hp
 have h2:hM p [st0]≤9841:=by
  have e:hM p [st0]=wt p.rules.length:=by simp [hM,hS,wtS,st0]
  rw[e]
  exact Nat.le_trans (a3Q (b:=8) hp.rl) (by decide)
 refine⟨⟨⟨h1.1,h1.2,rfl,?_⟩,by show hM p [st0]<9842;omega⟩,rfl,Int.le_refl 0,by show(0:Int)+hM p [st0]≤9841;omega⟩
 intro s hs
 simp at hs;subst hs
 exact⟨b3q,by simp [st0],by simp [st0]⟩
theorem RE{p:Pc}{w bud:Int}{h:Hu}{n:Nat}(hi:ruI p w bud h n):(0≤h.pops∧h.pops≤9841)∧h.heap.length≤9841∧0<n:=by
 have h1:= @a2r p h.heap
 have h2:=hi.2.2;have:=hi.1.2
 exact⟨by omega,by omega,by omega⟩
theorem a3R{p:Pc}{w bud:Int}{h:Hu}{n:Nat}(hp:pcOk p)(hi:ruI p w bud h n)(hl:0<h.heap.length)(hb:¬bud≤h.pops):ruI p w bud (Ju p w h) (n-1):=by
 obtain⟨⟨h1,h2⟩,h3,h4,h5⟩:=hi
 have hs:=a3P hp h1 hl
 obtain⟨m,rfl⟩:∃m,n=m+1:=⟨n-1,by omega⟩
 refine⟨⟨hs.1,by omega⟩,?_,by omega,by omega⟩
 rw[HK,if_neg (by intro e;rw[e] at hl;simp at hl),if_neg hb] at h3
 exact h3
theorem WQ{p:Pc}{w bud:Int}{h:Hu}{n:Nat}(hi:ruI p w bud h n)(hl:¬0<h.heap.length):srF p w bud=(h,1):=by
 obtain⟨⟨h1,h2⟩,h3,h4,h5⟩:=hi
 obtain⟨m,rfl⟩:∃m,n=m+1:=⟨n-1,by omega⟩
 rw[HK,if_pos (List.eq_nil_of_length_eq_zero (by omega))] at h3;exact h3.symm
theorem a3S{p:Pc}{w bud:Int}{h:Hu}{n:Nat}(hi:ruI p w bud h n)(hl:0<h.heap.length)(hb:bud≤h.pops):srF p w bud=(h,2):=by
 obtain⟨⟨h1,h2⟩,h3,h4,h5⟩:=hi
 obtain⟨m,rfl⟩:∃m,n=m+1:=⟨n-1,by omega⟩
 rw[HK,if_neg (by intro e;rw[e] at hl;simp at hl),if_pos hb] at h3;exact h3.symm
theorem a3T{p:Pc}{w bud:Int}(hp:pcOk p):∀ {n:Nat} {h:Hu},huP p w h→hM p h.heap<n→huP p w (HK p w bud n h).1∧((HK p w bud n h).2=1∨(HK p w bud n h).2=2)
 |0,h,_,hl=>by omega
 |n+1,h,hh,hl=>by
  rw[HK]
  split
  ·exact⟨hh,.inl rfl⟩
  ·rename_i e
   split
   ·exact⟨hh,.inr rfl⟩
   ·have hpos:0<h.heap.length:=List.length_pos_iff.2 e
    have hs:=a3P hp hh hpos
    exact a3T hp hs.1 (by omega)
theorem WR{p:Pc}{w bud:Int}(hp:pcOk p):huP p w (srF p w bud).1∧((srF p w bud).2=1∨(srF p w bud).2=2):=by
 have h:=RD (w:=w) (bud:=bud) hp
 exact a3T hp h.1.1 h.1.2
theorem b4i{β:Type}{p q:Int×Hu×β→Prop}(w:Int)(b:List Int)(o s:Int)(l:List StW)(n:Int)(c:β)(h2:q (w,⟨b,⟨o,s⟩,l,n⟩,c))(h1:p (w,⟨b,⟨o,s⟩,l,n⟩,c)):∃x,p x∧q x:=⟨_,h1,h2⟩
theorem b4j{β γ:Type}{p q:Int×Hu×β×γ→Prop}(w:Int)(b:List Int)(o s:Int)(l:List StW)(n:Int)(c:β)(d:γ)(h2:q (w,⟨b,⟨o,s⟩,l,n⟩,c,d))(h1:p (w,⟨b,⟨o,s⟩,l,n⟩,c,d)):∃x,p x∧q x:=⟨_,h1,h2⟩
theorem a3U{p q:Hu×Nat→Prop}(b:List Int)(o s:Int)(l:List StW)(n:Int)(m:Nat)(h2:q (⟨b,⟨o,s⟩,l,n⟩,m))(h1:p (⟨b,⟨o,s⟩,l,n⟩,m)):∃x,p x∧q x:=⟨_,h1,h2⟩
theorem a3V{a:List Int}{b:Int}{q:StW→Prop}(h:q ⟨a,b⟩):∃x:StW,a=x.vals∧b=x.sum∧q x:=⟨⟨a,b⟩,rfl,rfl,h⟩
theorem RF{p:Pc}{v:List Int}(h:pcOk p)(hz:pcS p)(hv:vOk p v)(hl:v.length=p.rules.length):coP p v:=⟨⟨h,hl,hz.2.1.2⟩,hv⟩
theorem WS{p:Pc}{w bud:Int}{h:Hu}{n:Nat}(hi:ruI p w bud h n)(hl:(h.heap.length:Int)>0):Wk p (AN h.heap 0):=hi.1.1.hk _ (WP (by omega))
theorem WT{p:Pc}{w bud:Int}{h:Hu}{n:Nat}(hp:pcOk p)(hi:ruI p w bud h n)(hl:(h.heap.length:Int)>0)(hb:¬h.pops≥bud)(he:((AN h.heap 0).vals.length:Int)=p.rules.length):
 ruI p w bud (EJ p w (AN h.heap 0).vals ⟨h.best,h.cost,BJ h.heap,h.pops+1⟩) (n-1):=by
 have:=a3R hp hi (by omega) (by omega)
 rwa [Ju,if_pos (by omega)] at this
theorem a3W{p:Pc}{w bud:Int}{h:Hu}{n:Nat}(hp:pcOk p)(hi:ruI p w bud h n)(hl:(h.heap.length:Int)>0)(hb:¬h.pops≥bud)(he:((AN h.heap 0).vals.length:Int)≠p.rules.length):
 ruI p w bud ⟨h.best,h.cost,opN p h.cost (AN h.heap 0).vals (opC p ⟨(AN h.heap 0).vals,(AN h.heap 0).sum⟩).toNat 0 (BJ h.heap),h.pops+1⟩ (n-1):=by
 have:=a3R hp hi (by omega) (by omega)
 rwa [Ju,if_neg (by omega)] at this
theorem a3X{p:Pc}{w bud:Int}{h:Hu}{n:Nat}(hp:pcOk p)(hi:ruI p w bud h n)(hl:(h.heap.length:Int)>0)(he:((AN h.heap 0).vals.length:Int)≠p.rules.length):
 opP p ⟨h.best,h.cost,BJ h.heap,h.pops+1⟩ ⟨(AN h.heap 0).vals,(AN h.heap 0).sum⟩:=by
 have h1:=WS hi hl
 have h2:=h1.1.1
 have h3:=(Wi (f:=fun _=>0) (l:=h.heap) (by omega)).2.1
 have h4:=(RE hi).2.1
 exact⟨hp,h1.1,by show(AN h.heap 0).vals.length<_;omega,by show(BJ h.heap).length≤_;omega,a2t hi.1.1.hk (by omega)⟩
theorem WU{p:Pc}{w bud:Int}{h:Hu}{n:Nat}(hi:ruI p w bud h n):n-1<n:=by have:=(RE hi).2.2;omega
def KZ:Sig:= {X:=Pc×Int×Int,args:=fun x=>[huA x.1 x.2.1 ⟨[],⟨0,0⟩,[],0⟩,.int .i64 x.2.2],pre:=fun x=>pcOk x.1∧pcS x.1,Y:=Unit,post:=fun x y=>True,res:=fun x y=> .int .i64 (srF x.1 x.2.1 x.2.2).2,outs:=fun x y=>[huA x.1 x.2.1 (srF x.1 x.2.1 x.2.2).1,.top],keep:=true}
def b4k(x:Pc×Int×Int):LS:= {ι:=Unit,inv:=fun _=>True,regs:=fun _=>[(0,huA x.1 x.2.1 ⟨Df x.1,Bi x.1 (Df x.1) x.2.1,[],0⟩),(1,.int .i64 x.2.2)],als:=[],meas:=fun _=>0}
def RG(x:Pc×Int×Int):LS:= {ι:=Hu×Nat,inv:=fun i=>ruI x.1 x.2.1 x.2.2 i.1 i.2,regs:=fun i=>[(0,huA x.1 x.2.1 i.1),(1,.int .i64 x.2.2)],als:=[],meas:=fun i=>i.2}
def La(x:Pc×Int×Int)(x_1:KQ.X):Prop:=cA KY [.agg [.int .i64 x.1.ind,AV.sl false 0 2 Ru ruA x.1.rules,AV.sl false 0 5 Ch chA x.1.chunks,AV.sl false 0 3 Sn snA x.1.spans,AV.sl false 0 2 Ti tiA x.1.ties],AW (Df x_1),.int .i64 x.2.1] fun x_2 y=>true=true∧(∃(i:Unit),True∧((x.1.ind=x.1.ind∧AV.sl false 0 2 Ru ruA x.1.rules=AV.sl false 0 2 Ru ruA x.1.rules∧AV.sl false 0 5 Ch chA x.1.chunks=AV.sl false 0 5 Ch chA x.1.chunks∧AV.sl false 0 3 Sn snA x.1.spans=AV.sl false 0 3 Sn snA x.1.spans∧AV.sl false 0 2 Ti tiA x.1.ties=AV.sl false 0 2 Ti tiA x.1.ties∧x.2.1=x.2.1∧AV.sl false 0 1 Int (fun(x:Int)=>fzL (CE x)) (Df x_1)=Ad (Df x.1)∧((Bi x_2.1 x_2.2.1 x_2.2.2).over=(Bi x.1 (Df x.1) x.2.1).over∧((Bi x_2.1 x_2.2.1 x_2.2.2).sum=(Bi x.1 (Df x.1) x.2.1).sum∧AV.sl true 0 2 StW stA []=AV.sl true 0 2 StW stA []∧(0:Int)=(0:Int)∧x.2.2=x.2.2∧True)))∧True))
theorem b4l:Ah G Tryz.prog 195 KZ:=
 vcFun_okP [(215,0,KQ),(216,0,KY),(217,0,Rv),(218,0,OD),(219,0,RB)] [(174,⟨StW,stA⟩)] false (fun x=>[(100002,b4k x),(4,RG x)]) Tryz.func195 rfl (by decide) ⟨b3x,a3D,b3Y,b4e,b4g,trivial⟩ (fun(x:Pc×Int×Int)=>True∧cA KQ [.agg [.int .i64 x.1.ind,AV.sl false 0 2 Ru ruA x.1.rules,AV.sl false 0 5 Ch chA x.1.chunks,AV.sl false 0 3 Sn snA x.1.spans,AV.sl false 0 2 Ti tiA x.1.ties]] fun x_1 y=>true=true∧(((La x x_1)∧(La x x_1))∧((La x x_1)∧(La x x_1))∧((La x x_1)∧(La x x_1)))∧∀(i:Unit),True→∃(x_2:StW),x_2.vals=[]∧(0:Int)=x_2.sum∧(∃(i:Hu×Nat),ruI x.1 x.2.1 x.2.2 i.1 i.2∧(x.1.ind=x.1.ind∧AV.sl false 0 2 Ru ruA x.1.rules=AV.sl false 0 2 Ru ruA x.1.rules∧AV.sl false 0 5 Ch chA x.1.chunks=AV.sl false 0 5 Ch chA x.1.chunks∧AV.sl false 0 3 Sn snA x.1.spans=AV.sl false 0 3 Sn snA x.1.spans∧AV.sl false 0 2 Ti tiA x.1.ties=AV.sl false 0 2 Ti tiA x.1.ties∧x.2.1=x.2.1∧Ad (Df x.1)=Ad i.1.best∧(Bi x.1 (Df x.1) x.2.1).over=i.1.cost.over∧(Bi x.1 (Df x.1) x.2.1).sum=i.1.cost.sum∧AV.sl true 0 2 StW stA [x_2]=AV.sl true 0 2 StW stA i.1.heap∧(0:Int)=i.1.pops∧x.2.2=x.2.2∧True)∧True)∧∀(i:Hu×Nat),ruI x.1 x.2.1 x.2.2 i.1 i.2→Ab (decide ((↑(List.length i.1.heap):Int)>(0:Int))) (Ab (decide (i.1.pops≥x.2.2)) (rA KZ x [.int .i64 (2:Int),.box 0 [.int .i64 x.1.ind,AV.sl false 0 2 Ru ruA x.1.rules,AV.sl false 0 5 Ch chA x.1.chunks,AV.sl false 0 3 Sn snA x.1.spans,AV.sl false 0 2 Ti tiA x.1.ties,.int .i64 x.2.1,Ad i.1.best,.int .i64 i.1.cost.over,.int .i64 i.1.cost.sum,AV.sl true 0 2 StW stA i.1.heap,.int .i64 i.1.pops],.top]) (cA Rv [AV.sl true 0 2 StW stA i.1.heap] fun x_3 y=>inR IntKind.i64 (i.1.pops+(1:Int))∧true=true∧true=true∧Ab ((↑(List.length (AN x_3.1 (0:Int)).vals):Int)==(↑(List.length x.1.rules):Int)) (∃(x_4:Pc×Int×Hu×List Int),(coP x_4.1 x_4.2.2.2∧List.length x_4.2.2.1.best≤(8:Nat))∧x.1.ind=x_4.1.ind∧AV.sl false 0 2 Ru ruA x.1.rules=AV.sl false 0 2 Ru ruA x_4.1.rules∧AV.sl false 0 5 Ch chA x.1.chunks=AV.sl false 0 5 Ch chA x_4.1.chunks∧AV.sl false 0 3 Sn snA x.1.spans=AV.sl false 0 3 Sn snA x_4.1.spans∧AV.sl false 0 2 Ti tiA x.1.ties=AV.sl false 0 2 Ti tiA x_4.1.ties∧x.2.1=x_4.2.1∧Ad i.1.best=Ad x_4.2.2.1.best∧i.1.cost.over=x_4.2.2.1.cost.over∧i.1.cost.sum=x_4.2.2.1.cost.sum∧AV.sl true 0 2 StW stA (BJ x_3.1)=AV.sl true 0 2 StW stA x_4.2.2.1.heap∧i.1.pops+(1:Int)=x_4.2.2.1.pops∧Ad (AN x_3.1 (0:Int)).vals=Ad x_4.2.2.2∧∀(y:Unit),True→eN (RG x) i [.box 0 [.int .i64 x_4.1.ind,AV.sl false 0 2 Ru ruA x_4.1.rules,AV.sl false 0 5 Ch chA x_4.1.chunks,AV.sl false 0 3 Sn snA x_4.1.spans,AV.sl false 0 2 Ti tiA x_4.1.ties,.int .i64 x_4.2.1,Ad (EJ x_4.1 x_4.2.1 x_4.2.2.2 x_4.2.2.1).best,.int .i64 (EJ x_4.1 x_4.2.1 x_4.2.2.2 x_4.2.2.1).cost.over,.int .i64 (EJ x_4.1 x_4.2.1 x_4.2.2.2 x_4.2.2.1).cost.sum,AV.sl true 0 2 StW stA (EJ x_4.1 x_4.2.1 x_4.2.2.2 x_4.2.2.1).heap,.int .i64 (EJ x_4.1 x_4.2.1 x_4.2.2.2 x_4.2.2.1).pops],.int .i64 x.2.2]) (∃(x_4:Pc×Int×Hu×List Int×Int),opP x_4.1 x_4.2.2.1 {vals:=x_4.2.2.2.1,sum:=x_4.2.2.2.2}∧x.1.ind=x_4.1.ind∧AV.sl false 0 2 Ru ruA x.1.rules=AV.sl false 0 2 Ru ruA x_4.1.rules∧AV.sl false 0 5 Ch chA x.1.chunks=AV.sl false 0 5 Ch chA x_4.1.chunks∧AV.sl false 0 3 Sn snA x.1.spans=AV.sl false 0 3 Sn snA x_4.1.spans∧AV.sl false 0 2 Ti tiA x.1.ties=AV.sl false 0 2 Ti tiA x_4.1.ties∧x.2.1=x_4.2.1∧Ad i.1.best=Ad x_4.2.2.1.best∧i.1.cost.over=x_4.2.2.1.cost.over∧i.1.cost.sum=x_4.2.2.1.cost.sum∧AV.sl true 0 2 StW stA (BJ x_3.1)=AV.sl true 0 2 StW stA x_4.2.2.1.heap∧i.1.pops+(1:Int)=x_4.2.2.1.pops∧Ad (AN x_3.1 (0:Int)).vals=Ad x_4.2.2.2.1∧(AN x_3.1 (0:Int)).sum=x_4.2.2.2.2∧∀(y:Unit),True→eN (RG x) i [.box 0 [.int .i64 x_4.1.ind,AV.sl false 0 2 Ru ruA x_4.1.rules,AV.sl false 0 5 Ch chA x_4.1.chunks,AV.sl false 0 3 Sn snA x_4.1.spans,AV.sl false 0 2 Ti tiA x_4.1.ties,.int .i64 x_4.2.1,Ad x_4.2.2.1.best,.int .i64 x_4.2.2.1.cost.over,.int .i64 x_4.2.2.1.cost.sum,AV.sl true 0 2 StW stA (opN x_4.1 x_4.2.2.1.cost x_4.2.2.2.1 (Int.toNat (opC x_4.1 {vals:=x_4.2.2.2.1,sum:=x_4.2.2.2.2})) (0:Int) x_4.2.2.1.heap),.int .i64 x_4.2.2.1.pops],.int .i64 x.2.2]))) (rA KZ x [.int .i64 (1:Int),.box 0 [.int .i64 x.1.ind,AV.sl false 0 2 Ru ruA x.1.rules,AV.sl false 0 5 Ch chA x.1.chunks,AV.sl false 0 3 Sn snA x.1.spans,AV.sl false 0 2 Ti tiA x.1.ties,.int .i64 x.2.1,Ad i.1.best,.int .i64 i.1.cost.over,.int .i64 i.1.cost.sum,AV.sl true 0 2 StW stA i.1.heap,.int .i64 i.1.pops],.top])) (fun x=>by kernel_rfl) fun(x:Pc×Int×Int) (hx:pcOk x.1∧pcS x.1)=>(by
 dsimp only[La,cA,Bl,eN,huA,RG,Ad,AW,Cg,CA,pcA,rA,Bj,MB,KZ,KQ,KY,Rv,Bm,HI,Bn,Aq,Aw,mvL,lnL,mvE,lnE,mvG,mvH,lnG,lnH,AZ]
 obtain⟨p,w,bud⟩:=x;dsimp only at hx ⊢
 obtain⟨hp,hz⟩:=hx
 (repeat' first|refine Iu p ?_|refine Ds p ?_|(apply b4j<;>try dsimp only)|(apply b4i<;>try dsimp only)|(apply a3U<;>try dsimp only)|refine a3V ?_|(with_reducible first|rfl|exact True.intro|apply AG|apply And.intro|((first|apply Au|apply AE|apply Av|apply AF)<;>intro _))|(apply As<;>intro _)|apply AD|refine Af () ?_ ?_|((first|apply AK|apply AJ|apply AI|apply AH|apply AC|apply AB|apply AA|apply Az|apply Ax)<;>try dsimp only)|apply Af|(refine Prod.forall.2 ?_;intro _;try dsimp only)|(intro _;try dsimp only))
 all_goals try(have hb:=RE (show ruI _ _ _ _ _ by assumption))
 all_goals first
  |with_reducible rfl
  |exact hz
  |exact()
  |exact(by have:=hp.rl;omega)
  |exact RF hp hz (Ot hp).1 (Ot hp).2
  |exact RD hp
  |exact(show(0:Int)=st0.sum from rfl)
  |exact(show st0.vals=[] from rfl)
  |exact WU ‹_›
  |exact WT hp ‹_› ‹_› ‹_› ‹_›
  |exact a3W hp ‹_› ‹_› ‹_› ‹_›
  |exact a3X hp ‹_› ‹_› ‹_›
  |exact WM hp (show ruI _ _ _ _ _ by assumption).1.1.hk _ ‹_›
  |exact RF hp hz (WS ‹_› ‹_›).1 (by omega)
  |(have hq:=(show ruI _ _ _ _ _ by assumption).1.1.bl;have:=hp.rl;omega)
  |((try simp only[Ai]);omega)
  |(rw[a3S ‹_› (by omega) (by omega)];done)
  |(rw[WQ ‹_› (by omega)];done)
  |skip)
def Lb:Sig:= {X:=Pc×Int×Int,args:=fun x=>[.agg (pcA false x.1),.int .i64 x.2.1,.int .i64 x.2.2],pre:=fun x=>pcS x.1,Y:=Unit,post:=fun x y=>True,res:=fun x y=> .tup [Ad (if Bo x.1 then(srF x.1 x.2.1 x.2.2).1.best else []),.int .i64 (if Bo x.1 then(srF x.1 x.2.1 x.2.2).2 else 0)],outs:=fun x y=>[.top,.top,.top],keep:=true}
theorem b4m:Ah G Tryz.prog 164 Lb:=
 vcFun_okP [(82,0,DE),(195,0,KZ)] [] false (fun x=>[]) Tryz.func164 rfl (by decide) ⟨a2A,b4l,trivial⟩ (fun(x:Pc×Int×Int)=>True∧cA DE [.agg [.int .i64 x.1.ind,AV.sl false 0 2 Ru ruA x.1.rules,AV.sl false 0 5 Ch chA x.1.chunks,AV.sl false 0 3 Sn snA x.1.spans,AV.sl false 0 2 Ti tiA x.1.ties]] fun x_1 y=>Ab (!Bo x_1) (rA Lb x [.tup [.nil,.int .i64 (0:Int)],.top,.top,.top]) (cA KZ [.box 0 [.int .i64 x.1.ind,AV.sl false 0 2 Ru ruA x.1.rules,AV.sl false 0 5 Ch chA x.1.chunks,AV.sl false 0 3 Sn snA x.1.spans,AV.sl false 0 2 Ti tiA x.1.ties,.int .i64 x.2.1,.nil,.int .i64 (0:Int),.int .i64 (0:Int),.nil,.int .i64 (0:Int)],.int .i64 x.2.2] fun x_2 y=>rA Lb x [.tup [Ad (srF x_2.1 x_2.2.1 x_2.2.2).1.best,.int .i64 (srF x_2.1 x_2.2.1 x_2.2.2).2],.top,.top,.top])) (fun x=>by kernel_rfl) fun(x:Pc×Int×Int) (hx:pcS x.1)=>(by
 dsimp only[cA,Bl,huA,Ad,CA,pcA,rA,Bj,KZ,DE,Lb,Bm,sns,HI,Bn,tis,Aq,Aw,mvL,lnL,mvE,lnE,mvG,mvH,lnG,lnH]
 obtain⟨p,w,bud⟩:=x;dsimp only at hx ⊢
 have hx:pcS p:=hx
 (repeat' first|refine Iu p ?_|refine Ds p ?_|(with_reducible first|rfl|exact True.intro|apply AG|apply And.intro|((first|apply Au|apply AE|apply Av|apply AF)<;>intro _))|(apply As<;>intro _)|apply AD|refine Af () ?_ ?_|((first|apply AK|apply AJ|apply AI|apply AH|apply AC|apply AB|apply AA|apply Az|apply Ax)<;>try dsimp only)|apply Af|(refine Prod.forall.2 ?_;intro _;try dsimp only)|(intro _;try dsimp only))
 all_goals first
  |exact hx
  |(rw[if_pos ‹_›];done)
  |(rw[if_neg (by simp [*])];done)
  |exact⟨EV ‹_›,hx⟩
  |exact EV ‹_›
  |with_reducible rfl
  |skip)
def IB:Sig:= {X:=List UInt8×Unit,args:=fun x=>[.str x.1],pre:=fun x=>x.1.length≤2^62,Y:=Unit,post:=fun x y=>True,res:=fun x y=> .bool (Bf x.1),outs:=fun x y=>[.top],keep:=false}
def RH(x:List UInt8×Unit):LS:= {ι:=Int,inv:=fun i=>Bz Bx x.1 i,regs:=fun i=>[(0,.str x.1),(3,.int .i64 i)],als:=[],meas:=fun i=>x.1.length-i.toNat}
theorem a3Y:Ah G Tryz.prog 46 IB:=
 vcFun_okP [(85,0,FT)] [] false (fun x=>[(2,RH x)]) Tryz.func46 rfl (by decide) ⟨Vz,trivial⟩ (fun(x:List UInt8×Unit)=>(∀(y:Unit),True→True∧True∧True)∧eA (RH x) [.str x.1,.int .i64 (0:Int)]∧∀(i:Int),Bz Bx x.1 i→Ab (decide (i<(↑(List.length x.1):Int))) (((0:Int)≤i∧i<(↑(List.length x.1):Int))∧∀(c:UInt8),x.1[Int.toNat i]? =some c→cA FT [AV.int IntKind.u8 (↑(UInt8.toNat c):Int)] fun x_1 y=>Ab (!Bx x_1) (rA IB x [.bool false,.top]) (inR IntKind.i64 (i+(1:Int))∧eN (RH x) i [.str x.1,.int .i64 (i+(1:Int))])) (rA IB x [.bool true,.top])) (fun x=>by kernel_rfl) fun(x:List UInt8×Unit) (hx:x.1.length≤2^62)=>(by
 dsimp only[cA,eA,eN,RH,rA,FT,IB,Aq,Aw,mvL,lnL,mvE,lnE,mvG,mvH,lnG,lnH,AZ]
 obtain⟨x,_⟩:=x;dsimp only at hx ⊢
 have hx:x.length≤2^62:=hx
 (repeat' first|(with_reducible first|rfl|exact True.intro|apply AG|apply And.intro|((first|apply Au|apply AE|apply Av|apply AF)<;>intro _))|(apply As<;>intro _)|apply AD|refine Af () ?_ ?_|((first|apply AK|apply AJ|apply AI|apply AH|apply AC|apply AB|apply AA|apply Az|apply Ax)<;>try dsimp only)|apply Af|(refine Prod.forall.2 ?_;intro _;try dsimp only)|(intro _;try dsimp only))
 all_goals first
  |with_reducible rfl
  |exact MA
  |exact Fo ‹_› ‹_› ‹_› ‹_›
  |exact(FE ‹_› ‹_›).symm
  |exact(He ‹_› ‹_›).symm
  |(have hq:=(show Bz _ _ _ by assumption).1;(try simp only[Ai]);omega)
  |skip)
def MG:Sig:= {X:=Pc×Int×Int×Bool×Int,args:=fun x=>[.agg (pcA false x.1),.agg [.int .i64 x.2.1,.int .i64 x.2.2.1,.bool x.2.2.2.1,.int .i64 x.2.2.2.2]],pre:=fun x=>pcS x.1,Y:=Unit,post:=fun x y=>True,res:=fun x y=> .bool (Eh x.1 ⟨[],x.2.1,x.2.2.1,x.2.2.2.1,x.2.2.2.2⟩),outs:=fun x y=>[.top,.top],keep:=false}
theorem b4n:Ah G Tryz.prog 51 MG:=
 vcFun_okP [(45,0,Bq)] [] false (fun x=>[]) Tryz.func51 rfl (by decide) ⟨Gx,trivial⟩ (fun(x:Pc×Int×Int×Bool×Int)=>(∀(y:Unit),True→True∧True∧True∧True)∧true=true∧true=true∧inR IntKind.i64 ((↑(List.length x.1.rules):Int)-(1:Int))∧∃(x_1:Int×Int×Int),True∧x.2.1=x_1.1∧(0:Int)=x_1.2.1∧(↑(List.length x.1.rules):Int)-(1:Int)=x_1.2.2∧∃(y0:Unit),(∀(y:Unit),True→AV.bool (inn x_1.1 x_1.2.1 x_1.2.2)=AV.bool (inn x_1.1 x_1.2.1 x_1.2.2))∧true=true∧Ab (inn x_1.1 x_1.2.1 x_1.2.2) (((0:Int)≤x.2.1∧x.2.1<(↑(List.length x.1.rules):Int))∧∀(e:Ru),x.1.rules[Int.toNat x.2.1]? =some e→inR IntKind.i64 (e.vals-(1:Int))∧∃(x_2:Int×Int×Int),True∧x.2.2.1=x_2.1∧(1:Int)=x_2.2.1∧e.vals-(1:Int)=x_2.2.2∧∃(y0:Unit),(∀(y:Unit),True→AV.bool (inn x_2.1 x_2.2.1 x_2.2.2)=AV.bool (inn x_2.1 x_2.2.1 x_2.2.2))∧true=true∧Ab (inn x_2.1 x_2.2.1 x_2.2.2) (∃(x_3:Int×Int×Int),True∧x.2.2.2.2=x_3.1∧(0:Int)=x_3.2.1∧(40:Int)=x_3.2.2∧∃(y0:Unit),(∀(y:Unit),True→AV.bool (inn x_3.1 x_3.2.1 x_3.2.2)=AV.bool (inn x_3.1 x_3.2.1 x_3.2.2))∧true=true∧rA MG x [.bool (inn x_3.1 x_3.2.1 x_3.2.2),.top,.top]) (rA MG x [.bool false,.top,.top])) (rA MG x [.bool false,.top,.top])) (fun x=>by kernel_rfl) fun(x:Pc×Int×Int×Bool×Int) (hx:pcS x.1)=>(by
 dsimp only[Bl,pcA,rA,Bj,MG,Bm,Bn,Aq,Aw]
 obtain⟨p,r,f,s,n⟩:=x;dsimp only at hx ⊢
 have hx:pcS p:=hx
 have hz:=hx.1;have hv:=hx.2.2
 (repeat' first|(with_reducible first|rfl|exact True.intro|apply AG|apply And.intro|((first|apply Au|apply AE|apply Av|apply AF)<;>intro _))|(apply As<;>intro _)|apply AD|refine Af () ?_ ?_|((first|apply AK|apply AJ|apply AI|apply AH|apply AC|apply AB|apply AA|apply Az|apply Ax)<;>try dsimp only)|apply Af|(refine Prod.forall.2 ?_;intro _;try dsimp only)|(intro _;try dsimp only))
 all_goals first
  |with_reducible rfl
  |((try simp only[Br] at*);omega)
  |(simp [Eh, *];done)
  |(have hm:=hv _ (AY ‹_›);omega)
  |(rename p.rules[_]? =some _=>hq;have hr:=Ov hq;simp [Eh,hr, *];done)
  |skip)
def qoA(p:Pc):Prop:=(inn p.ind 0 60=true∧p.rules.length≤8)∧inn p.chunks.length 1 80=true∧p.spans.length≤40∧p.ties.length≤20
theorem OF{p:Pc}(h:(((inn p.ind 0 60=false∨(p.rules.length:Int)>8)∨inn p.chunks.length 1 80=false)∨(p.spans.length:Int)>40)∨(p.ties.length:Int)>20):false=Bo p:=by
 symm
 rw[Bool.eq_false_iff]
 simp only[Bo,FC,EI,ne_eq,Bool.and_eq_true,decide_eq_true_eq,not_and]
 intro h1 h2 h3 h4
 rw[h1,h3.1] at h
 simp at h;omega
theorem b4o{p:Pc}(h:qoA p)(hr:p.rules.all Eu=true):FC p=true:=by simp [FC,hr,h.1.2]
theorem b4p{p:Pc}(h:p.rules.all Eu=false):false=Bo p:=by
 have:FC p=false:=by simp [FC,h]
 exact KP (.inl (.inl (.inr this)))
theorem WV{p:Pc}(h:EI p=false):false=Bo p:=KP (.inl (.inr h))
theorem b4q{p:Pc}(h:qoA p)(hr:p.rules.all Eu=true)(hc:EI p=true):poA p:=⟨⟨⟨h.1.1,b4o h hr⟩,hc⟩,h.2.2⟩
theorem b4r{p:Pc}{s:Sn}(h1:inn s.tuu 0 ((p.chunks.length:Int)-2)=true)(h2:inn s.fr 0 s.tuu=true)(h3:inn s.cost 0 9=true):DT p s=true:=by
 have a:=Br.1 h1;have b:=Br.1 h2
 exact a2y (by omega) (by omega) (by omega) h3
theorem WW{p:Pc}{s:Sn}(h:(inn s.tuu 0 ((p.chunks.length:Int)-2)=false∨inn s.fr 0 s.tuu=false)∨inn s.cost 0 9=false):DT p s=false:=by
 rw[Bool.eq_false_iff]
 intro hs
 simp only[DT,Bool.and_eq_true,decide_eq_true_eq] at hs
 rcases h with(h|h)|h
 ·exact a2v h (by omega)
 ·exact a2v h (by omega)
 ·rw[h] at hs;cases hs.2.2
def Dg:Sig:= {X:=Pc,args:=fun x=>[.agg (pcA false x)],pre:=fun x=>pcS x,Y:=Unit,post:=fun x y=>True,res:=fun x y=> .bool (Bo x),outs:=fun x y=>[.top],keep:=false}
def RI(x:Pc):LS:= {ι:=Int,inv:=fun i=>qoA x∧Bz Eu x.rules i,regs:=fun i=>[(1,.box 0 (pcA false x)),(3,.int .i64 x.chunks.length),(4,.int .i64 i)],als:=[],meas:=fun i=>x.rules.length-i.toNat}
def OG(x:Pc):LS:= {ι:=Int,inv:=fun i=>(qoA x∧x.rules.all Eu=true)∧chI x i,regs:=fun i=>[(1,.box 0 (pcA false x)),(3,.int .i64 x.chunks.length),(5,.int .i64 i)],als:=[],meas:=fun i=>x.chunks.length-i.toNat}
def RJ(x:Pc):LS:= {ι:=Int,inv:=fun i=>poA x∧Bz (DT x) x.spans i,regs:=fun i=>[(1,.box 0 (pcA false x)),(3,.int .i64 x.chunks.length),(6,.int .i64 i)],als:=[],meas:=fun i=>x.spans.length-i.toNat}
def RK(x:Pc):LS:= {ι:=Int,inv:=fun i=>(poA x∧x.spans.all (DT x)=true)∧Bz (FY x) x.ties i,regs:=fun i=>[(1,.box 0 (pcA false x)),(8,.int .i64 i)],als:=[],meas:=fun i=>x.ties.length-i.toNat}
theorem a3Z:Ah G Tryz.prog 13 Dg:=
 vcFun_okP [(45,0,Bq),(46,0,IB),(51,0,MG)] [] false (fun x=>[(5,RI x),(10,OG x),(17,RJ x),(23,RK x)]) Tryz.func13 rfl (by decide) ⟨Gx,a3Y,b4n,trivial⟩ (fun(x:Pc)=>(∀(y:Unit),True→True∧True∧True)∧cA Bq [.int .i64 x.ind,.int .i64 (0:Int),.int .i64 (60:Int)] fun x_1 y=>Ab (!inn x_1.1 x_1.2.1 x_1.2.2) (rA Dg x [.bool false,.top]) (Ab (decide ((↑(List.length x.rules):Int)>(8:Int))) (rA Dg x [.bool false,.top]) (cA Bq [.int .i64 (↑(List.length x.chunks):Int),.int .i64 (1:Int),.int .i64 (80:Int)] fun x_2 y=>Ab (!inn x_2.1 x_2.2.1 x_2.2.2) (rA Dg x [.bool false,.top]) (Ab (decide ((↑(List.length x.spans):Int)>(40:Int))) (rA Dg x [.bool false,.top]) (Ab (decide ((↑(List.length x.ties):Int)>(20:Int))) (rA Dg x [.bool false,.top]) (eA (RI x) [.box 0 [.int .i64 x.ind,AV.sl false 0 2 Ru ruA x.rules,AV.sl false 0 5 Ch chA x.chunks,AV.sl false 0 3 Sn snA x.spans,AV.sl false 0 2 Ti tiA x.ties],.int .i64 (↑(List.length x.chunks):Int),.int .i64 (0:Int)]∧∀(i:Int),qoA x∧Bz Eu x.rules i→Ab (decide (i<(↑(List.length x.rules):Int))) (((0:Int)≤i∧i<(↑(List.length x.rules):Int))∧∀(e:Ru),x.rules[Int.toNat i]? =some e→cA Bq [.int .i64 e.vals,.int .i64 (2:Int),.int .i64 (3:Int)] fun x_3 y=>Ab (!inn x_3.1 x_3.2.1 x_3.2.2) (rA Dg x [.bool false,.top]) (((0:Int)≤i∧i<(↑(List.length x.rules):Int))∧∀(e:Ru),x.rules[Int.toNat i]? =some e→cA Bq [.int .i64 e.cost,.int .i64 (0:Int),.int .i64 (9:Int)] fun x_4 y=>Ab (!inn x_4.1 x_4.2.1 x_4.2.2) (rA Dg x [.bool false,.top]) (inR IntKind.i64 (i+(1:Int))∧eN (RI x) i [.box 0 [.int .i64 x.ind,AV.sl false 0 2 Ru ruA x.rules,AV.sl false 0 5 Ch chA x.chunks,AV.sl false 0 3 Sn snA x.spans,AV.sl false 0 2 Ti tiA x.ties],.int .i64 (↑(List.length x.chunks):Int),.int .i64 (i+(1:Int))]))) (eA (OG x) [.box 0 [.int .i64 x.ind,AV.sl false 0 2 Ru ruA x.rules,AV.sl false 0 5 Ch chA x.chunks,AV.sl false 0 3 Sn snA x.spans,AV.sl false 0 2 Ti tiA x.ties],.int .i64 (↑(List.length x.chunks):Int),.int .i64 (0:Int)]∧∀(i:Int),(qoA x∧List.all x.rules Eu=true)∧chI x i→Ab (decide (i<(↑(List.length x.chunks):Int))) (true=true∧true=true∧((0:Int)≤i∧i<(↑(List.length x.chunks):Int))∧∀(e:Ch),x.chunks[Int.toNat i]? =some e→∃(x_3:List UInt8×Unit),List.length x_3.1≤(4611686018427387904:Nat)∧e.text=x_3.1∧∃(y0:Unit),(∀(y:Unit),True→AV.bool (Bf x_3.1)=AV.bool (Bf x_3.1))∧true=true∧Ab (!Bf x_3.1) (rA Dg x [.bool false,.top]) (inR IntKind.i64 (i+(1:Int))∧Ab (decide (i+(1:Int)<(↑(List.length x.chunks):Int))) (((0:Int)≤i∧i<(↑(List.length x.chunks):Int))∧∀(e:Ch),x.chunks[Int.toNat i]? =some e→∃(x_4:Pc×Int×Int×Bool×Int),pcS x_4.1∧x.ind=x_4.1.ind∧AV.sl false 0 2 Ru ruA x.rules=AV.sl false 0 2 Ru ruA x_4.1.rules∧AV.sl false 0 5 Ch chA x.chunks=AV.sl false 0 5 Ch chA x_4.1.chunks∧AV.sl false 0 3 Sn snA x.spans=AV.sl false 0 3 Sn snA x_4.1.spans∧AV.sl false 0 2 Ti tiA x.ties=AV.sl false 0 2 Ti tiA x_4.1.ties∧e.rule=x_4.2.1∧e.fr=x_4.2.2.1∧e.space=x_4.2.2.2.1∧e.nest=x_4.2.2.2.2∧∃(y0:Unit),(∀(y:Unit),True→AV.bool (Eh x_4.1 {text:=[],rule:=x_4.2.1,fr:=x_4.2.2.1,space:=x_4.2.2.2.1,nest:=x_4.2.2.2.2})=AV.bool (Eh x_4.1 {text:=[],rule:=x_4.2.1,fr:=x_4.2.2.1,space:=x_4.2.2.2.1,nest:=x_4.2.2.2.2}))∧true=true∧Ab (!Eh x_4.1 {text:=[],rule:=x_4.2.1,fr:=x_4.2.2.1,space:=x_4.2.2.2.1,nest:=x_4.2.2.2.2}) (rA Dg x [.bool false,.top]) (inR IntKind.i64 (i+(1:Int))∧(eN (OG x) i [.box 0 [.int .i64 x.ind,AV.sl false 0 2 Ru ruA x.rules,AV.sl false 0 5 Ch chA x.chunks,AV.sl false 0 3 Sn snA x.spans,AV.sl false 0 2 Ti tiA x.ties],.int .i64 (↑(List.length x.chunks):Int),.int .i64 (i+(1:Int))]))) (inR IntKind.i64 (i+(1:Int))∧(eN (OG x) i [.box 0 [.int .i64 x.ind,AV.sl false 0 2 Ru ruA x.rules,AV.sl false 0 5 Ch chA x.chunks,AV.sl false 0 3 Sn snA x.spans,AV.sl false 0 2 Ti tiA x.ties],.int .i64 (↑(List.length x.chunks):Int),.int .i64 (i+(1:Int))])))) (inR IntKind.i64 ((↑(List.length x.chunks):Int)-(1:Int))∧((0:Int)≤(↑(List.length x.chunks):Int)-(1:Int)∧(↑(List.length x.chunks):Int)-(1:Int)<(↑(List.length x.chunks):Int))∧∀(e:Ch),x.chunks[Int.toNat ((↑(List.length x.chunks):Int)-(1:Int))]? =some e→Ab (!(true&&e.rule==(0:Int)&&e.fr==(0:Int)&&e.space==false&&e.nest==(0:Int))) (rA Dg x [.bool false,.top]) (eA (RJ x) [.box 0 [.int .i64 x.ind,AV.sl false 0 2 Ru ruA x.rules,AV.sl false 0 5 Ch chA x.chunks,AV.sl false 0 3 Sn snA x.spans,AV.sl false 0 2 Ti tiA x.ties],.int .i64 (↑(List.length x.chunks):Int),.int .i64 (0:Int)]∧∀(i:Int),poA x∧Bz (DT x) x.spans i→Ab (decide (i<(↑(List.length x.spans):Int))) (((0:Int)≤i∧i<(↑(List.length x.spans):Int))∧∀(e:Sn),x.spans[Int.toNat i]? =some e→inR IntKind.i64 ((↑(List.length x.chunks):Int)-(2:Int))∧cA Bq [.int .i64 e.tuu,.int .i64 (0:Int),.int .i64 ((↑(List.length x.chunks):Int)-(2:Int))] fun x_3 y=>Ab (!inn x_3.1 x_3.2.1 x_3.2.2) (rA Dg x [.bool false,.top]) (cA Bq [.int .i64 e.fr,.int .i64 (0:Int),.int .i64 e.tuu] fun x_4 y=>Ab (!inn x_4.1 x_4.2.1 x_4.2.2) (rA Dg x [.bool false,.top]) (cA Bq [.int .i64 e.cost,.int .i64 (0:Int),.int .i64 (9:Int)] fun x_5 y=>Ab (!inn x_5.1 x_5.2.1 x_5.2.2) (rA Dg x [.bool false,.top]) (inR IntKind.i64 (i+(1:Int))∧eN (RJ x) i [.box 0 [.int .i64 x.ind,AV.sl false 0 2 Ru ruA x.rules,AV.sl false 0 5 Ch chA x.chunks,AV.sl false 0 3 Sn snA x.spans,AV.sl false 0 2 Ti tiA x.ties],.int .i64 (↑(List.length x.chunks):Int),.int .i64 (i+(1:Int))])))) (eA (RK x) [.box 0 [.int .i64 x.ind,AV.sl false 0 2 Ru ruA x.rules,AV.sl false 0 5 Ch chA x.chunks,AV.sl false 0 3 Sn snA x.spans,AV.sl false 0 2 Ti tiA x.ties],.int .i64 (0:Int)]∧∀(i:Int),(poA x∧List.all x.spans (DT x)=true)∧Bz (FY x) x.ties i→Ab (decide (i<(↑(List.length x.ties):Int))) (((0:Int)≤i∧i<(↑(List.length x.ties):Int))∧∀(e:Ti),x.ties[Int.toNat i]? =some e→inR IntKind.i64 ((↑(List.length x.rules):Int)-(1:Int))∧cA Bq [.int .i64 e.kid,.int .i64 (0:Int),.int .i64 ((↑(List.length x.rules):Int)-(1:Int))] fun x_3 y=>Ab (!inn x_3.1 x_3.2.1 x_3.2.2) (rA Dg x [.bool false,.top]) (inR IntKind.i64 ((↑(List.length x.rules):Int)-(1:Int))∧cA Bq [.int .i64 e.up,.int .i64 (0:Int),.int .i64 ((↑(List.length x.rules):Int)-(1:Int))] fun x_4 y=>Ab (!inn x_4.1 x_4.2.1 x_4.2.2) (rA Dg x [.bool false,.top]) (Ab (e.kid==e.up) (rA Dg x [.bool false,.top]) (inR IntKind.i64 (i+(1:Int))∧eN (RK x) i [.box 0 [.int .i64 x.ind,AV.sl false 0 2 Ru ruA x.rules,AV.sl false 0 5 Ch chA x.chunks,AV.sl false 0 3 Sn snA x.spans,AV.sl false 0 2 Ti tiA x.ties],.int .i64 (i+(1:Int))])))) (rA Dg x [.bool true,.top]))))))))))) (fun x=>by kernel_rfl) fun(x:Pc) (hx:pcS x)=>(by
 dsimp only[cA,Bl,eA,eN,OG,RJ,RK,RI,pcA,rA,Bj,Bq,Dg,Bm,Bn,Aq,Aw,mvL,lnL,mvE,lnE,mvG,mvH,lnG,lnH,AZ]
 have hz:=hx.1;have hz2:=hx.2.1.1;have ht:=hx.2.1.2
 (repeat' first|refine Iu x ?_|refine Ds x ?_|(with_reducible first|rfl|exact True.intro|apply AG|apply And.intro|((first|apply Au|apply AE|apply Av|apply AF)<;>intro _))|(apply As<;>intro _)|apply AD|refine Af () ?_ ?_|((first|apply AK|apply AJ|apply AI|apply AH|apply AC|apply AB|apply AA|apply Az|apply Ax)<;>try dsimp only)|apply Af|(refine Prod.forall.2 ?_;intro _;try dsimp only)|(intro _;try dsimp only))
 all_goals(try(repeat(rename x.rules[_]? =some _=>hq;revert hq;rename x.rules[_]? =some _=>hr;intro hq;rw[hr] at hq;cases hq)))
 all_goals(try(repeat(rename x.chunks[_]? =some _=>hq;revert hq;rename x.chunks[_]? =some _=>hr;intro hq;rw[hr] at hq;cases hq)))
 all_goals first
  |with_reducible rfl
  |with_reducible assumption
  |exact hx
  |exact MA
  |exact a2w
  |exact OF (.inl (.inl (.inl (.inl ‹_›))))
  |exact OF (.inl (.inl (.inl (.inr ‹_›))))
  |exact OF (.inl (.inl (.inr ‹_›)))
  |exact OF (.inl (.inr ‹_›))
  |exact OF (.inr ‹_›)
  |exact⟨⟨by assumption,by omega⟩,by assumption,by omega,by omega⟩
  |exact(show qoA _∧_ by assumption).1
  |exact(show(qoA _∧_)∧_ by assumption).1.1
  |exact(show(qoA _∧_)∧_ by assumption).1.2
  |exact He (show qoA _∧Bz _ _ _ by assumption).2 ‹_›
  |exact b4p (FE ‹_› (by simp [Eu, *]))
  |exact Fo (show qoA _∧Bz _ _ _ by assumption).2 ‹_› ‹_› (by simp [Eu, *])
  |(have hq:=(show qoA _∧Bz _ _ _ by assumption).2.1;(try simp only[Ai]);omega)
  |(have hq:=(show(qoA _∧_)∧chI _ _ by assumption).2.1;(try simp only[Ai]);omega)
  |(have hq:=(show(qoA _∧_)∧chI _ _ by assumption).2.1;have hq2:=Br.1 (show(qoA _∧_)∧chI _ _ by assumption).1.1.2.1;(try simp only[Ai]);omega)
  |(have hq:=Ou (AY (show x.chunks[_]? =some _ by assumption));omega)
  |exact WV (Rg (show(qoA _∧_)∧chI _ _ by assumption).2 ‹_› (.inl ‹_›))
  |exact WV (Rg (show(qoA _∧_)∧chI _ _ by assumption).2 ‹_› (.inr ⟨by omega,by assumption⟩))
  |exact Rf (show(qoA _∧_)∧chI _ _ by assumption).2 ‹_› ‹_› ‹_› (fun _=>by assumption)
  |exact Rf (show(qoA _∧_)∧chI _ _ by assumption).2 ‹_› ‹_› ‹_› (fun _=>by omega)
  |exact WV (by rw[Wm (show(qoA _∧_)∧chI _ _ by assumption).2 ‹_› ‹_› (show(qoA _∧_)∧chI _ _ by assumption).1.1.2.1];first|assumption|(rw[←Wn];assumption))
  |exact b4q (show(qoA _∧_)∧chI _ _ by assumption).1.1 (show(qoA _∧_)∧chI _ _ by assumption).1.2 (by rw[Wm (show(qoA _∧_)∧chI _ _ by assumption).2 ‹_› ‹_› (show(qoA _∧_)∧chI _ _ by assumption).1.1.2.1];first|assumption|(rw[←Wn];assumption))
  |exact(show poA _∧_ by assumption).1
  |(have hq:=(show poA _∧Bz _ _ _ by assumption).2.1;(try simp only[Ai]);omega)
  |(have hq:=(show(poA _∧_)∧Bz _ _ _ by assumption).2.1;(try simp only[Ai]);omega)
  |exact Iw (.inl (FE ‹_› (WW (.inl (.inl ‹_›)))))
  |exact Iw (.inl (FE ‹_› (WW (.inl (.inr ‹_›)))))
  |exact Iw (.inl (FE ‹_› (WW (.inr ‹_›))))
  |exact Fo (show poA _∧Bz _ _ _ by assumption).2 ‹_› ‹_› (b4r ‹_› ‹_› ‹_›)
  |exact He (show poA _∧Bz _ _ _ by assumption).2 ‹_›
  |exact⟨(show poA _∧Bz _ _ _ by assumption).1,He (show poA _∧Bz _ _ _ by assumption).2 ‹_›⟩
  |exact Iw (.inr (FE ‹_› (by simp [FY, *])))
  |exact Fo (show(poA _∧_)∧Bz _ _ _ by assumption).2 ‹_› ‹_› (by simp [FY, *])
  |exact a2z (show(poA _∧_)∧Bz _ _ _ by assumption).1.1 (show(poA _∧_)∧Bz _ _ _ by assumption).1.2 (He (show(poA _∧_)∧Bz _ _ _ by assumption).2 ‹_›)
  |((try simp only[Ai]);omega)
  |skip)
def MH:Sig:= {X:=Pc,args:=fun x=>[.agg (pcA false x)],pre:=fun x=>pcS x∧x.rules.length≤100,Y:=Unit,post:=fun x y=>True,res:=fun x y=>AW (Df x),outs:=fun x y=>[.top],keep:=false}
def RL(x:Pc):LS:= {ι:=Int,inv:=fun i=>0≤i∧i≤x.rules.length,regs:=fun i=>[(1,.box 0 (pcA false x)),(3,AW ((x.rules.take i.toNat).map fun r=>r.vals-1)),(4,.int .i64 i)],als:=[],meas:=fun i=>x.rules.length-i.toNat}
theorem b4s:Ah G Tryz.prog 18 MH:=
 vcFun_okP [] [(38,⟨Int,CE⟩)] false (fun x=>[(3,RL x)]) Tryz.func18 rfl (by decide) trivial (fun(x:Pc)=>(∀(y:Unit),True→(∀(x:Int),True∧True)∧True∧True)∧eA (RL x) [.box 0 [.int .i64 x.ind,AV.sl false 0 2 Ru ruA x.rules,AV.sl false 0 5 Ch chA x.chunks,AV.sl false 0 3 Sn snA x.spans,AV.sl false 0 2 Ti tiA x.ties],AW [],.int .i64 (0:Int)]∧∀(i:Int),(0:Int)≤i∧i≤(↑(List.length x.rules):Int)→Ab (decide (i<(↑(List.length x.rules):Int))) (((0:Int)≤i∧i<(↑(List.length x.rules):Int))∧∀(e:Ru),x.rules[Int.toNat i]? =some e→inR IntKind.i64 (e.vals-(1:Int))∧∃(x_1:Int),e.vals-(1:Int)=x_1∧∃(zs:List Int),AW [x_1]=AW zs∧BH CE∧Bb (List.length (List.map (fun(r:Ru)=>r.vals-(1:Int)) (List.take (Int.toNat i) x.rules))+List.length zs) (8:Nat)∧inR IntKind.i64 (i+(1:Int))∧eN (RL x) i [.box 0 [.int .i64 x.ind,AV.sl false 0 2 Ru ruA x.rules,AV.sl false 0 5 Ch chA x.chunks,AV.sl false 0 3 Sn snA x.spans,AV.sl false 0 2 Ti tiA x.ties],AW (List.map (fun(r:Ru)=>r.vals-(1:Int)) (List.take (Int.toNat i) x.rules)++zs),.int .i64 (i+(1:Int))]) (rA MH x [AW (List.map (fun(r:Ru)=>r.vals-(1:Int)) (List.take (Int.toNat i) x.rules)),.top])) (fun x=>by kernel_rfl) fun(x:Pc) (hx:pcS x∧x.rules.length≤100)=>(by
 dsimp only[Bl,eA,eN,RL,AW,pcA,rA,Bj,MH,Bm,Bn,Aq,Aw,AZ]
 obtain⟨h1,h2⟩:=hx
 have hv:=h1.2.2
 (repeat' first|(with_reducible first|rfl|exact True.intro|apply AG|apply And.intro|((first|apply Au|apply AE|apply Av|apply AF)<;>intro _))|(apply As<;>intro _)|apply AD|refine Af () ?_ ?_|((first|apply AK|apply AJ|apply AI|apply AH|apply AC|apply AB|apply AA|apply Az|apply Ax)<;>try dsimp only)|apply Af|(refine Prod.forall.2 ?_;intro _;try dsimp only)|(intro _;try dsimp only))
 all_goals first
  |rfl
  |omega
  |exact()
  |(have hm:=hv _ (AY ‹_›);omega)
  |(rw[BD (by omega),CT ‹_›,List.map_append];rfl)
  |(rw[Df,List.take_of_length_le (by omega)];done)
  |(simp [Bb];omega)
  |((try simp only[Bb,Ai,List.length_append,List.length_map,List.length_take,List.length_cons,List.length_nil]);omega)
  |skip)
def GL:Sig:= {X:=Pc×List Int×Int,args:=fun x=>[.agg (pcA false x.1),Ad x.2.1,.int .i64 x.2.2],pre:=fun x=>(0≤x.2.2∧x.2.2<x.1.chunks.length)∧(0≤(Cz x.1 x.2.2).rule∧(Cz x.1 x.2.2).rule<x.2.1.length),Y:=Unit,post:=fun x y=>True,res:=fun x y=> .bool (Cf x.2.1 (Cz x.1 x.2.2)),outs:=fun x y=>[.top,.top,.top],keep:=false}
theorem WX:Ah G Tryz.prog 90 GL:=
 vcFun_okP [] [] false (fun x=>[]) Tryz.func90 rfl (by decide) trivial (fun(x:Pc×List Int×Int)=>(∀(y:Unit),True→True∧True∧True∧True∧True)∧((0:Int)≤x.2.2∧x.2.2<(↑(List.length x.1.chunks):Int))∧∀(e:Ch),x.1.chunks[Int.toNat x.2.2]? =some e→true=true∧true=true∧((0:Int)≤e.rule∧e.rule<(↑(List.length x.2.1):Int))∧∀(e_1:Int),x.2.1[Int.toNat e.rule]? =some e_1→rA GL x [.bool (decide (e_1≥e.fr)),.top,.top,.top]) (fun x=>by kernel_rfl) fun(x:Pc×List Int×Int) (hx:(0≤x.2.2∧x.2.2<x.1.chunks.length)∧(0≤(Cz x.1 x.2.2).rule∧(Cz x.1 x.2.2).rule<x.2.1.length))=>(by
 dsimp only[Bl,Ad,pcA,rA,Bj,GL,Bm,Bn,Aq,Aw]
 obtain⟨p,v,i⟩:=x;dsimp only at hx ⊢
 obtain⟨⟨h1,h2⟩,h3,h4⟩:=hx
 (repeat' first|(with_reducible first|rfl|exact True.intro|apply AG|apply And.intro|((first|apply Au|apply AE|apply Av|apply AF)<;>intro _))|(apply As<;>intro _)|apply AD|refine Af () ?_ ?_|((first|apply AK|apply AJ|apply AI|apply AH|apply AC|apply AB|apply AA|apply Az|apply Ax)<;>try dsimp only)|apply Af|(refine Prod.forall.2 ?_;intro _;try dsimp only)|(intro _;try dsimp only))
 all_goals first
  |rfl
  |omega
  |(rename p.chunks[_]? =some _=>hq;have e:=HL hq;rw[e] at h3 h4;first|omega|(rename v[_]? =some _=>hr;have e2:=Ox hr;rw[e,Cf,e2];done)|(rename v[_]? =some _=>hr;have e2:=Ox hr;rw[e,Cf,e2];exact decide_eq_decide.2 (by omega)))
  |skip)
theorem a4a{i:Int}(h:0≤i):blk i++[32]=blk (i+1):=by
 rw[blk,blk,BD h,List.replicate_succ']
theorem RM{i:Int}(h:0≤i):((blk i).length:Int)=i:=by simp [blk];omega
def Hg:Sig:= {X:=Int×Unit,args:=fun x=>[.int .i64 x.1],pre:=fun x=>0≤x.1∧x.1≤100000,Y:=Unit,post:=fun x y=>True,res:=fun x y=> .str (blk x.1),outs:=fun x y=>[.top],keep:=false}
def RN(x:Int×Unit):LS:= {ι:=Int,inv:=fun i=>0≤i∧i≤x.1,regs:=fun i=>[(0,.int .i64 x.1),(3,.str (blk i)),(4,.int .i64 i)],als:=[],meas:=fun i=>(x.1-i).toNat}
theorem a4b:Ah G Tryz.prog 89 Hg:=
 vcFun_okP [] [] false (fun x=>[(3,RN x)]) Tryz.func89 rfl (by decide) trivial (fun(x:Int×Unit)=>(∀(y:Unit),True→True∧True∧True)∧eA (RN x) [.int .i64 x.1,.str #[].toList,.int .i64 (0:Int)]∧∀(i:Int),(0:Int)≤i∧i≤x.1→Ab (decide (i<x.1)) ((↑(List.length (blk i)+(1:Nat)):Int)≤IntKind.max IntKind.i64∧inR IntKind.i64 (i+(1:Int))∧eN (RN x) i [.int .i64 x.1,.str (blk i++ #[(32:UInt8)].toList),.int .i64 (i+(1:Int))]) (rA Hg x [.str (blk i),.top])) (fun x=>by kernel_rfl) fun(x:Int×Unit) (hx:0≤x.1∧x.1≤100000)=>(by
 dsimp only[eA,eN,RN,rA,Hg,Aq,Aw,AZ]
 obtain⟨x,_⟩:=x;dsimp only at hx ⊢
 obtain⟨h1,h2⟩:=hx
 (repeat' first|(with_reducible first|rfl|exact True.intro|apply AG|apply And.intro|((first|apply Au|apply AE|apply Av|apply AF)<;>intro _))|(apply As<;>intro _)|apply AD|refine Af () ?_ ?_|((first|apply AK|apply AJ|apply AI|apply AH|apply AC|apply AB|apply AA|apply Az|apply Ax)<;>try dsimp only)|apply Af|(refine Prod.forall.2 ?_;intro _;try dsimp only)|(intro _;try dsimp only))
 all_goals first
  |with_reducible rfl
  |omega
  |exact a4a (by omega)
  |exact(a4a (by omega))
  |(rename¬_<x=>hq;congr 1;omega)
  |((try simp only[Ai]);omega)
  |(have hb:=RM (show(0:Int)≤_ by omega);(try simp only[Ai]);omega)
  |(rename 0≤_∧_≤x=>hq;have hb:=RM hq.1;(try simp only[Ai]);omega)
  |rfl
  |skip)
theorem WY{p:Pc}{v:List Int}{i:Int}{ls:List (List UInt8)}{s:List UInt8}(h:rnI p v i ls s):0≤i∧i<p.chunks.length:=h.1
attribute [local irreducible] rnI BF rnL Cf blk
def Lc:Sig:= {X:=Pc×List Int,args:=fun x=>[.agg (pcA false x.1),Ad x.2],pre:=fun x=>renP x.1 x.2,Y:=Unit,post:=fun x y=>True,res:=fun x y=>Cg (BF x.1 x.2),outs:=fun x y=>[.top,.top],keep:=false}
def MI(x:Pc×List Int):LS:= {ι:=Int×List (List UInt8)×List UInt8,inv:=fun i=>rnI x.1 x.2 i.1 i.2.1 i.2.2,regs:=fun i=>[(1,Ad x.2),(2,.box 0 (pcA false x.1)),(5,Cg i.2.1),(6,.str i.2.2),(7,.int .i64 i.1)],als:=[],meas:=fun i=>x.1.chunks.length-i.1.toNat}
theorem b4t:Ah G Tryz.prog 53 Lc:=
 vcFun_okP [(89,0,Hg),(90,0,GL)] [(42,⟨List UInt8,Ag⟩)] false (fun x=>[(4,MI x)]) Tryz.func53 rfl (by decide) ⟨a4b,WX,trivial⟩ (fun(x:Pc×List Int)=>(∀(y:Unit),True→(∀(x:List UInt8),True∧True)∧True∧True∧True)∧cA Hg [.int .i64 x.1.ind] fun x_1 y=>eA (MI x) [Ad x.2,.box 0 [.int .i64 x.1.ind,AV.sl false 0 2 Ru ruA x.1.rules,AV.sl false 0 5 Ch chA x.1.chunks,AV.sl false 0 3 Sn snA x.1.spans,AV.sl false 0 2 Ti tiA x.1.ties],AV.sl true 0 1 (List UInt8) Ag [],.str (blk x_1.1),.int .i64 (0:Int)]∧∀(i:Int×List (List UInt8)×List UInt8),rnI x.1 x.2 i.1 i.2.1 i.2.2→Ab (decide (i.1<(↑(List.length x.1.chunks):Int))) (((0:Int)≤i.1∧i.1<(↑(List.length x.1.chunks):Int))∧∀(e:Ch),x.1.chunks[Int.toNat i.1]? =some e→(↑(List.length i.2.2+List.length e.text):Int)≤IntKind.max IntKind.i64∧inR IntKind.i64 (i.1+(1:Int))∧Ab (i.1+(1:Int)==(↑(List.length x.1.chunks):Int)) (∃(x_2:List UInt8),i.2.2++e.text=x_2∧(∃(zs:List (List UInt8)),AV.sl true 0 1 (List UInt8) Ag [x_2]=AV.sl true 0 1 (List UInt8) Ag zs∧(BH Ag∧(Bb (List.length i.2.1+List.length zs) (16:Nat)∧rA Lc x [AV.sl true 0 1 (List UInt8) Ag (i.2.1++zs),.top,.top])))) (cA GL [.agg [.int .i64 x.1.ind,AV.sl false 0 2 Ru ruA x.1.rules,AV.sl false 0 5 Ch chA x.1.chunks,AV.sl false 0 3 Sn snA x.1.spans,AV.sl false 0 2 Ti tiA x.1.ties],Ad x.2,.int .i64 i.1] fun x_2 y=>Ab (Cf x_2.2.1 (Cz x_2.1 x_2.2.2)) (∃(x_3:List UInt8),i.2.2++e.text=x_3∧∃(zs:List (List UInt8)),AV.sl true 0 1 (List UInt8) Ag [x_3]=AV.sl true 0 1 (List UInt8) Ag zs∧BH Ag∧Bb (List.length i.2.1+List.length zs) (16:Nat)∧true=true∧true=true∧((0:Int)≤i.1∧i.1<(↑(List.length x.1.chunks):Int))∧∀(e:Ch),x.1.chunks[Int.toNat i.1]? =some e→inR IntKind.i64 (x.1.ind+e.nest)∧∃(x_4:Int×Unit),((0:Int)≤x_4.1∧x_4.1≤(100000:Int))∧x.1.ind+e.nest=x_4.1∧∃(y0:Unit),(∀(y:Unit),True→AV.str (blk x_4.1)=AV.str (blk x_4.1))∧true=true∧inR IntKind.i64 (i.1+(1:Int))∧eN (MI x) i [Ad x.2,.box 0 [.int .i64 x.1.ind,AV.sl false 0 2 Ru ruA x.1.rules,AV.sl false 0 5 Ch chA x.1.chunks,AV.sl false 0 3 Sn snA x.1.spans,AV.sl false 0 2 Ti tiA x.1.ties],AV.sl true 0 1 (List UInt8) Ag (i.2.1++zs),.str (blk x_4.1),.int .i64 (i.1+(1:Int))]) (((0:Int)≤i.1∧i.1<(↑(List.length x.1.chunks):Int))∧∀(e_1:Ch),x.1.chunks[Int.toNat i.1]? =some e_1→Ab e_1.space ((↑(List.length (i.2.2++e.text)+(1:Nat)):Int)≤IntKind.max IntKind.i64∧inR IntKind.i64 (i.1+(1:Int))∧eN (MI x) i [Ad x.2,.box 0 [.int .i64 x.1.ind,AV.sl false 0 2 Ru ruA x.1.rules,AV.sl false 0 5 Ch chA x.1.chunks,AV.sl false 0 3 Sn snA x.1.spans,AV.sl false 0 2 Ti tiA x.1.ties],AV.sl true 0 1 (List UInt8) Ag i.2.1,.str (i.2.2++e.text++ #[(32:UInt8)].toList),.int .i64 (i.1+(1:Int))]) (inR IntKind.i64 (i.1+(1:Int))∧eN (MI x) i [Ad x.2,.box 0 [.int .i64 x.1.ind,AV.sl false 0 2 Ru ruA x.1.rules,AV.sl false 0 5 Ch chA x.1.chunks,AV.sl false 0 3 Sn snA x.1.spans,AV.sl false 0 2 Ti tiA x.1.ties],AV.sl true 0 1 (List UInt8) Ag i.2.1,.str (i.2.2++e.text),.int .i64 (i.1+(1:Int))])))) (∃(x_2:List UInt8),i.2.2=x_2∧(∃(zs:List (List UInt8)),AV.sl true 0 1 (List UInt8) Ag [x_2]=AV.sl true 0 1 (List UInt8) Ag zs∧(BH Ag∧(Bb (List.length i.2.1+List.length zs) (16:Nat)∧rA Lc x [AV.sl true 0 1 (List UInt8) Ag (i.2.1++zs),.top,.top]))))) (fun x=>by kernel_rfl) fun(x:Pc×List Int) (hx:renP x.1 x.2)=>(by
 dsimp only[cA,Bl,eA,eN,MI,Ad,Cg,pcA,rA,Bj,GL,Hg,Lc,Bm,Bn,Aq,Aw,mvL,lnL,mvE,lnE,mvG,mvH,lnG,lnH,AZ]
 obtain⟨p,v⟩:=x;dsimp only at hx ⊢
 have hx:renP p v:=hx
 have h1:=hx.ok.ind;have h2:=hx.ok.cl;have h3:=hx.ct
 (repeat' first|refine Ds p ?_|(with_reducible first|rfl|exact True.intro|apply AG|apply And.intro|((first|apply Au|apply AE|apply Av|apply AF)<;>intro _))|(apply As<;>intro _)|apply AD|refine Af () ?_ ?_|((first|apply AK|apply AJ|apply AI|apply AH|apply AC|apply AB|apply AA|apply Az|apply Ax)<;>try dsimp only)|apply Af|(refine Prod.forall.2 ?_;intro _;try dsimp only)|(intro _;try dsimp only))
 all_goals(try(repeat(rename p.chunks[_]? =some _=>hq;revert hq;rename p.chunks[_]? =some _=>hr;intro hq;rw[hr] at hq;cases hq)))
 all_goals first
  |rfl
  |(simp only[Ai];omega)
  |omega
  |exact a2D hx.ok
  |(exfalso;have hq:=WY (show rnI _ _ _ _ _ by assumption);omega)
  |exact a2G ‹_› ‹_› (by omega) (HM ‹_› ‹_›)
  |exact a2H ‹_› ‹_› (by omega) (HM ‹_› ‹_›) ‹_›
  |exact a2I ‹_› ‹_› (by omega) (HM ‹_› ‹_›) ‹_›
  |(have hq:=WY (show rnI _ _ _ _ _ by assumption);(try simp only[Ai]);omega)
  |(have hi:=(show rnI _ _ _ _ _ by assumption);have hq:=WY hi;have hc:=a2J hx hq ‹_› (by omega);(try rw[HL ‹_›]);(try simp only[Ai]);omega)
  |(have hi:=(show rnI _ _ _ _ _ by assumption);have hq:=a2E hx.ok hi;have hm:=Ou (AY (show p.chunks[_]? =some _ by assumption));(try simp only[Ai,Bb,List.length_append,List.length_cons,List.length_nil]);omega)
  |exact a2F ‹_› ‹_› (by omega)
  |exact()
  |skip)
end Go.My
end
section
namespace Go.My
open Go.Eng Go.Proofs
variable {G:GInv}
def Hh:Sig:= {X:=Int×Unit,args:=fun x=>[.int .i64 x.1],pre:=fun x=>True,Y:=Unit,post:=fun x y=>True,res:=fun x y=> .int .i64 (wdF x.1),outs:=fun x y=>[.top],keep:=false}
theorem b4u:Ah G Tryz.prog 186 Hh:=
 vcFun_okP [] [] false (fun x=>[]) Tryz.func186 rfl (by decide) trivial (fun(x:Int×Unit)=>(∀(y:Unit),True→True∧True∧True)∧Ab (decide (x.1<(0:Int))) (rA Hh x [.int .i64 (0:Int),.top]) (Ab (decide (x.1>(100000:Int))) (rA Hh x [.int .i64 (100000:Int),.top]) (rA Hh x [.int .i64 x.1,.top]))) (fun x=>by kernel_rfl) fun(x:Int×Unit) (hx:True)=>(by
 dsimp only[rA,Hh,Aq,Aw]
 obtain⟨x,_⟩:=x;dsimp only at hx ⊢
 (repeat' first|(with_reducible first|rfl|exact True.intro|apply AG|apply And.intro|((first|apply Au|apply AE|apply Av|apply AF)<;>intro _))|(apply As<;>intro _)|apply AD|refine Af () ?_ ?_|((first|apply AK|apply AJ|apply AI|apply AH|apply AC|apply AB|apply AA|apply Az|apply Ax)<;>try dsimp only)|apply Af|(refine Prod.forall.2 ?_;intro _;try dsimp only)|(intro _;try dsimp only))
 all_goals first
  |rfl
  |(unfold wdF;omega)
  |skip)
def ovN(ind w:Int)(v:List Int):List Ch→Int→Int
 |[],n=>max (n-w) 0
 |[c],n=>max (n+c.text.length-w) 0
 |c::d::l,n=>if Cf v c then max (n+c.text.length-w) 0+ovN ind w v (d::l) (ind+c.nest) else ovN ind w v (d::l) (n+c.text.length+(if c.space then 1 else 0))
theorem WZ{ind w:Int}{v:List Int}(h0:0≤ind):∀ {l:List Ch} {s:List UInt8},(∀(i:Nat) c,l[i]? =some c→i+1<l.length→0≤c.nest)→ovN ind w v l s.length=ovL w (rnL ind v l s)
 |[],s,_=>by simp [ovN,rnL,ovL]
 |[c],s,_=>by simp [ovN,rnL,ovL]
 |c::d::l,s,h=>by
  have hn:=h 0 c rfl (by simp)
  have h':∀(i:Nat) e,(d::l)[i]? =some e→i+1<(d::l).length→0≤e.nest:=fun i e hi hl=>h (i+1) e (by simpa using hi) (by simpa using hl)
  rw[ovN,rnL]
  split
  ·have h1:=WZ (w:=w) (v:=v) h0 (s:=blk (ind+c.nest)) h'
   rw[RM (by omega)] at h1
   rw[h1];simp [ovL]
  ·have h1:=WZ (w:=w) (v:=v) h0 (s:=s++c.text++(if c.space then [32] else [])) h'
   rw[←h1]
   congr 1
   simp only[List.length_append]
   cases c.space<;>simp
theorem Xa{ind w:Int}{v:List Int}:∀ {l:List Ch} {n:Int},0≤ovN ind w v l n
 |[],n=>by rw[ovN];omega
 |[c],n=>by rw[ovN];omega
 |c::d::l,n=>by
  rw[ovN]
  have h1:= @Xa ind w v (d::l) (ind+c.nest)
  have h2:= @Xa ind w v (d::l) (n+c.text.length+(if c.space then 1 else 0))
  split<;>omega
structure ovP (p:Pc) (v:List Int) (w:Int):Prop where
 re:renP p v
 ok:Bo p=true
 w0:0≤w∧w≤100000
def ovJ(p:Pc)(v:List Int)(w:Int)(i o n:Int):Prop:=
 (0≤i∧i≤p.chunks.length)∧(0≤o∧(0≤n∧n+Ck (p.chunks.drop i.toNat)≤Ck p.chunks+101*(i+1)))∧
   (i<p.chunks.length→o+ovN p.ind w v (p.chunks.drop i.toNat) n=ovL w (BF p v))∧(i=p.chunks.length→o=ovL w (BF p v))
theorem b4v{p:Pc}{v:List Int}{w:Int}(h:ovP p v w):0≤ovL w (BF p v)∧ovL w (BF p v)≤2^61+8200:=by
 have h1:=Wg (w:=w) h.w0.1 (l:=BF p v)
 have h2:=(Oo (v:=v) h.re.ok).1
 have h3:=h.re.ct
 omega
theorem b4w{p:Pc}{v:List Int}{w:Int}(h:ovP p v w):ovJ p v w 0 0 p.ind:=by
 have hi:=h.re.ok.ind;have hc:=h.re.ok.cl
 refine⟨by omega,⟨by omega,by omega,by simp;omega⟩,fun _=> ?_,by omega⟩
 have:=WZ (w:=w) (v:=v) hi.1 (l:=p.chunks) (s:=blk p.ind) fun i c hi hl=>(h.re.ok.sp i c hi hl).2.2.1
 rw[RM hi.1] at this
 rw[BF,←this];simp
theorem b4x{p:Pc}{v:List Int}{w i o n:Int}(h:ovP p v w)(hj:ovJ p v w i o n):(0≤i∧i≤p.chunks.length)∧(0≤o∧o≤2^61+8200)∧(0≤n∧n≤2^61+8200)∧p.chunks.length≤80:=by
 have h1:=b4v h;have h2:=hj.1;have h3:=hj.2.1;have h4:=h.re.ct;have h5:=h.re.ok.cl
 refine⟨h2,⟨h3.1,?_⟩,⟨h3.2.1,by omega⟩,by omega⟩
 by_cases e:i<p.chunks.length
 ·have:=hj.2.2.1 e
  have h6:= @Xa p.ind w v (p.chunks.drop i.toNat) n
  omega
 ·have:=hj.2.2.2 (by omega);omega
theorem b4y{p:Pc}{v:List Int}{w i o n:Int}{c:Ch}(h:ovP p v w)(hj:ovJ p v w i o n)(hc:p.chunks[i.toNat]? =some c):n+c.text.length≤2^61+8200:=by
 have h3:=hj.2.1.2.2;have h4:=h.re.ct;have h5:=h.re.ok.cl;have h1:=hj.1
 rw[Dq hc,show Ck (c::p.chunks.drop (i.toNat+1))=c.text.length+Ck (p.chunks.drop (i.toNat+1)) by simp [Ck]] at h3
 omega
theorem a4c{p:Pc}{i:Int}{c:Ch}(h:Bo p=true)(h0:0≤i)(hc:p.chunks[i.toNat]? =some c)(hi:i+1=p.chunks.length):c.nest=0:=by
 simp only[Bo,EI,Bool.and_eq_true] at h
 have h1:=h.2.2.1.2.2
 have h2:p.chunks.getLast? =some c:=by
  rw[List.getLast?_eq_getElem?,show p.chunks.length-1=i.toNat by omega];exact hc
 rw[h2] at h1
 simp only[Option.getD_some,On,Bool.and_eq_true,decide_eq_true_eq] at h1
 exact h1.2.2.2
theorem a4d{p:Pc}{v:List Int}{w i o n:Int}{c:Ch}(h:ovP p v w)(hj:ovJ p v w i o n)(hc:p.chunks[i.toNat]? =some c)(hi:i+1=p.chunks.length):ovJ p v w (i+1) (o+max (n+c.text.length-w) 0) (p.ind+c.nest):=by
 have h2:=hj.2.2.1 (by omega)
 rw[Dq hc,List.drop_of_length_le (by have:=hj.1;omega),ovN] at h2
 have h3:=h.re.ok.ind;have h4:=a4c h.ok hj.1.1 hc hi
 refine⟨by have:=hj.1;omega,⟨by have:=hj.2.1;omega,by omega,?_⟩,by omega,fun _=>h2⟩
 rw[List.drop_of_length_le (by have:=hj.1;omega),h4]
 have:=hj.1
 simp [Ck];omega
theorem a4e{p:Pc}{v:List Int}{w i o n:Int}{c:Ch}(hj:ovJ p v w i o n)(hc:p.chunks[i.toNat]? =some c)(hi:i+1≠p.chunks.length):
 ovN p.ind w v (p.chunks.drop i.toNat) n=(if Cf v c then max (n+c.text.length-w) 0+ovN p.ind w v (p.chunks.drop (i+1).toNat) (p.ind+c.nest) else ovN p.ind w v (p.chunks.drop (i+1).toNat) (n+c.text.length+(if c.space then 1 else 0)))∧i+1<p.chunks.length:=by
 have h1:=(Cm hc).1
 have h2:=hj.1
 refine⟨?_,by omega⟩
 rw[Dq hc,BD h2.1,List.drop_eq_getElem_cons (show i.toNat+1<p.chunks.length by omega),ovN]
theorem a4f{l:List Ch}{i:Nat}{c:Ch}(h:l[i]? =some c):Ck (l.drop i)=c.text.length+Ck (l.drop (i+1)):=by rw[Dq h];simp [Ck]
theorem a4g{p:Pc}{v:List Int}{w i o n:Int}{c:Ch}(h:ovP p v w)(hj:ovJ p v w i o n)(hc:p.chunks[i.toNat]? =some c)(hi:i+1≠p.chunks.length)(hs:Cf v c=true):ovJ p v w (i+1) (o+max (n+c.text.length-w) 0) (p.ind+c.nest):=by
 have h1:=a4e hj hc hi
 have h2:=hj.2.2.1 (by omega)
 rw[h1.1,if_pos hs] at h2
 have h3:=h.re.ok.ind;have h4:=(h.re.ok.sp i.toNat c hc (by have:=hj.1;omega)).2.2
 have h5:=hj.2.1;have h6:=hj.1
 have h7:=a4f hc
 rw[h7] at h5
 refine⟨by omega,⟨by omega,by omega,?_⟩,fun _=>by omega,by omega⟩
 rw[BD h6.1];omega
theorem a4h{p:Pc}{v:List Int}{w i o n m:Int}{c:Ch}(h:ovP p v w)(hj:ovJ p v w i o n)(hc:p.chunks[i.toNat]? =some c)(hi:i+1≠p.chunks.length)(hs:Cf v c=false)(hm:m=n+c.text.length+(if c.space then 1 else 0)):ovJ p v w (i+1) o m:=by
 have h1:=a4e hj hc hi
 have h2:=hj.2.2.1 (by omega)
 rw[h1.1,if_neg (by rw[hs];simp),←hm] at h2
 have h5:=hj.2.1;have h6:=hj.1
 have h7:=a4f hc
 rw[h7] at h5
 refine⟨by omega,⟨by omega,by split at hm<;>omega,?_⟩,fun _=>h2,by omega⟩
 rw[BD h6.1];split at hm<;>omega
theorem b4z{p:Pc}{v:List Int}{w i o n:Int}{c:Ch}(hj:ovJ p v w i o n)(h:ovP p v w)(hc:p.chunks[i.toNat]? =some c)(hi:i+1=p.chunks.length)(hg:n+(c.text.length:Int)>w):ovJ p v w (i+1) (o+(n+(c.text.length:Int))-w) (p.ind+c.nest):=by
 have:=a4d h hj hc hi
 rwa [show o+max (n+c.text.length-w) 0=o+(n+(c.text.length:Int))-w by omega] at this
theorem b4A{p:Pc}{v:List Int}{w i o n:Int}{c:Ch}(hj:ovJ p v w i o n)(h:ovP p v w)(hc:p.chunks[i.toNat]? =some c)(hi:i+1=p.chunks.length)(hg:¬n+(c.text.length:Int)>w):ovJ p v w (i+1) o (p.ind+c.nest):=by
 have:=a4d h hj hc hi
 rwa [show o+max (n+c.text.length-w) 0=o by omega] at this
theorem b4B{p:Pc}{v:List Int}{w i o n:Int}{c:Ch}(hj:ovJ p v w i o n)(h:ovP p v w)(hc:p.chunks[i.toNat]? =some c)(hi:i+1≠p.chunks.length)(hs:Cf v (Cz p i)=true)(hg:n+(c.text.length:Int)>w):ovJ p v w (i+1) (o+(n+(c.text.length:Int))-w) (p.ind+c.nest):=by
 have:=a4g h hj hc hi (HM hc hs)
 rwa [show o+max (n+c.text.length-w) 0=o+(n+(c.text.length:Int))-w by omega] at this
theorem b4C{p:Pc}{v:List Int}{w i o n:Int}{c:Ch}(hj:ovJ p v w i o n)(h:ovP p v w)(hc:p.chunks[i.toNat]? =some c)(hi:i+1≠p.chunks.length)(hs:Cf v (Cz p i)=true)(hg:¬n+(c.text.length:Int)>w):ovJ p v w (i+1) o (p.ind+c.nest):=by
 have:=a4g h hj hc hi (HM hc hs)
 rwa [show o+max (n+c.text.length-w) 0=o by omega] at this
theorem b4D{p:Pc}{v:List Int}{w i o n:Int}{c:Ch}(hj:ovJ p v w i o n)(h:ovP p v w)(hc:p.chunks[i.toNat]? =some c)(hi:i+1≠p.chunks.length)(hs:Cf v (Cz p i)=false)(hb:c.space=true):ovJ p v w (i+1) o (n+(c.text.length:Int)+1):=
 a4h h hj hc hi (HM hc hs) (by rw[hb];rfl)
theorem b4E{p:Pc}{v:List Int}{w i o n:Int}{c:Ch}(hj:ovJ p v w i o n)(h:ovP p v w)(hc:p.chunks[i.toNat]? =some c)(hi:i+1≠p.chunks.length)(hs:Cf v (Cz p i)=false)(hb:c.space=false):ovJ p v w (i+1) o (n+(c.text.length:Int)):=
 a4h h hj hc hi (HM hc hs) (by rw[hb];simp)
theorem b4F{p:Pc}{v:List Int}{w i o n:Int}{c:Ch}(h:ovP p v w)(hj:ovJ p v w i o n)(hc:p.chunks[i.toNat]? =some c):(0≤c.nest∧c.nest≤40)∧(0≤p.ind∧p.ind≤60):=by
 have hl:=(Cm hc).1
 refine⟨?_,h.re.ok.ind⟩
 by_cases e:i+1=p.chunks.length
 ·have:=a4c h.ok hj.1.1 hc e;omega
 ·exact(h.re.ok.sp i.toNat c hc (by have:=hj.1;omega)).2.2
theorem b4G{p:Pc}{v:List Int}{w i o n:Int}{c:Ch}(h:ovP p v w)(hj:ovJ p v w i o n)(hc:p.chunks[i.toNat]? =some c)(hi:i+1≠p.chunks.length):(0≤i∧i<p.chunks.length)∧(0≤(Cz p i).rule∧(Cz p i).rule<v.length):=by
 have hl:=(Cm hc).1
 have h1:=h.re.ok.sp i.toNat c hc (by have:=hj.1;omega)
 rw[HL hc,h.re.vl]
 exact⟨by have:=hj.1;omega,h1.1⟩
attribute [local irreducible] ovJ Cf
def Ld:Sig:= {X:=Pc×List Int×Int,args:=fun x=>[.agg (pcA false x.1),Ad x.2.1,.int .i64 x.2.2],pre:=fun x=>ovP x.1 x.2.1 x.2.2,Y:=Unit,post:=fun x y=>True,res:=fun x y=> .int .i64 (ovL x.2.2 (BF x.1 x.2.1)),outs:=fun x y=>[.top,.top,.top],keep:=false}
def Le(x:Pc×List Int×Int):LS:= {ι:=Int×Int×Int,inv:=fun i=>ovJ x.1 x.2.1 x.2.2 i.1 i.2.1 i.2.2,regs:=fun i=>[(1,Ad x.2.1),(2,.int .i64 x.2.2),(3,.box 0 (pcA false x.1)),(7,.int .i64 i.2.1),(8,.int .i64 i.2.2),(9,.int .i64 i.1)],als:=[],meas:=fun i=>x.1.chunks.length-i.1.toNat}
def Xb(x:Pc×List Int×Int)(e:Ch)(i:Int×Int×Int):Prop:=Ab (decide (i.2.2+(↑(List.length e.text):Int)>x.2.2)) (inR IntKind.i64 (i.2.1+(i.2.2+(↑(List.length e.text):Int)))∧inR IntKind.i64 (i.2.1+(i.2.2+(↑(List.length e.text):Int))-x.2.2)∧(true=true∧(true=true∧(((0:Int)≤i.1∧i.1<(↑(List.length x.1.chunks):Int))∧(∀(e_1:Ch),x.1.chunks[Int.toNat i.1]? =some e_1→inR IntKind.i64 (x.1.ind+e_1.nest)∧inR IntKind.i64 (i.1+(1:Int))∧(eN (Le x) i [Ad x.2.1,.int .i64 x.2.2,.box 0 [.int .i64 x.1.ind,AV.sl false 0 2 Ru ruA x.1.rules,AV.sl false 0 5 Ch chA x.1.chunks,AV.sl false 0 3 Sn snA x.1.spans,AV.sl false 0 2 Ti tiA x.1.ties],.int .i64 (i.2.1+(i.2.2+(↑(List.length e.text):Int))-x.2.2),.int .i64 (x.1.ind+e_1.nest),.int .i64 (i.1+(1:Int))])))))) (true=true∧(true=true∧(((0:Int)≤i.1∧i.1<(↑(List.length x.1.chunks):Int))∧(∀(e:Ch),x.1.chunks[Int.toNat i.1]? =some e→inR IntKind.i64 (x.1.ind+e.nest)∧inR IntKind.i64 (i.1+(1:Int))∧(eN (Le x) i [Ad x.2.1,.int .i64 x.2.2,.box 0 [.int .i64 x.1.ind,AV.sl false 0 2 Ru ruA x.1.rules,AV.sl false 0 5 Ch chA x.1.chunks,AV.sl false 0 3 Sn snA x.1.spans,AV.sl false 0 2 Ti tiA x.1.ties],.int .i64 i.2.1,.int .i64 (x.1.ind+e.nest),.int .i64 (i.1+(1:Int))])))))
theorem b4H:Ah G Tryz.prog 185 Ld:=
 vcFun_okP [(90,0,GL)] [] false (fun x=>[(4,Le x)]) Tryz.func185 rfl (by decide) ⟨WX,trivial⟩ (fun(x:Pc×List Int×Int)=>(∀(y:Unit),True→True∧True∧True∧True∧True)∧eA (Le x) [Ad x.2.1,.int .i64 x.2.2,.box 0 [.int .i64 x.1.ind,AV.sl false 0 2 Ru ruA x.1.rules,AV.sl false 0 5 Ch chA x.1.chunks,AV.sl false 0 3 Sn snA x.1.spans,AV.sl false 0 2 Ti tiA x.1.ties],.int .i64 (0:Int),.int .i64 x.1.ind,.int .i64 (0:Int)]∧∀(i:Int×Int×Int),ovJ x.1 x.2.1 x.2.2 i.1 i.2.1 i.2.2→Ab (decide (i.1<(↑(List.length x.1.chunks):Int))) (((0:Int)≤i.1∧i.1<(↑(List.length x.1.chunks):Int))∧∀(e:Ch),x.1.chunks[Int.toNat i.1]? =some e→inR IntKind.i64 (i.2.2+(↑(List.length e.text):Int))∧inR IntKind.i64 (i.1+(1:Int))∧Ab (i.1+(1:Int)==(↑(List.length x.1.chunks):Int)) (Xb x e i) (cA GL [.agg [.int .i64 x.1.ind,AV.sl false 0 2 Ru ruA x.1.rules,AV.sl false 0 5 Ch chA x.1.chunks,AV.sl false 0 3 Sn snA x.1.spans,AV.sl false 0 2 Ti tiA x.1.ties],Ad x.2.1,.int .i64 i.1] fun x_1 y=>Ab (Cf x_1.2.1 (Cz x_1.1 x_1.2.2)) (Xb x e i) (((0:Int)≤i.1∧i.1<(↑(List.length x.1.chunks):Int))∧∀(e_1:Ch),x.1.chunks[Int.toNat i.1]? =some e_1→Ab e_1.space (inR IntKind.i64 (i.2.2+(↑(List.length e.text):Int)+(1:Int))∧inR IntKind.i64 (i.1+(1:Int))∧eN (Le x) i [Ad x.2.1,.int .i64 x.2.2,.box 0 [.int .i64 x.1.ind,AV.sl false 0 2 Ru ruA x.1.rules,AV.sl false 0 5 Ch chA x.1.chunks,AV.sl false 0 3 Sn snA x.1.spans,AV.sl false 0 2 Ti tiA x.1.ties],.int .i64 i.2.1,.int .i64 (i.2.2+(↑(List.length e.text):Int)+(1:Int)),.int .i64 (i.1+(1:Int))]) (inR IntKind.i64 (i.1+(1:Int))∧eN (Le x) i [Ad x.2.1,.int .i64 x.2.2,.box 0 [.int .i64 x.1.ind,AV.sl false 0 2 Ru ruA x.1.rules,AV.sl false 0 5 Ch chA x.1.chunks,AV.sl false 0 3 Sn snA x.1.spans,AV.sl false 0 2 Ti tiA x.1.ties],.int .i64 i.2.1,.int .i64 (i.2.2+(↑(List.length e.text):Int)),.int .i64 (i.1+(1:Int))])))) (rA Ld x [.int .i64 i.2.1,.top,.top,.top])) (fun x=>by kernel_rfl) fun(x:Pc×List Int×Int) (hx:ovP x.1 x.2.1 x.2.2)=>(by
 dsimp only[Xb,cA,Bl,eA,eN,Le,Ad,pcA,rA,Bj,GL,Ld,Bm,Bn,Aq,Aw,mvL,lnL,mvE,lnE,mvG,mvH,lnG,lnH,AZ]
 obtain⟨p,v,w⟩:=x;dsimp only at hx ⊢
 have hx:ovP p v w:=hx
 have h1:=hx.re.ok.ind;have h2:=hx.re.ok.cl;have h3:=hx.w0
 have hJ:∀ {i o n:Int},ovJ p v w i o n→¬i<p.chunks.length→o=ovL w (BF p v):=fun h hi=>by unfold ovJ at h;exact h.2.2.2 (by omega)
 (repeat' first|refine Ds p ?_|(with_reducible first|rfl|exact True.intro|apply AG|apply And.intro|((first|apply Au|apply AE|apply Av|apply AF)<;>intro _))|(apply As<;>intro _)|apply AD|refine Af () ?_ ?_|((first|apply AK|apply AJ|apply AI|apply AH|apply AC|apply AB|apply AA|apply Az|apply Ax)<;>try dsimp only)|apply Af|(refine Prod.forall.2 ?_;intro _;try dsimp only)|(intro _;try dsimp only))
 all_goals(try(repeat(rename p.chunks[_]? =some _=>hq;revert hq;rename p.chunks[_]? =some _=>hr;intro hq;rw[hr] at hq;cases hq)))
 all_goals first
  |with_reducible rfl
  |with_reducible assumption
  |exact b4w hx
  |exact b4z ‹_› hx ‹_› ‹_› ‹_›
  |exact b4A ‹_› hx ‹_› ‹_› ‹_›
  |exact b4B ‹_› hx ‹_› ‹_› ‹_› ‹_›
  |exact b4C ‹_› hx ‹_› ‹_› ‹_› ‹_›
  |exact b4D ‹_› hx ‹_› ‹_› ‹_› ‹_›
  |exact b4E ‹_› hx ‹_› ‹_› ‹_› ‹_›
  |exact hJ ‹_› ‹_›
  |exact(hJ ‹_› ‹_›).symm
  |(have hq:=b4x hx (show ovJ _ _ _ _ _ _ by assumption);(try have hl:=b4y hx (show ovJ _ _ _ _ _ _ by assumption) ‹_›);(try have hn:=b4F hx (show ovJ _ _ _ _ _ _ by assumption) ‹_›);(try simp only[Ai]);omega)
  |(have hq:=b4G hx (show ovJ _ _ _ _ _ _ by assumption) ‹_› ‹_›;omega)
  |skip)
end Go.My
end
section
namespace Go.My
open Go.Eng Go.Proofs
variable {G:GInv}
def sn0:Sn:=⟨0,0,0⟩
def JA(p:Pc)(i:Int):Sn:=p.spans.getD i.toNat sn0
theorem OH{p:Pc}{i:Int}{s:Sn}(h:p.spans[i.toNat]? =some s):JA p i=s:=by simp [JA,List.getD,h]
def snV(p:Pc)(v:List Int)(i k:Int)(b:Bool):Prop:=((JA p i).fr≤k∧k≤(JA p i).tuu+1)∧b=((p.chunks.take k.toNat).drop (JA p i).fr.toNat).any (FD p v)
theorem a4i{p:Pc}{v:List Int}{i:Int}{s:Sn}(hp:pcOk p)(hs:p.spans[i.toNat]? =some s):snV p v i s.fr false:=by
 have h:=(hp.sn s (AY hs)).1
 unfold snV
 rw[OH hs]
 exact⟨by omega,by rw[List.drop_of_length_le (by rw[List.length_take];omega)];rfl⟩
theorem RO{p:Pc}{v:List Int}{i k:Int}{b d:Bool}{s:Sn}{c:Ch}(h:snV p v i k b)(hp:pcOk p)(hs:p.spans[i.toNat]? =some s)(hk:k≤s.tuu)(hc:p.chunks[k.toNat]? =some c)(hd:d=(b||FD p v c)):snV p v i (k+1) d:=by
 have h1:=(hp.sn s (AY hs)).1
 have hl:=(Cm hc).1
 unfold snV at h ⊢
 rw[OH hs] at h ⊢
 refine⟨by omega,?_⟩
 rw[BD (by omega),CT hc,List.drop_append_of_le_length (by rw[List.length_take];omega),List.any_append,←h.2,hd]
 simp
theorem a4j{p:Pc}{v:List Int}{i k:Int}{b:Bool}{s:Sn}(h:snV p v i k b)(hs:p.spans[i.toNat]? =some s)(hk:¬k≤s.tuu):snS p v s=b:=by
 unfold snV at h
 rw[OH hs] at h
 rw[snS,show s.tuu+1=k by omega];exact h.2.symm
theorem RP{p:Pc}{v:List Int}{i k:Int}{b:Bool}{s:Sn}(h:snV p v i k b)(hp:pcOk p)(hs:p.spans[i.toNat]? =some s):((0≤s.fr∧s.fr≤k)∧k≤s.tuu+1)∧s.tuu<(p.chunks.length:Int)-1∧(0≤s.cost∧s.cost≤9):=by
 have h1:=hp.sn s (AY hs)
 unfold snV at h
 rw[OH hs] at h
 omega
theorem a4k{p:Pc}{v:List Int}{i k:Int}{b:Bool}{s:Sn}{c:Ch}(h:snV p v i k b)(hp:pcOk p)(hs:p.spans[i.toNat]? =some s)(hk:k≤s.tuu)(hc:p.chunks[k.toNat]? =some c):0≤c.rule∧c.rule<p.rules.length:=by
 have h1:=RP h hp hs
 exact(hp.sp k.toNat c hc (by omega)).1
theorem a4l{p:Pc}{v:List Int}{i k:Int}{b:Bool}{s:Sn}(h:snV p v i k b)(hs:p.spans[i.toNat]? =some s)(hk:k≤s.tuu):((JA p i).tuu+1-(k+1)).toNat<((JA p i).tuu+1-k).toNat:=by rw[OH hs];omega
theorem a4m{p:Pc}{v:List Int}{i n a:Int}{r:Ru}(hi:bdI p v i n)(hlt:i<v.length)(ha:v[i.toNat]? =some a)(hr:p.rules[i.toNat]? =some r):bdI p v (i+1) (n+r.cost*a):=by
 rw[Int.mul_comm];exact a3a hi hlt ha hr
theorem a4n{p:Pc}{v:List Int}{i n a:Int}{r:Ru}(h:bndP p v)(hi:bdI p v i n)(ha:v[i.toNat]? =some a)(hr:p.rules[i.toNat]? =some r):0≤r.cost*a∧r.cost*a≤27:=by
 rw[Int.mul_comm];exact a3b h hi ha hr
theorem a4o{p:Pc}{v:List Int}{i k n:Int}{b:Bool}{s:Sn}(hi:bdJ p v i n)(hlt:i<p.spans.length)(hs:p.spans[i.toNat]? =some s)(hv:snV p v i k b)(hk:¬k≤s.tuu)(hb:b=true):bdJ p v (i+1) (n+s.cost):=a3c hi hlt hs (by rw[a4j hv hs hk];exact hb)
theorem a4p{p:Pc}{v:List Int}{i k n:Int}{b:Bool}{s:Sn}(hi:bdJ p v i n)(hlt:i<p.spans.length)(hs:p.spans[i.toNat]? =some s)(hv:snV p v i k b)(hk:¬k≤s.tuu)(hb:b=false):bdJ p v (i+1) n:=a3d hi hlt hs (by rw[a4j hv hs hk];exact hb)
theorem b4I{p:Pc}{v:List Int}{c:Ch}{a:Int}(h:c.rule<v.length)(ha:v[c.rule.toNat]? =some a):decide (a≥c.fr)=(false||FD p v c):=by
 rw[Wp h,Cf,Ox ha];rfl
theorem b4J{p:Pc}{v:List Int}{c:Ch}(h:¬c.rule<v.length):false=(false||FD p v c):=by rw[a2L h];rfl
theorem b4K{p:Pc}{v:List Int}{k:Int}{c:Ch}(hp:renP p v)(h:0≤c.rule∧c.rule<p.rules.length)(hc:p.chunks[k.toNat]? =some c):Cf v (Cz p k)=(false||FD p v c):=by
 rw[HL hc,Wp (by rw[hp.vl];exact h.2)];rfl
theorem MJ{p:Pc}{v:List Int}{i k:Int}{b:Bool}{s:Sn}(h:snV p v i k b)(hp:pcOk p)(hs:p.spans[i.toNat]? =some s)(hk:k≤s.tuu):p.chunks[k.toNat]? =some (Cz p k)∧(0≤(Cz p k).rule∧(Cz p k).rule<p.rules.length):=by
 have h1:=RP h hp hs
 have h2:=b3w (p:=p) (i:=k) (by omega) (by omega)
 exact⟨h2,a4k h hp hs hk h2⟩
theorem a4q{p:Pc}{v:List Int}{i k:Int}{b:Bool}{s:Sn}(h:snV p v i k b)(hp:pcOk p)(hs:p.spans[i.toNat]? =some s)(hk:k≤s.tuu)(hb:b=true):snV p v i (k+1) true:=RO h hp hs hk (MJ h hp hs hk).1 (by rw[hb];rfl)
theorem b4L{p:Pc}{v:List Int}{i k a:Int}{b:Bool}{s:Sn}{c:Ch}(h:snV p v i k b)(hp:pcOk p)(hs:p.spans[i.toNat]? =some s)(hk:k≤s.tuu)(hb:b=false)(hc:p.chunks[k.toNat]? =some c)(hl:c.rule<v.length)(ha:v[c.rule.toNat]? =some a):snV p v i (k+1) (decide (a≥c.fr)):=RO h hp hs hk hc (by rw[hb];exact b4I hl ha)
theorem b4M{p:Pc}{v:List Int}{i k:Int}{b:Bool}{s:Sn}{c:Ch}(h:snV p v i k b)(hp:pcOk p)(hs:p.spans[i.toNat]? =some s)(hk:k≤s.tuu)(hb:b=false)(hc:p.chunks[k.toNat]? =some c)(hl:¬c.rule<v.length):snV p v i (k+1) false:=RO h hp hs hk hc (by rw[hb];exact b4J hl)
theorem b4N{p:Pc}{v:List Int}{i k:Int}{b:Bool}{s:Sn}(h:snV p v i k b)(hp:renP p v)(hs:p.spans[i.toNat]? =some s)(hk:k≤s.tuu)(hb:b=false):snV p v i (k+1) (Cf v (Cz p k)):=
 RO h hp.ok hs hk (MJ h hp.ok hs hk).1 (by rw[hb];exact b4K hp (MJ h hp.ok hs hk).2 (MJ h hp.ok hs hk).1)
attribute [local irreducible] bdI bdJ Cl snS snV Cf
def HP(x:Pc×List Int)(i:Int×Int):LS:= {ι:=Bool×Int,inv:=fun j=>snV x.1 x.2 i.1 j.2 j.1,regs:=fun j=>[(1,Ad x.2),(2,.box 0 (pcA false x.1)),(5,.int .i64 i.2),(7,.int .i64 i.1),(8,.bool j.1),(9,.int .i64 j.2)],als:=[],meas:=fun j=>((JA x.1 i.1).tuu+1-j.2).toNat}
def HQ(x:Pc×List Int):LS:= {ι:=Int×Int,inv:=fun i=>bdJ x.1 x.2 i.1 i.2,regs:=fun i=>[(1,Ad x.2),(2,.box 0 (pcA false x.1)),(5,.int .i64 i.2),(7,.int .i64 i.1)],als:=[],meas:=fun i=>x.1.spans.length-i.1.toNat,sub:=fun i=>[(11,HP x i)]}
def JB(x:Pc×List Int):LS:= {ι:=Int×Int,inv:=fun i=>bdI x.1 x.2 i.1 i.2,regs:=fun i=>[(1,Ad x.2),(2,.box 0 (pcA false x.1)),(5,.int .i64 i.2),(6,.int .i64 i.1)],als:=[],meas:=fun i=>x.2.length-i.1.toNat}
def Lf:Sig:= {X:=Pc×List Int,args:=fun x=>[.agg (pcA false x.1),Ad x.2],pre:=fun x=>bndP x.1 x.2,Y:=Unit,post:=fun x y=>True,res:=fun x y=> .int .i64 (Cl x.1 x.2),outs:=fun x y=>[.top,.top],keep:=false}
theorem b4O:Ah G Tryz.prog 151 Lf:=
 vcFun_okP [] [] false (fun x=>[(3,JB x),(7,HQ x)]) Tryz.func151 rfl (by decide) trivial (fun(x:Pc×List Int)=>(∀(y:Unit),True→True∧True∧True∧True)∧eA (JB x) [Ad x.2,.box 0 [.int .i64 x.1.ind,AV.sl false 0 2 Ru ruA x.1.rules,AV.sl false 0 5 Ch chA x.1.chunks,AV.sl false 0 3 Sn snA x.1.spans,AV.sl false 0 2 Ti tiA x.1.ties],.int .i64 (0:Int),.int .i64 (0:Int)]∧∀(i:Int×Int),bdI x.1 x.2 i.1 i.2→Ab (decide (i.1<(↑(List.length x.2):Int))) (true=true∧true=true∧((0:Int)≤i.1∧i.1<(↑(List.length x.1.rules):Int))∧∀(e:Ru),x.1.rules[Int.toNat i.1]? =some e→((0:Int)≤i.1∧i.1<(↑(List.length x.2):Int))∧∀(e_1:Int),x.2[Int.toNat i.1]? =some e_1→inR IntKind.i64 (e.cost*e_1)∧inR IntKind.i64 (i.2+e.cost*e_1)∧inR IntKind.i64 (i.1+(1:Int))∧eN (JB x) i [Ad x.2,.box 0 [.int .i64 x.1.ind,AV.sl false 0 2 Ru ruA x.1.rules,AV.sl false 0 5 Ch chA x.1.chunks,AV.sl false 0 3 Sn snA x.1.spans,AV.sl false 0 2 Ti tiA x.1.ties],.int .i64 (i.2+e.cost*e_1),.int .i64 (i.1+(1:Int))]) (eA (HQ x) [Ad x.2,.box 0 [.int .i64 x.1.ind,AV.sl false 0 2 Ru ruA x.1.rules,AV.sl false 0 5 Ch chA x.1.chunks,AV.sl false 0 3 Sn snA x.1.spans,AV.sl false 0 2 Ti tiA x.1.ties],.int .i64 i.2,.int .i64 (0:Int)]∧∀(i:Int×Int),bdJ x.1 x.2 i.1 i.2→Ab (decide (i.1<(↑(List.length x.1.spans):Int))) (((0:Int)≤i.1∧i.1<(↑(List.length x.1.spans):Int))∧∀(e:Sn),x.1.spans[Int.toNat i.1]? =some e→eA (HP x i) [Ad x.2,.box 0 [.int .i64 x.1.ind,AV.sl false 0 2 Ru ruA x.1.rules,AV.sl false 0 5 Ch chA x.1.chunks,AV.sl false 0 3 Sn snA x.1.spans,AV.sl false 0 2 Ti tiA x.1.ties],.int .i64 i.2,.int .i64 i.1,.bool false,.int .i64 e.fr]∧∀(i_1:Bool×Int),snV x.1 x.2 i.1 i_1.2 i_1.1→((0:Int)≤i.1∧i.1<(↑(List.length x.1.spans):Int))∧∀(e:Sn),x.1.spans[Int.toNat i.1]? =some e→Ab (decide (i_1.2≤e.tuu)) (((0:Int)≤i_1.2∧i_1.2<(↑(List.length x.1.chunks):Int))∧∀(e:Ch),x.1.chunks[Int.toNat i_1.2]? =some e→true=true∧true=true∧Ab i_1.1 (inR IntKind.i64 (i_1.2+(1:Int))∧eN (HP x i) i_1 [Ad x.2,.box 0 [.int .i64 x.1.ind,AV.sl false 0 2 Ru ruA x.1.rules,AV.sl false 0 5 Ch chA x.1.chunks,AV.sl false 0 3 Sn snA x.1.spans,AV.sl false 0 2 Ti tiA x.1.ties],.int .i64 i.2,.int .i64 i.1,.bool true,.int .i64 (i_1.2+(1:Int))]) (Ab (decide (e.rule<(↑(List.length x.2):Int))) (((0:Int)≤e.rule∧e.rule<(↑(List.length x.2):Int))∧∀(e_1:Int),x.2[Int.toNat e.rule]? =some e_1→inR IntKind.i64 (i_1.2+(1:Int))∧eN (HP x i) i_1 [Ad x.2,.box 0 [.int .i64 x.1.ind,AV.sl false 0 2 Ru ruA x.1.rules,AV.sl false 0 5 Ch chA x.1.chunks,AV.sl false 0 3 Sn snA x.1.spans,AV.sl false 0 2 Ti tiA x.1.ties],.int .i64 i.2,.int .i64 i.1,.bool (decide (e_1≥e.fr)),.int .i64 (i_1.2+(1:Int))]) (inR IntKind.i64 (i_1.2+(1:Int))∧eN (HP x i) i_1 [Ad x.2,.box 0 [.int .i64 x.1.ind,AV.sl false 0 2 Ru ruA x.1.rules,AV.sl false 0 5 Ch chA x.1.chunks,AV.sl false 0 3 Sn snA x.1.spans,AV.sl false 0 2 Ti tiA x.1.ties],.int .i64 i.2,.int .i64 i.1,.bool false,.int .i64 (i_1.2+(1:Int))]))) (Ab i_1.1 (((0:Int)≤i.1∧i.1<(↑(List.length x.1.spans):Int))∧∀(e:Sn),x.1.spans[Int.toNat i.1]? =some e→inR IntKind.i64 (i.2+e.cost)∧inR IntKind.i64 (i.1+(1:Int))∧eN (HQ x) i [Ad x.2,.box 0 [.int .i64 x.1.ind,AV.sl false 0 2 Ru ruA x.1.rules,AV.sl false 0 5 Ch chA x.1.chunks,AV.sl false 0 3 Sn snA x.1.spans,AV.sl false 0 2 Ti tiA x.1.ties],.int .i64 (i.2+e.cost),.int .i64 (i.1+(1:Int))]) (inR IntKind.i64 (i.1+(1:Int))∧eN (HQ x) i [Ad x.2,.box 0 [.int .i64 x.1.ind,AV.sl false 0 2 Ru ruA x.1.rules,AV.sl false 0 5 Ch chA x.1.chunks,AV.sl false 0 3 Sn snA x.1.spans,AV.sl false 0 2 Ti tiA x.1.ties],.int .i64 i.2,.int .i64 (i.1+(1:Int))]))) (rA Lf x [.int .i64 i.2,.top,.top]))) (fun x=>by kernel_rfl) fun(x:Pc×List Int) (hx:bndP x.1 x.2)=>(by
 dsimp only[Bl,eA,eN,Ad,pcA,rA,Bj,Lf,Bm,JB,HQ,HP,Bn,Aq,Aw,AZ]
 obtain⟨p,v⟩:=x;dsimp only at hx ⊢
 have hx:bndP p v:=hx
 have h1:=hx.ok.rl;have h2:=hx.vo.1;have h3:=hx.ok.snl;have h4:=hx.ok.cl
 (repeat' first|refine Ds p ?_|(with_reducible first|rfl|exact True.intro|apply AG|apply And.intro|((first|apply Au|apply AE|apply Av|apply AF)<;>intro _))|(apply As<;>intro _)|apply AD|refine Af () ?_ ?_|((first|apply AK|apply AJ|apply AI|apply AH|apply AC|apply AB|apply AA|apply Az|apply Ax)<;>try dsimp only)|apply Af|(refine Prod.forall.2 ?_;intro _;try dsimp only)|(intro _;try dsimp only))
 all_goals(try(repeat(rename p.spans[_]? =some _=>hq;revert hq;rename p.spans[_]? =some _=>hr;intro hq;rw[hr] at hq;cases hq)))
 all_goals first
  |with_reducible rfl
  |with_reducible assumption
  |omega
  |exact Ww
  |exact a4m ‹_› ‹_› ‹_› ‹_›
  |exact Wv ‹_› ‹_›
  |exact a4i hx.ok ‹_›
  |exact a4l ‹_› ‹_› ‹_›
  |exact a4o ‹_› ‹_› ‹_› ‹_› ‹_› ‹_›
  |exact a4p ‹_› ‹_› ‹_› ‹_› ‹_› ‹_›
  |exact Rn ‹_› ‹_›
  |exact(Rn ‹_› ‹_›)
  |(have hq:=Rl hx (show bdI _ _ _ _ by assumption);(try have hm:=a4n hx (show bdI _ _ _ _ by assumption) ‹_› ‹_›);(try simp only[Ai]);omega)
  |(have hq:=Rm hx (show bdJ _ _ _ _ by assumption);(try have hr:=RP (show snV _ _ _ _ _ by assumption) hx.ok ‹_›);(try have hc:=a4k (show snV _ _ _ _ _ by assumption) hx.ok ‹_› ‹_› ‹_›);(try simp only[Ai]);omega)
  |exact a4q ‹_› hx.ok ‹_› ‹_› ‹_›
  |exact b4L ‹_› hx.ok ‹_› ‹_› ‹_› ‹_› ‹_› ‹_›
  |exact b4M ‹_› hx.ok ‹_› ‹_› ‹_› ‹_› ‹_›
  |skip)
def Lg:Sig:= {X:=Pc×List Int,args:=fun x=>[.agg (pcA false x.1),Ad x.2],pre:=fun x=>coP x.1 x.2,Y:=Unit,post:=fun x y=>True,res:=fun x y=> .int .i64 (Cl x.1 x.2),outs:=fun x y=>[.top,.top],keep:=false}
theorem b4P:Ah G Tryz.prog 187 Lg:=
 vcFun_okP [(90,0,GL)] [] false (fun x=>[(3,JB x),(7,HQ x)]) Tryz.func187 rfl (by decide) ⟨WX,trivial⟩ (fun(x:Pc×List Int)=>(∀(y:Unit),True→True∧True∧True∧True)∧eA (JB x) [Ad x.2,.box 0 [.int .i64 x.1.ind,AV.sl false 0 2 Ru ruA x.1.rules,AV.sl false 0 5 Ch chA x.1.chunks,AV.sl false 0 3 Sn snA x.1.spans,AV.sl false 0 2 Ti tiA x.1.ties],.int .i64 (0:Int),.int .i64 (0:Int)]∧∀(i:Int×Int),bdI x.1 x.2 i.1 i.2→Ab (decide (i.1<(↑(List.length x.2):Int))) (true=true∧true=true∧((0:Int)≤i.1∧i.1<(↑(List.length x.1.rules):Int))∧∀(e:Ru),x.1.rules[Int.toNat i.1]? =some e→((0:Int)≤i.1∧i.1<(↑(List.length x.2):Int))∧∀(e_1:Int),x.2[Int.toNat i.1]? =some e_1→inR IntKind.i64 (e.cost*e_1)∧inR IntKind.i64 (i.2+e.cost*e_1)∧inR IntKind.i64 (i.1+(1:Int))∧eN (JB x) i [Ad x.2,.box 0 [.int .i64 x.1.ind,AV.sl false 0 2 Ru ruA x.1.rules,AV.sl false 0 5 Ch chA x.1.chunks,AV.sl false 0 3 Sn snA x.1.spans,AV.sl false 0 2 Ti tiA x.1.ties],.int .i64 (i.2+e.cost*e_1),.int .i64 (i.1+(1:Int))]) (eA (HQ x) [Ad x.2,.box 0 [.int .i64 x.1.ind,AV.sl false 0 2 Ru ruA x.1.rules,AV.sl false 0 5 Ch chA x.1.chunks,AV.sl false 0 3 Sn snA x.1.spans,AV.sl false 0 2 Ti tiA x.1.ties],.int .i64 i.2,.int .i64 (0:Int)]∧∀(i:Int×Int),bdJ x.1 x.2 i.1 i.2→Ab (decide (i.1<(↑(List.length x.1.spans):Int))) (((0:Int)≤i.1∧i.1<(↑(List.length x.1.spans):Int))∧∀(e:Sn),x.1.spans[Int.toNat i.1]? =some e→eA (HP x i) [Ad x.2,.box 0 [.int .i64 x.1.ind,AV.sl false 0 2 Ru ruA x.1.rules,AV.sl false 0 5 Ch chA x.1.chunks,AV.sl false 0 3 Sn snA x.1.spans,AV.sl false 0 2 Ti tiA x.1.ties],.int .i64 i.2,.int .i64 i.1,.bool false,.int .i64 e.fr]∧∀(i_1:Bool×Int),snV x.1 x.2 i.1 i_1.2 i_1.1→((0:Int)≤i.1∧i.1<(↑(List.length x.1.spans):Int))∧∀(e:Sn),x.1.spans[Int.toNat i.1]? =some e→Ab (decide (i_1.2≤e.tuu)) (Ab i_1.1 (inR IntKind.i64 (i_1.2+(1:Int))∧eN (HP x i) i_1 [Ad x.2,.box 0 [.int .i64 x.1.ind,AV.sl false 0 2 Ru ruA x.1.rules,AV.sl false 0 5 Ch chA x.1.chunks,AV.sl false 0 3 Sn snA x.1.spans,AV.sl false 0 2 Ti tiA x.1.ties],.int .i64 i.2,.int .i64 i.1,.bool true,.int .i64 (i_1.2+(1:Int))]) (cA GL [.agg [.int .i64 x.1.ind,AV.sl false 0 2 Ru ruA x.1.rules,AV.sl false 0 5 Ch chA x.1.chunks,AV.sl false 0 3 Sn snA x.1.spans,AV.sl false 0 2 Ti tiA x.1.ties],Ad x.2,.int .i64 i_1.2] fun x_1 y=>inR IntKind.i64 (i_1.2+(1:Int))∧eN (HP x i) i_1 [Ad x.2,.box 0 [.int .i64 x.1.ind,AV.sl false 0 2 Ru ruA x.1.rules,AV.sl false 0 5 Ch chA x.1.chunks,AV.sl false 0 3 Sn snA x.1.spans,AV.sl false 0 2 Ti tiA x.1.ties],.int .i64 i.2,.int .i64 i.1,.bool (Cf x_1.2.1 (Cz x_1.1 x_1.2.2)),.int .i64 (i_1.2+(1:Int))])) (Ab i_1.1 (((0:Int)≤i.1∧i.1<(↑(List.length x.1.spans):Int))∧∀(e:Sn),x.1.spans[Int.toNat i.1]? =some e→inR IntKind.i64 (i.2+e.cost)∧inR IntKind.i64 (i.1+(1:Int))∧eN (HQ x) i [Ad x.2,.box 0 [.int .i64 x.1.ind,AV.sl false 0 2 Ru ruA x.1.rules,AV.sl false 0 5 Ch chA x.1.chunks,AV.sl false 0 3 Sn snA x.1.spans,AV.sl false 0 2 Ti tiA x.1.ties],.int .i64 (i.2+e.cost),.int .i64 (i.1+(1:Int))]) (inR IntKind.i64 (i.1+(1:Int))∧eN (HQ x) i [Ad x.2,.box 0 [.int .i64 x.1.ind,AV.sl false 0 2 Ru ruA x.1.rules,AV.sl false 0 5 Ch chA x.1.chunks,AV.sl false 0 3 Sn snA x.1.spans,AV.sl false 0 2 Ti tiA x.1.ties],.int .i64 i.2,.int .i64 (i.1+(1:Int))]))) (rA Lg x [.int .i64 i.2,.top,.top]))) (fun x=>by kernel_rfl) fun(x:Pc×List Int) (hx:coP x.1 x.2)=>(by
 dsimp only[cA,Bl,eA,eN,Ad,pcA,rA,Bj,GL,Lg,Bm,JB,HQ,HP,Bn,Aq,Aw,mvL,lnL,mvE,lnE,mvG,mvH,lnG,lnH,AZ]
 obtain⟨p,v⟩:=x;dsimp only at hx ⊢
 have hy:coP p v:=hx
 have hx:bndP p v:=a3A hy
 have h1:=hx.ok.rl;have h2:=hx.vo.1;have h3:=hx.ok.snl;have h4:=hx.ok.cl
 (repeat' first|refine Ds p ?_|(with_reducible first|rfl|exact True.intro|apply AG|apply And.intro|((first|apply Au|apply AE|apply Av|apply AF)<;>intro _))|(apply As<;>intro _)|apply AD|refine Af () ?_ ?_|((first|apply AK|apply AJ|apply AI|apply AH|apply AC|apply AB|apply AA|apply Az|apply Ax)<;>try dsimp only)|apply Af|(refine Prod.forall.2 ?_;intro _;try dsimp only)|(intro _;try dsimp only))
 all_goals(try(repeat(rename p.spans[_]? =some _=>hq;revert hq;rename p.spans[_]? =some _=>hr;intro hq;rw[hr] at hq;cases hq)))
 all_goals first
  |with_reducible rfl
  |with_reducible assumption
  |omega
  |exact Ww
  |exact a4m ‹_› ‹_› ‹_› ‹_›
  |exact Wv ‹_› ‹_›
  |exact a4i hx.ok ‹_›
  |exact a4l ‹_› ‹_› ‹_›
  |exact a4o ‹_› ‹_› ‹_› ‹_› ‹_› ‹_›
  |exact a4p ‹_› ‹_› ‹_› ‹_› ‹_› ‹_›
  |exact Rn ‹_› ‹_›
  |(have hq:=Rl hx (show bdI _ _ _ _ by assumption);(try have hm:=a4n hx (show bdI _ _ _ _ by assumption) ‹_› ‹_›);(try simp only[Ai]);omega)
  |(have hq:=Rm hx (show bdJ _ _ _ _ by assumption);(try have hr:=RP (show snV _ _ _ _ _ by assumption) hx.ok ‹_›);(try simp only[Ai]);omega)
  |exact a4q ‹_› hx.ok ‹_› ‹_› ‹_›
  |exact b4N ‹_› hy.re ‹_› ‹_› ‹_›
  |(have hq:=MJ (show snV _ _ _ _ _ by assumption) hx.ok ‹_› ‹_›;rw[hy.re.vl];omega)
  |(have hq:=MJ (show snV _ _ _ _ _ by assumption) hx.ok ‹_› ‹_›;omega)
  |skip)
structure qcP (p:Pc) (v:List Int):Prop where
 co:coP p v
 ok:Bo p=true
theorem b4Q{w:Int}:0≤wdF w∧wdF w≤100000:=by unfold wdF;omega
def MK:Sig:= {X:=Pc×List Int×Int,args:=fun x=>[.agg (pcA false x.1),Ad x.2.1,.int .i64 x.2.2],pre:=fun x=>qcP x.1 x.2.1,Y:=Unit,post:=fun x y=>True,res:=fun x y=> .agg [.int .i64 (Bi x.1 x.2.1 x.2.2).over,.int .i64 (Bi x.1 x.2.1 x.2.2).sum],outs:=fun x y=>[.top,.top,.top],keep:=false}
def RQ(x:Pc×List Int×Int):LS:= {ι:=Unit,inv:=fun _=>True,regs:=fun _=>[(6,.box 0 [.int .i64 (Bi x.1 x.2.1 x.2.2).over,.int .i64 (Bi x.1 x.2.1 x.2.2).sum])],als:=[],meas:=fun _=>0}
def ML(x:Pc×List Int×Int)(x_1:Hh.X):Prop:=cA Ld [.agg [.int .i64 x.1.ind,AV.sl false 0 2 Ru ruA x.1.rules,AV.sl false 0 5 Ch chA x.1.chunks,AV.sl false 0 3 Sn snA x.1.spans,AV.sl false 0 2 Ti tiA x.1.ties],Ad x.2.1,.int .i64 (wdF x_1.1)] fun x_2 y=>cA Lg [.agg [.int .i64 x.1.ind,AV.sl false 0 2 Ru ruA x.1.rules,AV.sl false 0 5 Ch chA x.1.chunks,AV.sl false 0 3 Sn snA x.1.spans,AV.sl false 0 2 Ti tiA x.1.ties],Ad x.2.1] fun x_3 y=>true=true∧(eA (RQ x) [.box 0 [.int .i64 (ovL x_2.2.2 (BF x_2.1 x_2.2.1)),.int .i64 (Cl x_3.1 x_3.2)]])
def RR(x:Pc×List Int×Int):Prop:=cA Hh [.int .i64 x.2.2] fun x_1 y=>cA Ld [.agg [.int .i64 x.1.ind,AV.sl false 0 2 Ru ruA x.1.rules,AV.sl false 0 5 Ch chA x.1.chunks,AV.sl false 0 3 Sn snA x.1.spans,AV.sl false 0 2 Ti tiA x.1.ties],Ad x.2.1,.int .i64 (wdF x_1.1)] fun x_2 y=>cA Lg [.agg [.int .i64 x.1.ind,AV.sl false 0 2 Ru ruA x.1.rules,AV.sl false 0 5 Ch chA x.1.chunks,AV.sl false 0 3 Sn snA x.1.spans,AV.sl false 0 2 Ti tiA x.1.ties],Ad x.2.1] fun x_3 y=>true=true∧(eA (RQ x) [.box 0 [.int .i64 (ovL x_2.2.2 (BF x_2.1 x_2.2.1)),.int .i64 (Cl x_3.1 x_3.2)]])
theorem b4R:Ah G Tryz.prog 147 MK:=
 vcFun_okP [(186,0,Hh),(185,0,Ld),(187,0,Lg)] [] false (fun x=>[(100001,RQ x)]) Tryz.func147 rfl (by decide) ⟨b4u,b4H,b4P,trivial⟩ (fun(x:Pc×List Int×Int)=>(∀(y:Unit),True→(True∧True∧True)∧True∧True∧True∧True)∧true=true∧(((cA Hh [.int .i64 x.2.2] fun x_1 y=>(ML x x_1)∧(ML x x_1))∧(RR x))∧(cA Hh [.int .i64 x.2.2] fun x_1 y=>((ML x x_1)∧(ML x x_1))∧(ML x x_1))∧(RR x)∧(RR x))∧∀(i:Unit),True→∃(y:Unit),True∧(Bi x.1 x.2.1 x.2.2).over=(Bi x.1 x.2.1 x.2.2).over∧(Bi x.1 x.2.1 x.2.2).sum=(Bi x.1 x.2.1 x.2.2).sum∧True) (fun x=>by kernel_rfl) fun(x:Pc×List Int×Int) (hx:qcP x.1 x.2.1)=>(by
 dsimp only[RR,ML,cA,Bl,eA,RQ,Ad,pcA,Bj,Ld,Lg,Hh,Bm,Bn,Aq,Aw,mvL,lnL,mvE,lnE,mvG,mvH,lnG,lnH,AZ]
 obtain⟨p,v,w⟩:=x;dsimp only at hx ⊢
 have hx:qcP p v:=hx
 (repeat' first|refine Ds p ?_|(with_reducible first|rfl|exact True.intro|apply AG|apply And.intro|((first|apply Au|apply AE|apply Av|apply AF)<;>intro _))|(apply As<;>intro _)|apply AD|refine Af () ?_ ?_|((first|apply AK|apply AJ|apply AI|apply AH|apply AC|apply AB|apply AA|apply Az|apply Ax)<;>try dsimp only)|apply Af|(refine Prod.forall.2 ?_;intro _;try dsimp only)|(intro _;try dsimp only))
 all_goals first
  |with_reducible rfl
  |exact⟨hx.co.re,hx.ok,b4Q⟩
  |exact hx.co
  |rfl
  |exact()
  |skip)
end Go.My
end
section
namespace Go.My
open Go.Eng Go.Proofs
variable {G:GInv}
def JC:Sig:= {X:=Int×Int×Int×Int,args:=fun x=>[.agg [.int .i64 x.1,.int .i64 x.2.1],.agg [.int .i64 x.2.2.1,.int .i64 x.2.2.2]],pre:=fun x=>True,Y:=Unit,post:=fun x y=>True,res:=fun x y=> .bool (GI ⟨x.1,x.2.1⟩ ⟨x.2.2.1,x.2.2.2⟩),outs:=fun x y=>[.top,.top],keep:=false}
theorem b4S:Ah G Tryz.prog 149 JC:=
 vcFun_okP [] [] false (fun x=>[]) Tryz.func149 rfl (by decide) trivial (fun(x:Int×Int×Int×Int)=>(∀(y:Unit),True→True∧True∧True∧True)∧Ab (decide (x.1<x.2.2.1)) (rA JC x [.bool true,.top,.top]) (Ab (x.1==x.2.2.1) (rA JC x [.bool (decide (x.2.1<x.2.2.2)),.top,.top]) (rA JC x [.bool false,.top,.top]))) (fun x=>by kernel_rfl) fun(x:Int×Int×Int×Int) (hx:True)=>(by
 dsimp only[rA,JC,Aq,Aw]
 obtain⟨a,b,c,d⟩:=x;dsimp only at hx ⊢
 (repeat' first|(with_reducible first|rfl|exact True.intro|apply AG|apply And.intro|((first|apply Au|apply AE|apply Av|apply AF)<;>intro _))|(apply As<;>intro _)|apply AD|refine Af () ?_ ?_|((first|apply AK|apply AJ|apply AI|apply AH|apply AC|apply AB|apply AA|apply Az|apply Ax)<;>try dsimp only)|apply Af|(refine Prod.forall.2 ?_;intro _;try dsimp only)|(intro _;try dsimp only))
 all_goals(simp [GI, *]<;>omega))
theorem b4T{a b:List Int}{i x y:Int}(h:cmI a b i)(hx:a[i.toNat]? =some x)(hy:b[i.toNat]? =some y)(hl:x<y): -1=Cy a b:=by rw[Rp h hx hy,if_pos hl]
theorem b4U{a b:List Int}{i x y:Int}(h:cmI a b i)(hx:a[i.toNat]? =some x)(hy:b[i.toNat]? =some y)(hl:¬x<y)(hg:x>y):1=Cy a b:=by rw[Rp h hx hy,if_neg hl,if_pos hg]
theorem b4V{a b:List Int}{i x y:Int}(h:cmI a b i)(hi:i<a.length)(hib:i<b.length)(hx:a[i.toNat]? =some x)(hy:b[i.toNat]? =some y)(hl:¬x<y)(hg:¬x>y):cmI a b (i+1):=
 a3i h hi (by omega) hx hy (by unfold FF;rw[if_neg hl,if_neg (by omega)])
theorem a4r{a b:List Int}{i:Int}(h:cmI a b i)(hi:¬i<a.length∨¬i<b.length):Cy a b=if(a.length:Int)<b.length then-1 else if(a.length:Int)>b.length then 1 else 0:=by
 by_cases e:i<a.length
 ·rw[←a3h h e (by omega),if_neg (by have:=h.1;omega),if_pos (by have:=h.1;omega)]
 ·rw[Wx h e]
  split
  ·rfl
  ·rw[if_neg (by have:=h.1;omega)]
attribute [local irreducible] cmI FF Cy
def EW:Sig:= {X:=List Int×List Int,args:=fun x=>[Ad x.1,Ad x.2],pre:=fun x=>x.1.length<2^62∧x.2.length<2^62,Y:=Unit,post:=fun x y=>True,res:=fun x y=> .int .i64 (Cy x.1 x.2),outs:=fun x y=>[.top,.top],keep:=false}
def RS(x:List Int×List Int):LS:= {ι:=Int,inv:=fun i=>cmI x.1 x.2 i,regs:=fun i=>[(0,Ad x.1),(1,Ad x.2),(5,.int .i64 i)],als:=[],meas:=fun i=>x.1.length-i.toNat}
theorem a4s:Ah G Tryz.prog 150 EW:=
 vcFun_okP [] [] false (fun x=>[(2,RS x)]) Tryz.func150 rfl (by decide) trivial (fun(x:List Int×List Int)=>(∀(y:Unit),True→True∧True∧True∧True)∧eA (RS x) [Ad x.1,Ad x.2,.int .i64 (0:Int)]∧∀(i:Int),cmI x.1 x.2 i→Ab (decide (i<(↑(List.length x.1):Int))) (Ab (decide (i<(↑(List.length x.2):Int))) (true=true∧true=true∧((0:Int)≤i∧i<(↑(List.length x.1):Int))∧∀(e:Int),x.1[Int.toNat i]? =some e→((0:Int)≤i∧i<(↑(List.length x.2):Int))∧∀(e_1:Int),x.2[Int.toNat i]? =some e_1→Ab (decide (e<e_1)) (rA EW x [.int .i64 (-1:Int),.top,.top]) (true=true∧true=true∧((0:Int)≤i∧i<(↑(List.length x.1):Int))∧∀(e:Int),x.1[Int.toNat i]? =some e→((0:Int)≤i∧i<(↑(List.length x.2):Int))∧∀(e_2:Int),x.2[Int.toNat i]? =some e_2→Ab (decide (e>e_2)) (rA EW x [.int .i64 (1:Int),.top,.top]) (inR IntKind.i64 (i+(1:Int))∧eN (RS x) i [Ad x.1,Ad x.2,.int .i64 (i+(1:Int))]))) (Ab (decide ((↑(List.length x.1):Int)<(↑(List.length x.2):Int))) (rA EW x [.int .i64 (-1:Int),.top,.top]) (Ab (decide ((↑(List.length x.1):Int)>(↑(List.length x.2):Int))) (rA EW x [.int .i64 (1:Int),.top,.top]) (rA EW x [.int .i64 (0:Int),.top,.top])))) (Ab (decide ((↑(List.length x.1):Int)<(↑(List.length x.2):Int))) (rA EW x [.int .i64 (-1:Int),.top,.top]) (Ab (decide ((↑(List.length x.1):Int)>(↑(List.length x.2):Int))) (rA EW x [.int .i64 (1:Int),.top,.top]) (rA EW x [.int .i64 (0:Int),.top,.top])))) (fun x=>by kernel_rfl) fun(x:List Int×List Int) (hx:x.1.length<2^62∧x.2.length<2^62)=>(by
 dsimp only[eA,eN,RS,Ad,rA,EW,Aq,Aw,AZ]
 obtain⟨a,b⟩:=x;dsimp only at hx ⊢
 obtain⟨h1,h2⟩:=hx
 have hrg:∀i,cmI a b i→0≤i∧i≤a.length∧i≤b.length:=fun i h=>by unfold cmI at h;exact h.1
 (repeat' first|(with_reducible first|rfl|exact True.intro|apply AG|apply And.intro|((first|apply Au|apply AE|apply Av|apply AF)<;>intro _))|(apply As<;>intro _)|apply AD|refine Af () ?_ ?_|((first|apply AK|apply AJ|apply AI|apply AH|apply AC|apply AB|apply AA|apply Az|apply Ax)<;>try dsimp only)|apply Af|(refine Prod.forall.2 ?_;intro _;try dsimp only)|(intro _;try dsimp only))
 all_goals(try(repeat(rename a[_]? =some _=>hq;revert hq;rename a[_]? =some _=>hr;intro hq;rw[hr] at hq;cases hq)))
 all_goals(try(repeat(rename b[_]? =some _=>hq;revert hq;rename b[_]? =some _=>hr;intro hq;rw[hr] at hq;cases hq)))
 all_goals first
  |with_reducible rfl
  |exact a3g
  |exact b4T ‹_› ‹_› ‹_› ‹_›
  |exact b4U ‹_› ‹_› ‹_› ‹_› ‹_›
  |exact b4V ‹_› ‹_› ‹_› ‹_› ‹_› ‹_› ‹_›
  |(have hq:=hrg _ ‹_›;(try simp only[Ai]);omega)
  |(rw[a4r ‹_› (.inl ‹_›)];split<;>(try split)<;>omega)
  |(rw[a4r ‹_› (.inr ‹_›)];split<;>(try split)<;>omega)
  |skip)
def Lh:Sig:= {X:=List Int×Int×List Int×Int,args:=fun x=>[.agg [Ad x.1,.int .i64 x.2.1],.agg [Ad x.2.2.1,.int .i64 x.2.2.2]],pre:=fun x=>x.1.length<2^62∧x.2.2.1.length<2^62,Y:=Unit,post:=fun x y=>True,res:=fun x y=> .bool (Bt ⟨x.1,x.2.1⟩ ⟨x.2.2.1,x.2.2.2⟩),outs:=fun x y=>[.top,.top],keep:=false}
theorem a4t:Ah G Tryz.prog 188 Lh:=
 vcFun_okP [(150,0,EW)] [] false (fun x=>[]) Tryz.func188 rfl (by decide) ⟨a4s,trivial⟩ (fun(x:List Int×Int×List Int×Int)=>(∀(y:Unit),True→True∧True∧True∧True)∧Ab (decide (x.2.1<x.2.2.2)) (rA Lh x [.bool true,.top,.top]) (Ab (x.2.1==x.2.2.2) (cA EW [Ad x.1,Ad x.2.2.1] fun x_1 y=>rA Lh x [.bool (decide (Cy x_1.1 x_1.2<(0:Int))),.top,.top]) (rA Lh x [.bool false,.top,.top]))) (fun x=>by kernel_rfl) fun(x:List Int×Int×List Int×Int) (hx:x.1.length<2^62∧x.2.2.1.length<2^62)=>(by
 dsimp only[cA,Ad,rA,EW,Lh,Aq,Aw,mvL,lnL,mvE,lnE,mvG,mvH,lnG,lnH]
 obtain⟨a,b,c,d⟩:=x;dsimp only at hx ⊢
 obtain⟨h1,h2⟩:=hx
 (repeat' first|(with_reducible first|rfl|exact True.intro|apply AG|apply And.intro|((first|apply Au|apply AE|apply Av|apply AF)<;>intro _))|(apply As<;>intro _)|apply AD|refine Af () ?_ ?_|((first|apply AK|apply AJ|apply AI|apply AH|apply AC|apply AB|apply AA|apply Az|apply Ax)<;>try dsimp only)|apply Af|(refine Prod.forall.2 ?_;intro _;try dsimp only)|(intro _;try dsimp only))
 all_goals first
  |rfl
  |assumption
  |(simp [Bt, *];done)
  |(simp [Bt, *];omega)
  |skip)
def RT(x:List StW×List Int×Int):LS:= {ι:=List StW×Int×Nat,inv:=fun i=>upI x.1 ⟨x.2.1,x.2.2⟩ i.1 i.2.1 i.2.2,regs:=fun i=>[(0,CA i.1),(5,.int .i64 i.2.1)],als:=[],meas:=fun i=>i.2.1.toNat}
theorem b4W{l0:List StW}{x:StW}{l:List StW}{i:Int}{n:Nat}(h:upI l0 x l i n)(hi:¬i>0):l=DD l0 x:=Wy h (.inl hi)
attribute [local irreducible] upI dwI Bt DD BJ dnK
def Li:Sig:= {X:=List StW×List Int×Int,args:=fun x=>[CA x.1,.agg [Ad x.2.1,.int .i64 x.2.2]],pre:=fun x=>x.1.length<2^40∧(∀s∈x.1,s.vals.length<2^62)∧x.2.1.length<2^62,Y:=Unit,post:=fun x y=>True,res:=fun x y=>CA (DD x.1 ⟨x.2.1,x.2.2⟩),outs:=fun x y=>[.top,.top],keep:=true}
theorem b4X:Ah G Tryz.prog 153 Li:=
 vcFun_okP [(188,0,Lh)] [(174,⟨StW,stA⟩)] false (fun x=>[(3,RT x)]) Tryz.func153 rfl (by decide) ⟨a4t,trivial⟩ (fun(x:List StW×List Int×Int)=>True∧∃(x_1:StW),Ad x.2.1=Ad x_1.vals∧x.2.2=x_1.sum∧∃(zs:List StW),AV.sl true 0 2 StW stA [x_1]=AV.sl true 0 2 StW stA zs∧BH stA∧Bb (List.length x.1+List.length zs) (32:Nat)∧inR IntKind.i64 ((↑(List.length (x.1++zs)):Int)-(1:Int))∧eA (RT x) [AV.sl true 0 2 StW stA (x.1++zs),.int .i64 ((↑(List.length (x.1++zs)):Int)-(1:Int))]∧∀(i:List StW×Int×Nat),upI x.1 {vals:=x.2.1,sum:=x.2.2} i.1 i.2.1 i.2.2→true=true∧true=true∧Ab (decide (i.2.1>(0:Int))) (((0:Int)≤i.2.1∧i.2.1<(↑(List.length i.1):Int))∧Int.toNat i.2.1<List.length i.1∧∀(x_2:StW),i.1[Int.toNat i.2.1]? =some x_2→inR IntKind.i64 (i.2.1+(1:Int))∧(2:Int)≠(0:Int)∧inR IntKind.i64 (Int.tdiv (i.2.1+(1:Int)) (2:Int))∧inR IntKind.i64 (Int.tdiv (i.2.1+(1:Int)) (2:Int)-(1:Int))∧((0:Int)≤Int.tdiv (i.2.1+(1:Int)) (2:Int)-(1:Int)∧Int.tdiv (i.2.1+(1:Int)) (2:Int)-(1:Int)<(↑(List.length i.1):Int))∧Int.toNat (Int.tdiv (i.2.1+(1:Int)) (2:Int)-(1:Int))<List.length i.1∧∀(x_3:StW),i.1[Int.toNat (Int.tdiv (i.2.1+(1:Int)) (2:Int)-(1:Int))]? =some x_3→∃(x_4:List Int×Int×List Int×Int),(List.length x_4.1<(4611686018427387904:Nat)∧List.length x_4.2.2.1<(4611686018427387904:Nat))∧Ad x_2.vals=Ad x_4.1∧x_2.sum=x_4.2.1∧Ad x_3.vals=Ad x_4.2.2.1∧x_3.sum=x_4.2.2.2∧∃(y0:Unit),(∀(y:Unit),True→AV.bool (Bt {vals:=x_4.1,sum:=x_4.2.1} {vals:=x_4.2.2.1,sum:=x_4.2.2.2})=AV.bool (Bt {vals:=x_4.1,sum:=x_4.2.1} {vals:=x_4.2.2.1,sum:=x_4.2.2.2}))∧true=true∧Ab (Bt {vals:=x_4.1,sum:=x_4.2.1} {vals:=x_4.2.2.1,sum:=x_4.2.2.2}) (inR IntKind.i64 (i.2.1+(1:Int))∧(2:Int)≠(0:Int)∧inR IntKind.i64 (Int.tdiv (i.2.1+(1:Int)) (2:Int))∧inR IntKind.i64 (Int.tdiv (i.2.1+(1:Int)) (2:Int)-(1:Int))∧((0:Int)≤i.2.1∧i.2.1<(↑(List.length i.1):Int))∧Int.toNat i.2.1<List.length i.1∧∀(x_5:StW),i.1[Int.toNat i.2.1]? =some x_5→((0:Int)≤Int.tdiv (i.2.1+(1:Int)) (2:Int)-(1:Int)∧Int.tdiv (i.2.1+(1:Int)) (2:Int)-(1:Int)<(↑(List.length i.1):Int))∧Int.toNat (Int.tdiv (i.2.1+(1:Int)) (2:Int)-(1:Int))<List.length i.1∧∀(x_6:StW),i.1[Int.toNat (Int.tdiv (i.2.1+(1:Int)) (2:Int)-(1:Int))]? =some x_6→((0:Int)≤i.2.1∧i.2.1<(↑(List.length i.1):Int))∧Int.toNat i.2.1<List.length i.1∧∀(x_7:StW),i.1[Int.toNat i.2.1]? =some x_7→∃(x':StW),((@List.nil AV)=[]∧(@List.nil AV)=[])∧Ad x_6.vals=Ad x'.vals∧x_6.sum=x'.sum∧((0:Int)≤Int.tdiv (i.2.1+(1:Int)) (2:Int)-(1:Int)∧Int.tdiv (i.2.1+(1:Int)) (2:Int)-(1:Int)<(↑(List.length (List.set i.1 (Int.toNat i.2.1) x')):Int))∧Int.toNat (Int.tdiv (i.2.1+(1:Int)) (2:Int)-(1:Int))<List.length (List.set i.1 (Int.toNat i.2.1) x')∧∀(x_8:StW),(List.set i.1 (Int.toNat i.2.1) x')[Int.toNat (Int.tdiv (i.2.1+(1:Int)) (2:Int)-(1:Int))]? =some x_8→∃(x'_1:StW),((@List.nil AV)=[]∧(@List.nil AV)=[])∧Ad x_5.vals=Ad x'_1.vals∧x_5.sum=x'_1.sum∧eN (RT x) i [AV.sl true 0 2 StW stA (List.set (List.set i.1 (Int.toNat i.2.1) x') (Int.toNat (Int.tdiv (i.2.1+(1:Int)) (2:Int)-(1:Int))) x'_1),.int .i64 (Int.tdiv (i.2.1+(1:Int)) (2:Int)-(1:Int))]) (rA Li x [AV.sl true 0 2 StW stA i.1,.top,.top])) (rA Li x [AV.sl true 0 2 StW stA i.1,.top,.top])) (fun x=>by kernel_rfl) fun(x:List StW×List Int×Int) (hx:x.1.length<2^40∧(∀s∈x.1,s.vals.length<2^62)∧x.2.1.length<2^62)=>(by
 dsimp only[eA,eN,Ad,RT,CA,rA,Li,HI,Aq,Aw,AZ]
 obtain⟨l0,v,n⟩:=x;dsimp only at hx ⊢
 obtain⟨h1,h2,h3⟩:=hx
 (repeat' first|(apply Rr<;>try dsimp only)|(with_reducible first|rfl|exact True.intro|apply AG|apply And.intro|((first|apply Au|apply AE|apply Av|apply AF)<;>intro _))|(apply As<;>intro _)|apply AD|refine Af () ?_ ?_|((first|apply AK|apply AJ|apply AI|apply AH|apply AC|apply AB|apply AA|apply Az|apply Ax)<;>try dsimp only)|apply Af|(refine Prod.forall.2 ?_;intro _;try dsimp only)|(intro _;try dsimp only))
 all_goals(try(repeat(rename(_:List StW)[_]? =some _=>hq;revert hq;rename(_:List StW)[_]? =some _=>hr;intro hq;rw[hr] at hq;cases hq)))
 all_goals first
  |rfl
  |assumption
  |omega
  |(unfold Bb;simp only[List.length_append,List.length_singleton];omega)
  |exact a3n
  |(simp only[List.length_append,List.length_singleton];omega)
  |(have hb:=OB (show upI _ _ _ _ _ by assumption);have ha:=Rd ‹_›;unfold abv at ha;(try rw[List.length_set]);omega)
  |(have hb:=OB (show upI _ _ _ _ _ by assumption);omega)
  |exact a3l ‹_› h2 h3 ‹_›
  |exact a3m ‹_› ‹_› (show Bt _ _=true by assumption) ‹_› ‹_› ‹_› ‹_›
  |exact Wz ‹_› ‹_› ‹_› ‹_›
  |exact b4W ‹_› ‹_›
  |exact()
  |skip)
end Go.My
end
