/- A part of the proof: the engine and the contracts, joined. -/
import Derived.Test.YtjmoahjpdapjkaaGreatDoorQK
import Derived.Test.YtjmoahjpdapjkaaGreatDoorProg
section
set_option linter.unusedVariables false
set_option linter.unusedSimpArgs false
namespace Go.My
open Go.Eng
def sgT(e:Sg):Sg:=sg0 e.kind e.text
def lbN(sg:List Sg):Int→Nat→List Sg
 |_,0=>[]
 |i,n+1=>(if Dk sg i then [] else [sgT (sgO sg i)])++lbN sg (i+1) n
def lb(sg:List Sg)(i j:Int):List Sg:=lbN sg i (j-i).toNat
theorem a2X{sg:List Sg}:∀ {m n:Nat} {i:Int},lbN sg i (m+n)=lbN sg i m++lbN sg (i+m) n
 |0,n,i=>by simp [lbN]
 |m+1,n,i=>by
  rw[show m+1+n=(m+n)+1 by omega,lbN,lbN,a2X,List.append_assoc]
  congr 3;omega
theorem BD{sg:List Sg}{i j k:Int}(h1:i≤j)(h2:j≤k):lb sg i k=lb sg i j++lb sg j k:=by
 unfold lb
 rw[show(k-i).toNat=(j-i).toNat+(k-j).toNat by omega,a2X]
 congr 2;omega
theorem a2Y{sg:List Sg}{i:Int}:lb sg i i=[]:=by simp [lb,lbN]
theorem a2Z{sg:List Sg}{i:Int}:lb sg i (i+1)=if Dk sg i then [] else [sgT (sgO sg i)]:=by
 unfold lb
 rw[show(i+1-i).toNat=0+1 by omega,lbN,lbN];simp
theorem MX{sg:List Sg}{i:Int}(h:(sgO sg i).kind=4→(sgO sg i).text≠[44]):Dk sg i=false:=by
 cases hs:Dk sg i with
 |false=>rfl
 |true=>
  simp only[Dk,Ew,Bool.and_eq_true,decide_eq_true_eq,beq_iff_eq] at hs
  exact(h hs.2.1.1 hs.2.1.2).elim
theorem VS{sg:List Sg}{i:Int}(h:(sgO sg i).kind=4→(sgO sg i).text≠[44]):lb sg i (i+1)=[sgT (sgO sg i)]:=by rw[a2Z,MX h];rfl
theorem IB{sg:List Sg}{s:Ps}{k:Int}{t:List UInt8}:isT sg s k t=true↔(sgO sg s.pos).kind=k∧(sgO sg s.pos).text=t:=by simp [isT]
theorem DY{sg:List Sg}{s:Ps}{t:List UInt8}(h:isM sg s t=true)(ht:t≠[44]):lb sg s.pos (s.pos+1)=[mkS t]:=by
 obtain⟨h1,h2⟩:=IB.1 h
 rw[VS (fun _=>by rw[h2];exact ht),sgT,h1,h2];rfl
theorem Jq{sg:List Sg}{s:Ps}{t:List UInt8}(h:isW sg s t=true):lb sg s.pos (s.pos+1)=[wdS t]:=by
 obtain⟨h1,h2⟩:=IB.1 h
 rw[VS (fun h4=>by rw[h1] at h4;cases h4),sgT,h1,h2];rfl
theorem OG{sg:List Sg}{i k:Int}(h:(sgO sg i).kind=k)(hk:k≠4):lb sg i (i+1)=[sg0 k (sgO sg i).text]:=by
 rw[VS (fun h4=>by rw[h] at h4;exact(hk h4).elim),sgT,h]
theorem MY{sg:List Sg}{i:Int}(h:Dh sg i=true):(sgO sg i).kind=1:=by
 simp only[Dh,Bool.and_eq_true,decide_eq_true_eq] at h;exact h.1
def FL(L:List Nd)(k:Int):List Sg:=AY L (L.length+1) k
theorem VT{f g:Int→List Sg}:∀ {l:List Int},(∀c∈l,f c=g c)→l.flatMap f=l.flatMap g
 |[],_=>rfl
 |c::l,h=>by rw[List.flatMap_cons,List.flatMap_cons,h c (by simp),VT fun d hd=>h d (by simp [hd])]
theorem VU{f g:Int→List Sg}{m:List UInt8}:∀ {l:List Int},(∀c∈l,f c=g c)→Bh f m l=Bh g m l
 |[],_=>rfl
 |c::l,h=>by
  rw[Bh,Bh,h c (by simp)]
  congr 1
  exact VT (f:=fun d=>mkS m::f d) (g:=fun d=>mkS m::g d) fun d hd=>by show mkS m::f d=mkS m::g d;rw[h d (by simp [hd])]
theorem a3a{f g:Int→List Sg}{x:Nd}(hl:(CW x.kind).1≤x.kids.length)(h:∀c∈x.kids,f c=g c):CJ f x=CJ g x:=by
 have h0:∀i:Nat,i<x.kids.length→f (kd x i)=g (kd x i):=fun i hi=>by
  refine h _ ?_
  have e:x.kids[i]? =some x.kids[i]:=List.getElem?_eq_getElem hi
  rw[MA e];exact List.getElem_mem hi
 have hs:∀m,Bh f m x.kids=Bh g m x.kids:=fun m=>VU h
 have hd:∀m,Bh f m (x.kids.drop 1)=Bh g m (x.kids.drop 1):=fun m=>VU fun c hc=>h c (List.mem_of_mem_drop hc)
 have ht:∀m n,Bh f m (x.kids.take n)=Bh g m (x.kids.take n):=fun m n=>VU fun c hc=>h c (List.mem_of_mem_take hc)
 have hf:x.kids.flatMap f=x.kids.flatMap g:=VT h
 have hk:x.kind=5∨x.kind=9∨x.kind=20∨x.kind=6∨x.kind=11∨x.kind=13∨x.kind=14→1≤x.kids.length:=by
  intro hk
  have:(CW x.kind).1=1:=by rcases hk with e|e|e|e|e|e|e<;>rw[e]<;>rfl
  omega
 have h8:x.kind=8→3≤x.kids.length:=by intro e;have:(CW x.kind).1=3:=(by rw[e];rfl);omega
 have h16:x.kind=16∨x.kind=17→2≤x.kids.length:=by
  intro hk
  have:(CW x.kind).1=2:=by rcases hk with e|e<;>rw[e]<;>rfl
  omega
 unfold CJ
 refine ite_congr rfl (fun _=>rfl) fun _=> ?_
 refine ite_congr rfl (fun _=>rfl) fun _=> ?_
 refine ite_congr rfl (fun _=>rfl) fun _=> ?_
 refine ite_congr rfl (fun _=>by rw[hs]) fun _=> ?_
 refine ite_congr rfl (fun e=>by rw[h0 0 (by have:=hk (by omega);omega),hd]) fun _=> ?_
 refine ite_congr rfl (fun e=>by rw[h0 0 (by have:=hk (by omega);omega)]) fun _=> ?_
 refine ite_congr rfl (fun _=>by rw[hs]) fun _=> ?_
 refine ite_congr rfl (fun e=>by have:=h8 e;rw[h0 0 (by omega),h0 1 (by omega),h0 2 (by omega)]) fun _=> ?_
 refine ite_congr rfl (fun e=>by have:=hk (by omega);rw[ht,h0 _ (by omega)]) fun _=> ?_
 refine ite_congr rfl (fun _=>by rw[hs]) fun _=> ?_
 refine ite_congr rfl (fun e=>by rw[h0 0 (by have:=hk (by omega);omega)]) fun _=> ?_
 refine ite_congr rfl (fun _=>by rw[hf]) fun _=> ?_
 refine ite_congr rfl (fun _=>by rw[hf]) fun _=> ?_
 refine ite_congr rfl (fun _=>by rw[hf]) fun _=> ?_
 refine ite_congr rfl (fun _=>by rw[hf]) fun _=> ?_
 refine ite_congr rfl (fun e=> ?_) fun _=> ?_
 ·have:=h16 (by omega)
  rw[h0 0 (by omega),h0 1 (by omega)]
  congr 1
  exact ite_congr rfl (fun e3=>by rw[h0 2 (by omega)]) fun _=>rfl
 refine ite_congr rfl (fun e=>by have:=h16 (by omega);rw[h0 0 (by omega),h0 1 (by omega)]) fun _=> ?_
 refine ite_congr rfl (fun _=>by rw[hf]) fun _=> ?_
 refine ite_congr rfl (fun _=>rfl) fun _=> ?_
 refine ite_congr rfl (fun e=>by have:=hk (by omega);rw[ht,h0 _ (by omega)]) fun _=> ?_
 exact ite_congr rfl (fun _=>by rw[hf]) fun _=>by rw[hf]
theorem VV{L:List Nd}:∀ {n m:Nat} {k:Int},Ip L k→k<n→k<m→AY L n k=AY L m k
 |0,_,k,h,h1,_=>by have:=Df.1 h.1;omega
 |_,0,k,h,_,h2=>by have:=Df.1 h.1;omega
 |n+1,m+1,k,h,h1,h2=>by
  rw[AY,AY]
  have hs:=NW h
  have hm:∀c∈(An L k).kids,AY L n c=AY L m c:=fun c hc=>by
   have:=NV h hc
   exact VV this.1 (by omega) (by omega)
  exact a3a hs.2.1 hm
def Dz(L:List Nd):Prop:=∀i:Nat,i<L.length→Cl L i=true
theorem b3X{L:List Nd}(h:Dz L){k:Int}(h0:0≤k)(hk:k<L.length):Ip L k:=⟨Df.2 ⟨h0,hk⟩,fun i hi=>h i (by omega)⟩
theorem b3Y{L:List Nd}(h:Dz L){k:Int}(h0:0≤k)(hk:k<L.length):FL L k=CJ (FL L) (An L k):=by
 have hu:=b3X h h0 hk
 rw[FL,AY]
 refine a3a (NW hu).2.1 fun c hc=> ?_
 have:=NV hu hc
 exact VV this.1 (by omega) (by omega)
theorem a3b{L a:List Nd}{x:Nd}(h:a++[x] <+: L):An L (a.length:Int)=x∧(a.length:Int)<L.length:=by
 obtain⟨t,rfl⟩:=h
 refine⟨?_,by simp;omega⟩
 simp [An,List.getD,List.getElem?_append_left,List.getElem?_append_right]
theorem DL{L a:List Nd}{x:Nd}(hL:Dz L)(h:a++[x] <+: L):FL L (a.length:Int)=CJ (FL L) x:=by
 have:=a3b h
 rw[b3Y hL (by omega) this.2,this.1]
theorem Gl{x:Nd}{s s':Ps}{k:Int}(h:Ba x s=some (k,s')):k=s.nodes.length∧s'=⟨s.pos,s.deep,s.nodes++[x]⟩:=by
 unfold Ba at h
 split at h
 ·cases h
 ·simp only[Option.some.injEq,Prod.mk.injEq] at h;exact⟨h.1.symm,h.2.symm⟩
def tel(L:List Nd)(sg:List Sg)(s:Ps)(k:Int)(s':Ps):Prop:=s.nodes <+: s'.nodes∧s.pos≤s'.pos∧(s'.nodes <+: L→FL L k=lb sg s.pos s'.pos)
def Hl(L:List Nd)(sg:List Sg)(f:Ps→PR):Prop:=∀s k s',0≤s.pos→f s=some (k,s')→tel L sg s k s'
def LE(sg:List Sg)(s:Ps):Prop:=isM sg s [41]=false∧isM sg s [93]=false
def LF(sg:List Sg)(f:Ps→PR):Prop:=∀s r,f s=some r→LE sg s
theorem RH{sg:List Sg}{s:Ps}(h:(sgO sg s.pos).kind≠4):LE sg s:=by simp [LE,isM,isT,h]
theorem VW{sg:List Sg}{s:Ps}{t:List UInt8}(h:isM sg s t=true)(h1:t≠[41])(h2:t≠[93]):LE sg s:=by
 obtain⟨e1,e2⟩:=IB.1 h
 simp [LE,isM,isT,e1,e2,h1,h2]
theorem VX{L:List Nd}(hL:Dz L){sg:List Sg}{k:Int}{b:Bool}{s s':Ps}{c:Int}(h:DU sg k b s=some (c,s'))(hk:(sgO sg s.pos).kind=k)(hv:k=1∨k=2∨k=3):tel L sg s c s':=by
 unfold DU En at h
 rw[Option.map_eq_some_iff] at h
 obtain⟨⟨c',s1⟩,h1,h2⟩:=h
 obtain⟨rfl,rfl⟩:=Gl h1
 simp only[Prod.mk.injEq] at h2
 obtain⟨rfl,rfl⟩:=h2
 refine⟨⟨_,rfl⟩,by simp only[adv];omega,fun hp=> ?_⟩
 rw[DL hL hp]
 simp only[adv]
 rw[OG hk (by omega)]
 rcases hv with rfl|rfl|rfl<;>rfl
theorem a3c{L:List Nd}(hL:Dz L){sg:List Sg}{b:Bool}{s s':Ps}{c:Int}(h:DU sg 19 b s=some (c,s'))(hk:(sgO sg s.pos).kind=5):tel L sg s c s':=by
 unfold DU En at h
 rw[Option.map_eq_some_iff] at h
 obtain⟨⟨c',s1⟩,h1,h2⟩:=h
 obtain⟨rfl,rfl⟩:=Gl h1
 simp only[Prod.mk.injEq] at h2
 obtain⟨rfl,rfl⟩:=h2
 refine⟨⟨_,rfl⟩,by simp only[adv];omega,fun hp=> ?_⟩
 rw[DL hL hp]
 simp only[adv]
 rw[OG hk (by omega)]
 rfl
theorem RI{L:List Nd}(hL:Dz L){sg:List Sg}:Hl L sg (Bz sg):=by
 intro s k s' _ h
 unfold Bz at h
 split at h
 ·rename_i hn;exact VX hL h (MY hn) (.inl rfl)
 ·cases h
theorem a3d{sg:List Sg}:LF sg (Bz sg):=by
 intro s r h
 unfold Bz at h
 split at h
 ·rename_i hn;exact RH (by rw[MY hn];decide)
 ·cases h
theorem a3e{sg:List Sg}{s s':Ps}{t:List UInt8}(h:Fi sg s=some (t,s')):Dh sg s.pos=true∧t=(sgO sg s.pos).text∧s'=adv s:=by
 unfold Fi at h
 split at h
 ·rename_i hn
  simp only[Option.some.injEq,Prod.mk.injEq] at h
  exact⟨hn,h.1.symm,h.2.symm⟩
 ·cases h
theorem VY{sg:List Sg}{s s':Ps}{t:List UInt8}(h:Fi sg s=some (t,s')):lb sg s.pos s'.pos=[wdS t]∧s'.pos=s.pos+1∧s'.nodes=s.nodes:=by
 obtain⟨h1,rfl,rfl⟩:=a3e h
 refine⟨?_,rfl,rfl⟩
 simp only[adv]
 rw[OG (MY h1) (by omega)];rfl
theorem b3Z{sg:List Sg}{t:List UInt8}{s s':Ps}(h:BF sg t s=some s'):isM sg s t=true∧s'=adv s:=by
 unfold BF at h
 split at h
 ·rename_i hm;simp only[Option.some.injEq] at h;exact⟨hm,h.symm⟩
 ·cases h
theorem IC{sg:List Sg}{t:List UInt8}{s s':Ps}(h:BF sg t s=some s')(ht:t≠[44]):lb sg s.pos s'.pos=[mkS t]∧s'.pos=s.pos+1∧s'.nodes=s.nodes:=by
 obtain⟨h1,rfl⟩:=b3Z h
 exact⟨DY h1 ht,rfl,rfl⟩
theorem HV{sg:List Sg}{m:List UInt8}{x:Nd}{s s':Ps}{k:Int}(h:Bo sg m x s=some (k,s')):isM sg s m=true∧k=s.nodes.length∧s'=⟨s.pos+1,s.deep,s.nodes++[x]⟩:=by
 unfold Bo at h
 split at h
 ·rename_i hm
  unfold En at h
  rw[Option.map_eq_some_iff] at h
  obtain⟨⟨c',s1⟩,h1,h2⟩:=h
  obtain⟨rfl,rfl⟩:=Gl h1
  simp only[Prod.mk.injEq] at h2
  exact⟨hm,h2.1.symm,h2.2.symm⟩
 ·cases h
theorem RJ{a:List Nd}:a <+: a:=List.prefix_refl _
def RK(L:List Nd)(sg:List Sg)(g:List Int→List Sg)(s:Ps)(ks:List Int)(s':Ps):Prop:=s.nodes <+: s'.nodes∧s.pos≤s'.pos∧(s'.nodes <+: L→g ks=lb sg s.pos s'.pos)
theorem b4a{sg:List Sg}{s:Ps}{t:List UInt8}(h:isM sg s t=true)(hn:0≤s.pos):s.pos<sg.length:=by
 obtain⟨h1,h2⟩:=IB.1 h
 by_cases hh:s.pos<sg.length
 ·exact hh
 ·rw[Uf (by omega)] at h1;cases h1
theorem b4b{sg:List Sg}{s:Ps}{m:List UInt8}(h:isM sg s [44]=true)(h2:isM sg (adv s) m=true)(hm:m=[41]∨m=[93])(hn:0≤s.pos):Dk sg s.pos=true:=by
 have hi:=b4a h2 (by simp only[adv];omega)
 obtain⟨a1,a2⟩:=IB.1 h
 obtain⟨b1,b2⟩:=IB.1 h2
 simp only[adv] at hi b1 b2
 rcases hm with rfl|rfl<;>simp [Dk,Ew,a1,a2,b1,b2,hi]
theorem b4c{sg:List Sg}{s:Ps}(h:LE sg (adv s)):Dk sg s.pos=false:=by
 obtain⟨h1,h2⟩:=h
 simp only[isM,isT,adv,Bool.and_eq_false_iff,decide_eq_false_iff_not,beq_eq_false_iff_ne] at h1 h2
 cases hs:Dk sg s.pos with
 |false=>rfl
 |true=>
  simp only[Dk,Ew,Bool.and_eq_true,decide_eq_true_eq,beq_iff_eq,Bool.or_eq_true] at hs
  obtain⟨_,_,h3⟩:=hs
  rcases h3 with⟨k,t⟩|⟨k,t⟩
  ·rcases h1 with h1|h1
   ·exact(of_decide_eq_false h1 k).elim
   ·exact(h1 t).elim
  ·rcases h2 with h2|h2
   ·exact(of_decide_eq_false h2 k).elim
   ·exact(h2 t).elim
theorem OH{L:List Nd}{sg:List Sg}{one:Ps→PR}{m:List UInt8}(ht:Hl L sg one)(hf:LF sg one)(hm:m=[41]∨m=[93]):∀ {n:Nat} {ks ks':List Int} {s s':Ps},0≤s.pos→Bl sg one m n ks s=some (ks',s')→
 ∃new,ks'=ks++new∧RK L sg (Bh (FL L) [44]) s new s'∧(new=[]→isM sg s m=true∧s'=s)∧(new≠[]→LE sg s)
 |0,_,_,_,_,_,h=>by cases h
 |n+1,ks,ks',s,s',h0,h=>by
  rw[Bl] at h
  split at h
  ·rename_i hq
   simp only[Option.some.injEq,Prod.mk.injEq] at h
   obtain⟨rfl,rfl⟩:=h
   exact⟨[],by simp,⟨RJ,Int.le_refl _,fun _=>by rw[a2Y];rfl⟩,fun _=>⟨hq,rfl⟩,fun h=>(h rfl).elim⟩
  ·rw[Option.bind_eq_some_iff] at h
   obtain⟨⟨c,s1⟩,h1,h2⟩:=h
   obtain⟨p1,p2,p3⟩:=ht _ _ _ h0 h1
   have hfi:=hf _ _ h1
   simp only at h2
   split at h2
   ·rename_i hq
    obtain⟨new,rfl,⟨q1,q2,q3⟩,q4,q5⟩:=OH ht hf hm (by simp only[adv];omega) h2
    simp only[adv] at q1 q2 q3
    refine⟨c::new,by simp,⟨p1.trans q1,by omega,fun hp=> ?_⟩,(fun h=>by cases h),fun _=>hfi⟩
    rw[BD (j:=s1.pos) p2 (by omega),BD (j:=s1.pos+1) (i:=s1.pos) (by omega) q2,←p3 (q1.trans hp),←q3 hp,a2Z]
    match new with
    |[]=>
     obtain⟨r1,r2⟩:=q4 rfl
     rw[b4b hq r1 hm (by omega)];simp [Bh]
    |d::l=>
     rw[b4c (q5 (by simp))]
     obtain⟨a1,a2⟩:=IB.1 hq
     simp [Bh,sgT,a1,a2,mkS]
   ·simp only[Option.some.injEq,Prod.mk.injEq] at h2
    obtain⟨rfl,rfl⟩:=h2
    exact⟨[c],rfl,⟨p1,p2,fun hp=>by rw[←p3 hp];simp [Bh]⟩,fun h=>(by cases h),fun _=>hfi⟩
end Go.My
end
section
set_option linter.unusedVariables false
set_option linter.unusedSimpArgs false
namespace Go.My
open Go.Eng
theorem bind_some{α β:Type}{o:Option α}{f:α→Option β}{r:β}(h:o.bind f=some r):∃a,o=some a∧f a=some r:=Option.bind_eq_some_iff.1 h
theorem a3f{L:List Nd}(hL:Dz L){sg:List Sg}{val:Ps→PR}(ht:Hl L sg val)(hf:LF sg val){s0:Ps}{k:Int}{s s':Ps}{c:Int}(hk:s0.nodes <+: s.nodes∧s0.pos≤s.pos∧0≤s0.pos)(hq:s.nodes <+: L→FL L k=lb sg s0.pos s.pos)
 (h:CP sg val k s=some (c,s')):tel L sg s0 c s'∧s.nodes <+: s'.nodes∧s.pos<s'.pos:=by
 unfold CP at h
 obtain⟨s1,h1,h⟩:=bind_some h
 obtain⟨⟨ks,s2⟩,h2,h3⟩:=bind_some h
 obtain⟨a1,a2,a3⟩:=IC h1 (by decide)
 obtain⟨new,e,⟨b1,b2,b3⟩,_,_⟩:=OH ht hf (.inl rfl) (by omega) h2
 simp only at h3
 obtain⟨c1,rfl,rfl⟩:=HV h3
 have hm:=DY c1 (by decide)
 rw[a3] at b1
 refine⟨⟨(hk.1.trans b1).trans ⟨_,rfl⟩,by simp only;omega,fun hp=> ?_⟩,b1.trans ⟨_,rfl⟩,by simp only;omega⟩
 have hp2:s2.nodes <+: L:=List.IsPrefix.trans ⟨_,rfl⟩ hp
 rw[DL hL hp,e]
 simp only
 rw[BD (j:=s.pos) (by omega) (by omega),BD (j:=s1.pos) (i:=s.pos) (by omega) (by omega),BD (j:=s2.pos) (i:=s1.pos) b2 (by omega),a1,hm,←b3 hp2,←hq (b1.trans hp2)]
 simp [CJ,kd]
theorem VZ{L:List Nd}(hL:Dz L){sg:List Sg}{val:Ps→PR}(ht:Hl L sg val)(hf:LF sg val):∀ {n:Nat} {s0 s s':Ps} {k c:Int},(s0.nodes <+: s.nodes∧s0.pos≤s.pos∧0≤s0.pos)→(s.nodes <+: L→FL L k=lb sg s0.pos s.pos)→
 Fj sg val n k s=some (c,s')→tel L sg s0 c s'
 |0,_,_,_,_,_,_,_,h=>by cases h
 |n+1,s0,s,s',k,c,hk,hq,h=>by
  rw[Fj] at h
  split at h
  ·obtain⟨⟨c1,s1⟩,h1,h2⟩:=bind_some h
   obtain⟨a,b,b2⟩:=a3f hL ht hf hk hq h1
   exact VZ hL ht hf ⟨a.1,a.2.1,hk.2.2⟩ a.2.2 h2
  ·split at h
   ·rename_i hm
    split at h
    ·rename_i hn
     obtain⟨⟨c1,s1⟩,h1,h2⟩:=bind_some h
     unfold En at h1
     rw[Option.map_eq_some_iff] at h1
     obtain⟨⟨c',s2⟩,h3,h4⟩:=h1
     obtain⟨rfl,rfl⟩:=Gl h3
     simp only[Prod.mk.injEq] at h4
     obtain⟨rfl,rfl⟩:=h4
     refine VZ hL ht hf ⟨hk.1.trans ⟨_,rfl⟩,by simp only[adv];omega,hk.2.2⟩ (fun hp=> ?_) h2
     simp only[adv] at hp ⊢
     rw[DL hL hp,BD (j:=s.pos) (by omega) (by omega),BD (i:=s.pos) (j:=s.pos+1) (by omega) (by omega),DY hm (by decide),OG (MY hn) (by omega),←hq (List.IsPrefix.trans ⟨_,rfl⟩ hp)]
     simp [CJ,kd,wdS]
    ·cases h
   ·simp only[Option.some.injEq,Prod.mk.injEq] at h
    obtain⟨rfl,rfl⟩:=h
    exact⟨hk.1,hk.2.1,hq⟩
theorem a3g{f:Int→List Sg}{m:List UInt8}{l:List Int}{c:Int}(h:l≠[]):Bh f m (l++[c])=Bh f m l++([mkS m]++f c):=by
 cases l with
 |nil=>exact(h rfl).elim
 |cons d l=>simp [Bh]
theorem a3h{L:List Nd}(hL:Dz L){sg:List Sg}{val:Ps→PR}(ht:Hl L sg val)(hf:LF sg val):∀ {n:Nat} {s0 s s':Ps} {ks ks':List Int},ks≠[]→(s0.nodes <+: s.nodes∧s0.pos≤s.pos∧0≤s0.pos)→(s.nodes <+: L→Bh (FL L) [46,46] ks=lb sg s0.pos s.pos)→
 EW sg val n ks s=some (ks',s')→RK L sg (Bh (FL L) [46,46]) s0 ks' s'
 |0,_,_,_,_,_,_,_,_,h=>by cases h
 |n+1,s0,s,s',ks,ks',hks,hk,hq,h=>by
  rw[EW] at h
  split at h
  ·rename_i hm
   obtain⟨⟨c1,s1⟩,h1,h2⟩:=bind_some h
   obtain⟨⟨c2,s2⟩,h3,h4⟩:=bind_some h2
   obtain⟨p1,p2,p3⟩:=RI hL _ _ _ (by simp only[adv];omega) h1
   simp only[adv] at p1 p2 p3 h3
   obtain⟨⟨a1,a2,a3⟩,a4,a5⟩:=a3f hL ht hf (s0:=adv s) (s:=s1) ⟨p1,p2,by simp only[adv];omega⟩ p3 h3
   simp only[adv] at a1 a2 a3
   refine a3h hL ht hf (by simp) ⟨hk.1.trans a1,by omega,hk.2.2⟩ (fun hp=> ?_) h4
   rw[BD (j:=s.pos) (by omega) (by omega),BD (i:=s.pos) (j:=s.pos+1) (by omega) a2,DY hm (by decide),←a3 hp,←hq (a1.trans hp)]
   exact a3g hks
  ·simp only[Option.some.injEq,Prod.mk.injEq] at h
   obtain⟨rfl,rfl⟩:=h
   exact⟨hk.1,hk.2.1,hq⟩
theorem b4d{f:Int→List Sg}{m:List UInt8}{c:Int}:Bh f m [c]=f c:=by simp [Bh]
theorem b4e{sg:List Sg}{l:Nat}{s:Ps}(h:FB sg l s≠[]):isM sg s (FB sg l s)=true∧FB sg l s≠[44]:=by
 unfold FB at h ⊢
 cases hf:(Bu l).find? fun m=>isM sg s m with
 |none=>rw[hf] at h;exact(h rfl).elim
 |some m=>
  have h1:=List.find?_some hf
  have h2:=List.mem_of_find?_eq_some hf
  refine⟨h1,?_⟩
  simp only[Option.getD_some]
  intro e;subst e
  unfold Bu at h2
  split at h2<;>simp at h2
theorem Wa{L:List Nd}(hL:Dz L){sg:List Sg}{l:Nat}{one:Ps→PR}(ht:Hl L sg one):∀ {n:Nat} {s0 s s':Ps} {t:List UInt8} {ks:List Int} {c:Int},ks≠[]→(s0.nodes <+: s.nodes∧s0.pos≤s.pos∧0≤s0.pos)→
 (t=[]→∃k,ks=[k])→(s.nodes <+: L→Bh (FL L) t ks=lb sg s0.pos s.pos)→Ed sg l one n t ks s=some (c,s')→tel L sg s0 c s'
 |0,_,_,_,_,_,_,_,_,_,_,h=>by cases h
 |n+1,s0,s,s',t,ks,c,hks,hk,ht0,hq,h=>by
  rw[Ed] at h
  split at h
  ·obtain⟨⟨c1,s1⟩,h1,h2⟩:=bind_some h
   obtain⟨rfl,rfl⟩:=Gl h1
   refine Wa hL ht (s:=⟨s.pos,s.deep,s.nodes++[⟨7,t,ks,false⟩]⟩) (by simp) ⟨hk.1.trans ⟨_,rfl⟩,hk.2.1,hk.2.2⟩ (fun _=>⟨_,rfl⟩) (fun hp=> ?_) h2
   simp only at hp ⊢
   rw[b4d,DL hL hp,←hq (List.IsPrefix.trans ⟨_,rfl⟩ hp)]
   simp [CJ]
  ·rename_i hnt
   split at h
   ·rename_i hc
    simp only[Option.some.injEq,Prod.mk.injEq] at h
    obtain⟨rfl,rfl⟩:=h
    have:t=[]:=by
     by_cases e:t=[]
     ·exact e
     ·exact(hnt ⟨e,fun e2=>e (by rw[←e2,hc])⟩).elim
    obtain⟨k,rfl⟩:=ht0 this
    refine⟨hk.1,hk.2.1,fun hp=> ?_⟩
    rw[←hq hp];simp [Bh]
   ·rename_i hc
    obtain⟨⟨c1,s1⟩,h1,h2⟩:=bind_some h
    obtain⟨hm,hm2⟩:=b4e hc
    obtain⟨p1,p2,p3⟩:=ht _ _ _ (by simp only[adv];omega) h1
    simp only[adv] at p1 p2 p3
    refine Wa hL ht (by simp) ⟨hk.1.trans p1,by omega,hk.2.2⟩ (fun e=>(hc e).elim) (fun hp=> ?_) h2
    simp only at hp ⊢
    rw[BD (j:=s.pos) (by omega) (by omega),BD (i:=s.pos) (j:=s.pos+1) (by omega) p2,DY hm hm2,←p3 hp,←hq (p1.trans hp),a3g hks]
    by_cases e:t=[]
    ·obtain⟨k,rfl⟩:=ht0 e
     simp [Bh]
    ·have:FB sg l s=t:=by
      by_cases e2:FB sg l s=t
      ·exact e2
      ·exact(hnt ⟨e,e2⟩).elim
     rw[this]
theorem b4f{sg:List Sg}{n:Nat}:LF sg (pE sg (n+1) .base):=by
 intro s r h
 rw[pE] at h
 split at h
 ·rename_i e;exact RH (by rw[e];decide)
 split at h
 ·rename_i e;exact RH (by rw[e];decide)
 split at h
 ·rename_i e;exact RH (by rw[e];decide)
 split at h
 ·rename_i e;exact VW e (by decide) (by decide)
 split at h
 ·rename_i e;rw[Bool.and_eq_true] at e;exact VW e.1 (by decide) (by decide)
 split at h
 ·rename_i e;exact VW e (by decide) (by decide)
 ·cases h
theorem Kp{sg:List Sg}:∀ {n:Nat} {t:NT},LF sg (pE sg n t)
 |0,_=>fun s r h=>by cases h
 |n+1,.value=>fun s r h=>by
  rw[pE] at h
  obtain⟨p,h1,_⟩:=bind_some h
  exact Kp (n:=n) _ _ h1
 |n+1,.pick=>fun s r h=>by
  rw[pE] at h
  split at h
  ·cases h
  ·obtain⟨p,h1,_⟩:=bind_some h
   exact Kp (n:=n) (dp s 1) _ h1
 |n+1,.chain l=>fun s r h=>by
  rw[pE] at h
  split at h
  ·exact Kp (n:=n) _ _ h
  ·obtain⟨p,h1,_⟩:=bind_some h
   exact Kp (n:=n) _ _ h1
 |n+1,.fin=>fun s r h=>by
  rw[pE] at h
  obtain⟨p,h1,_⟩:=bind_some h
  exact Kp (n:=n) _ _ h1
 |n+1,.base=>b4f
theorem Gm{L:List Nd}(hL:Dz L){sg:List Sg}:∀ {n:Nat} {t:NT},Hl L sg (pE sg n t)
 |0,_=>fun s k s' _ h=>by cases h
 |n+1,.value=>fun s k s' h0 h=>by
  rw[pE] at h
  obtain⟨⟨c,s1⟩,h1,h2⟩:=bind_some h
  have hp:=Gm hL (n:=n) (t:= .pick) _ _ _ h0 h1
  simp only at h2
  split at h2
  ·obtain⟨⟨ks,s2⟩,h3,h4⟩:=bind_some h2
   obtain⟨a1,a2,a3⟩:=a3h hL (Gm hL (n:=n) (t:= .value)) Kp (ks:=[c]) (by simp) ⟨hp.1,hp.2.1,h0⟩ (fun h=>by rw[←hp.2.2 h];simp [Bh]) h3
   obtain⟨rfl,rfl⟩:=Gl h4
   refine⟨a1.trans ⟨_,rfl⟩,a2,fun hpr=> ?_⟩
   rw[DL hL hpr,←a3 (List.IsPrefix.trans ⟨_,rfl⟩ hpr)]
   simp [CJ]
  ·simp only[Option.some.injEq,Prod.mk.injEq] at h2
   obtain⟨rfl,rfl⟩:=h2
   exact hp
 |n+1,.pick=>fun s k s' h0 h=>by
  rw[pE] at h
  split at h
  ·cases h
  ·obtain⟨⟨c,s1⟩,h1,h2⟩:=bind_some h
   have hp:=Gm hL (n:=n) (t:= .chain 0) (dp s 1) _ _ h0 h1
   simp only[dp] at hp
   obtain⟨p1,p2,p3⟩:=hp
   simp only at h2
   split at h2
   ·rename_i hq
    obtain⟨⟨a,s2⟩,h3,h4⟩:=bind_some h2
    obtain⟨s3,h5,h6⟩:=bind_some h4
    obtain⟨⟨b,s4⟩,h7,h8⟩:=bind_some h6
    rw[Option.map_eq_some_iff] at h8
    obtain⟨⟨d,s5⟩,h9,h10⟩:=h8
    simp only at p1 p2 p3 h5 h9
    obtain⟨q1,q2,q3⟩:=Gm hL (n:=n) (t:= .pick) _ _ _ (by simp only[adv];omega) h3
    simp only[adv] at q1 q2 q3
    obtain⟨w1,w2,w3⟩:=IC h5 (by decide)
    obtain⟨r1,r2,r3⟩:=Gm hL (n:=n) (t:= .pick) _ _ _ (by omega) h7
    obtain⟨rfl,rfl⟩:=Gl h9
    simp only[Prod.mk.injEq] at h10
    obtain⟨rfl,rfl⟩:=h10
    rw[w3] at r1
    refine⟨((p1.trans q1).trans r1).trans ⟨_,rfl⟩,by simp only[dp];omega,fun hpr=> ?_⟩
    simp only[dp] at hpr ⊢
    have hp4:s4.nodes <+: L:=List.IsPrefix.trans ⟨_,rfl⟩ hpr
    rw[DL hL hpr,BD (j:=s1.pos) p2 (by omega),BD (i:=s1.pos) (j:=s1.pos+1) (by omega) (by omega),BD (i:=s1.pos+1) (j:=s2.pos) q2 (by omega),BD (i:=s2.pos) (j:=s3.pos) (by omega) r2,
     DY hq (by decide),w1,←p3 ((q1.trans r1).trans hp4),←q3 (r1.trans hp4),←r3 hp4]
    simp [CJ,kd]
   ·simp only[Option.some.injEq,Prod.mk.injEq] at h2
    obtain⟨rfl,rfl⟩:=h2
    exact⟨p1,p2,p3⟩
 |n+1,.chain l=>fun s k s' h0 h=>by
  rw[pE] at h
  split at h
  ·exact Gm hL (n:=n) (t:= .fin) _ _ _ h0 h
  ·obtain⟨⟨c,s1⟩,h1,h2⟩:=bind_some h
   obtain⟨p1,p2,p3⟩:=Gm hL (n:=n) (t:= .chain (l+1)) _ _ _ h0 h1
   exact Wa hL (Gm hL (n:=n) (t:= .chain (l+1))) (by simp) ⟨p1,p2,h0⟩ (fun _=>⟨_,rfl⟩) (fun hp=>by rw[←p3 hp];simp [Bh]) h2
 |n+1,.fin=>fun s k s' h0 h=>by
  rw[pE] at h
  obtain⟨⟨c,s1⟩,h1,h2⟩:=bind_some h
  obtain⟨p1,p2,p3⟩:=Gm hL (n:=n) (t:= .base) _ _ _ h0 h1
  exact VZ hL (Gm hL (n:=n) (t:= .value)) Kp ⟨p1,p2,h0⟩ p3 h2
 |n+1,.base=>fun s k s' h0 h=>by
  rw[pE] at h
  split at h
  ·exact RI hL _ _ _ h0 h
  split at h
  ·exact VX hL h ‹_› (.inr (.inl rfl))
  split at h
  ·exact VX hL h ‹_› (.inr (.inr rfl))
  split at h
  ·rename_i hq
   obtain⟨⟨ks,s1⟩,h1,h2⟩:=bind_some h
   obtain⟨new,e,⟨b1,b2,b3⟩,_,_⟩:=OH (Gm hL (n:=n) (t:= .value)) Kp (.inr rfl) (by simp only[adv];omega) h1
   simp only[adv] at b1 b2 b3 h2
   obtain⟨c1,rfl,rfl⟩:=HV h2
   refine⟨b1.trans ⟨_,rfl⟩,by simp only;omega,fun hp=> ?_⟩
   simp only at hp ⊢
   rw[DL hL hp,e,BD (j:=s.pos+1) (by omega) (by omega),BD (i:=s.pos+1) (j:=s1.pos) b2 (by omega),DY hq (by decide),DY c1 (by decide),←b3 (List.IsPrefix.trans ⟨_,rfl⟩ hp)]
   simp [CJ]
  split at h
  ·rename_i hq
   rw[Bool.and_eq_true] at hq
   obtain⟨⟨ks,s1⟩,h1,h2⟩:=bind_some h
   obtain⟨s2,h3,h4⟩:=bind_some h2
   obtain⟨s3,h5,h6⟩:=bind_some h4
   obtain⟨⟨c,s4⟩,h7,h8⟩:=bind_some h6
   obtain⟨new,e,⟨b1,b2,b3⟩,_,_⟩:=OH (RI hL) a3d (.inl rfl) (by simp only[adv];omega) h1
   simp only[adv] at b1 b2 b3 h3
   obtain⟨w1,w2,w3⟩:=IC h3 (by decide)
   obtain⟨v1,v2,v3⟩:=IC h5 (by decide)
   obtain⟨q1,q2,q3⟩:=Gm hL (n:=n) (t:= .pick) _ _ _ (by omega) h7
   obtain⟨rfl,rfl⟩:=Gl h8
   rw[v3,w3] at q1
   refine⟨(b1.trans q1).trans ⟨_,rfl⟩,by simp only;omega,fun hp=> ?_⟩
   simp only at hp ⊢
   have hp4:s4.nodes <+: L:=List.IsPrefix.trans ⟨_,rfl⟩ hp
   rw[DL hL hp,e,BD (j:=s.pos+1) (by omega) (by omega),BD (i:=s.pos+1) (j:=s1.pos) b2 (by omega),BD (i:=s1.pos) (j:=s2.pos) (by omega) (by omega),BD (i:=s2.pos) (j:=s3.pos) (by omega) (by omega),
    DY hq.1 (by decide),w1,v1,←b3 (q1.trans hp4),←q3 hp4]
   simp [CJ,kd]
  split at h
  ·rename_i hq
   obtain⟨⟨c,s1⟩,h1,h2⟩:=bind_some h
   obtain⟨b1,b2,b3⟩:=Gm hL (n:=n) (t:= .value) _ _ _ (by simp only[adv];omega) h1
   simp only[adv] at b1 b2 b3 h2
   obtain⟨c1,rfl,rfl⟩:=HV h2
   refine⟨b1.trans ⟨_,rfl⟩,by simp only;omega,fun hp=> ?_⟩
   simp only at hp ⊢
   rw[DL hL hp,BD (j:=s.pos+1) (by omega) (by omega),BD (i:=s.pos+1) (j:=s1.pos) b2 (by omega),DY hq (by decide),DY c1 (by decide),←b3 (List.IsPrefix.trans ⟨_,rfl⟩ hp)]
   simp [CJ,kd]
  ·cases h
theorem OI{L:List Nd}(hL:Dz L){sg:List Sg}:Hl L sg (Ca sg):=Gm hL
end Go.My
end
section
set_option linter.unusedVariables false
set_option linter.unusedSimpArgs false
namespace Go.My
open Go.Eng
def IE(sg:List Sg)(q:Int):Prop:=(sgO sg (q-1)).kind≠0∧((sgO sg (q-1)).kind=4→(sgO sg (q-1)).text≠[44])
theorem RL{sg:List Sg}{s:Ps}{t:List UInt8}(h:isM sg s t=true)(ht:t≠[44]):IE sg (s.pos+1):=by
 obtain⟨h1,h2⟩:=IB.1 h
 unfold IE
 rw[show s.pos+1-1=s.pos by omega,h1,h2]
 exact⟨by decide,fun _=>ht⟩
theorem b4g{sg:List Sg}{i k:Int}(h:(sgO sg i).kind=k)(h0:k≠0)(h4:k≠4):IE sg (i+1):=by
 unfold IE
 rw[show i+1-1=i by omega,h]
 exact⟨h0,fun e=>(h4 e).elim⟩
def LG(L:List Nd)(sg:List Sg)(s:Ps)(k:Int)(s':Ps):Prop:=tel L sg s k s'∧s.pos<s'.pos∧IE sg s'.pos
def fmL(L:List Nd)(l:List Int):List Sg:=l.flatMap (FL L)
theorem a3i{L:List Nd}(hL:Dz L){sg:List Sg}{b:Bool}{s s':Ps}{c:Int}(h:DU sg 19 b s=some (c,s'))(hk:(sgO sg s.pos).kind=5):LG L sg s c s':=by
 refine⟨a3c hL h hk,?_⟩
 unfold DU En at h
 rw[Option.map_eq_some_iff] at h
 obtain⟨⟨c',s1⟩,h1,h2⟩:=h
 obtain⟨rfl,rfl⟩:=Gl h1
 simp only[Prod.mk.injEq] at h2
 obtain⟨rfl,rfl⟩:=h2
 exact⟨by simp only[adv];omega,b4g hk (by decide) (by decide)⟩
theorem Wb{L:List Nd}(hL:Dz L){sg:List Sg}{b:Bool}{s s':Ps}{c:Int}(h0:0≤s.pos)(hw:isW sg s [118,97,114]=true)(h:Dm sg b (adv s)=some (c,s')):LG L sg s c s':=by
 unfold Dm at h
 obtain⟨⟨t,s1⟩,h1,h2⟩:=bind_some h
 obtain⟨a1,a2,a3⟩:=VY h1
 simp only[adv] at a1 a2 a3 h2
 split at h2
 ·rename_i hq
  obtain⟨⟨v,s2⟩,h3,h4⟩:=bind_some h2
  obtain⟨p1,p2,p3⟩:=OI hL _ _ _ (by simp only;omega) h3
  simp only at p1 p2 p3 h4
  obtain⟨c1,rfl,rfl⟩:=HV h4
  rw[a3] at p1
  refine⟨⟨p1.trans ⟨_,rfl⟩,by simp only;omega,fun hp=> ?_⟩,by simp only;omega,RL c1 (by decide)⟩
  simp only at hp ⊢
  rw[DL hL hp,BD (j:=s.pos+1) (by omega) (by omega),BD (i:=s.pos+1) (j:=s1.pos) (by omega) (by omega),BD (i:=s1.pos) (j:=s1.pos+1) (by omega) (by omega),BD (i:=s1.pos+1) (j:=s2.pos) p2 (by omega),
   Jq hw,a1,DY hq (by decide),DY c1 (by decide),←p3 (List.IsPrefix.trans ⟨_,rfl⟩ hp)]
  simp [CJ]
 ·obtain⟨c1,rfl,rfl⟩:=HV h2
  rw[a3]
  refine⟨⟨⟨_,rfl⟩,by simp only;omega,fun hp=> ?_⟩,by simp only;omega,RL c1 (by decide)⟩
  simp only at hp ⊢
  rw[←a3] at hp ⊢
  rw[DL hL hp,BD (j:=s.pos+1) (by omega) (by omega),BD (i:=s.pos+1) (j:=s1.pos) (by omega) (by omega),Jq hw,a1,DY c1 (by decide)]
  simp [CJ]
theorem a3j{L:List Nd}(hL:Dz L){sg:List Sg}{s s':Ps}{c:Int}(h0:0≤s.pos)(h:Di sg s=some (c,s')):RK L sg (fun l=>[mkS [40]]++FL L (l.headD 0)++[mkS [41]]) s [c] s':=by
 unfold Di at h
 obtain⟨s1,h1,h2⟩:=bind_some h
 obtain⟨⟨v,s2⟩,h3,h4⟩:=bind_some h2
 rw[Option.map_eq_some_iff] at h4
 obtain⟨s3,h5,h6⟩:=h4
 simp only[Prod.mk.injEq] at h6
 obtain⟨rfl,rfl⟩:=h6
 simp only at h5
 obtain⟨a1,a2,a3⟩:=IC h1 (by decide)
 obtain⟨p1,p2,p3⟩:=OI hL _ _ _ (by omega) h3
 obtain⟨b1,b2,b3⟩:=IC h5 (by decide)
 rw[a3] at p1
 refine⟨by rw[b3];exact p1,by omega,fun hp=> ?_⟩
 rw[b3] at hp
 simp only[List.headD_cons]
 rw[BD (j:=s1.pos) (by omega) (by omega),BD (i:=s1.pos) (j:=s2.pos) p2 (by omega),a1,b1,p3 hp]
 simp
theorem Wc{L:List Nd}{sg:List Sg}{one:Bool→Ps→PR}{m:List UInt8}(ht:∀b,Hl L sg (one b)):∀ {n:Nat} {ks ks':List Int} {s s':Ps},0≤s.pos→CK sg one m n ks s=some (ks',s')→
 ∃new,ks'=ks++new∧RK L sg (fmL L) s new s'
 |0,_,_,_,_,_,h=>by cases h
 |n+1,ks,ks',s,s',h0,h=>by
  rw[CK] at h
  split at h
  ·simp only[Option.some.injEq,Prod.mk.injEq] at h
   obtain⟨rfl,rfl⟩:=h
   exact⟨[],by simp,RJ,Int.le_refl _,fun _=>by rw[a2Y];rfl⟩
  ·obtain⟨⟨c,s1⟩,h1,h2⟩:=bind_some h
   simp only at h2
   obtain⟨p1,p2,p3⟩:=ht _ _ _ _ h0 h1
   obtain⟨new,rfl,q1,q2,q3⟩:=Wc ht (by omega) h2
   refine⟨c::new,by simp,p1.trans q1,by omega,fun hp=> ?_⟩
   rw[BD p2 q2,←p3 (q1.trans hp),←q3 hp]
   simp [fmL]
theorem RM{L:List Nd}(hL:Dz L){sg:List Sg}{one:Bool→Ps→PR}(ht:∀b,Hl L sg (one b)){s s':Ps}{c:Int}(h0:0≤s.pos)(h:BH sg one s=some (c,s')):LG L sg s c s':=by
 unfold BH at h
 split at h
 ·cases h
 obtain⟨s1,h1,h2⟩:=bind_some h
 obtain⟨⟨ks,s2⟩,h3,h4⟩:=bind_some h2
 rw[Option.map_eq_some_iff] at h4
 obtain⟨⟨d,s3⟩,h5,h6⟩:=h4
 simp only[Prod.mk.injEq] at h6
 obtain⟨rfl,rfl⟩:=h6
 obtain⟨a1,a2,a3⟩:=IC h1 (by decide)
 simp only[dp] at a1 a2 a3
 obtain⟨new,e,q1,q2,q3⟩:=Wc ht (by omega) h3
 simp only at h5
 obtain⟨c1,rfl,rfl⟩:=HV h5
 rw[a3] at q1
 refine⟨⟨q1.trans ⟨_,rfl⟩,by simp only[dp];omega,fun hp=> ?_⟩,by simp only[dp];omega,RL c1 (by decide)⟩
 simp only[dp] at hp ⊢
 rw[DL hL hp,e,BD (j:=s1.pos) (by omega) (by omega),BD (i:=s1.pos) (j:=s2.pos) q2 (by omega),a1,DY c1 (by decide),←q3 (List.IsPrefix.trans ⟨_,rfl⟩ hp)]
 simp [CJ,fmL]
theorem a3k{L:List Nd}(hL:Dz L){sg:List Sg}:∀ {n:Nat} {b:Bool},Hl L sg (stR sg n b)
 |0,_=>fun s k s' _ h=>by cases h
 |n+1,b=>fun s k s' h0 h=>by
  have ih:∀b,Hl L sg (stR sg n b):=fun b=>a3k hL
  rw[stR] at h
  split at h
  ·exact a3c hL h ‹_›
  split at h
  ·exact(Wb hL h0 ‹_› h).1
  split at h
  ·rename_i hw
   split at h
   ·obtain⟨c1,rfl,rfl⟩:=HV h
    refine⟨⟨_,rfl⟩,by simp only[adv];omega,fun hp=> ?_⟩
    simp only[adv] at hp ⊢
    have hc:=DY c1 (by decide)
    simp only[adv] at hc
    rw[DL hL hp,BD (j:=s.pos+1) (by omega) (by omega),Jq hw,hc]
    simp [CJ]
   ·obtain⟨⟨v,s1⟩,h1,h2⟩:=bind_some h
    obtain⟨p1,p2,p3⟩:=OI hL _ _ _ (by simp only[adv];omega) h1
    simp only[adv] at p1 p2 p3 h2
    obtain⟨c1,rfl,rfl⟩:=HV h2
    refine⟨p1.trans ⟨_,rfl⟩,by simp only;omega,fun hp=> ?_⟩
    simp only at hp ⊢
    rw[DL hL hp,BD (j:=s.pos+1) (by omega) (by omega),BD (i:=s.pos+1) (j:=s1.pos) p2 (by omega),Jq hw,DY c1 (by decide),←p3 (List.IsPrefix.trans ⟨_,rfl⟩ hp)]
    simp [CJ]
  split at h
  ·rename_i hw
   obtain⟨⟨v,s1⟩,h1,h2⟩:=bind_some h
   obtain⟨⟨d,s2⟩,h3,h4⟩:=bind_some h2
   obtain⟨p1,p2,p3⟩:=a3j hL (by simp only[adv];omega) h1
   simp only[adv,List.headD_cons] at p1 p2 p3
   simp only at h3 h4
   obtain⟨⟨q1,q2,q3⟩,_⟩:=RM hL ih (by omega) h3
   split at h4
   ·rename_i hw2
    obtain⟨⟨e,s3⟩,h5,h6⟩:=bind_some h4
    obtain⟨⟨r1,r2,r3⟩,_⟩:=RM hL ih (by simp only[adv];omega) h5
    simp only[adv] at r1 r2 r3
    obtain⟨rfl,rfl⟩:=Gl h6
    refine⟨((p1.trans q1).trans r1).trans ⟨_,rfl⟩,by simp only;omega,fun hp=> ?_⟩
    simp only at hp ⊢
    have hp3:s3.nodes <+: L:=List.IsPrefix.trans ⟨_,rfl⟩ hp
    rw[DL hL hp,BD (j:=s.pos+1) (by omega) (by omega),BD (i:=s.pos+1) (j:=s1.pos) p2 (by omega),BD (i:=s1.pos) (j:=s2.pos) q2 (by omega),BD (i:=s2.pos) (j:=s2.pos+1) (by omega) r2,
     Jq hw,Jq hw2,←p3 ((q1.trans r1).trans hp3),←q3 (r1.trans hp3),←r3 hp3]
    simp [CJ,kd]
   ·obtain⟨rfl,rfl⟩:=Gl h4
    refine⟨(p1.trans q1).trans ⟨_,rfl⟩,by simp only;omega,fun hp=> ?_⟩
    simp only at hp ⊢
    have hp3:s2.nodes <+: L:=List.IsPrefix.trans ⟨_,rfl⟩ hp
    rw[DL hL hp,BD (j:=s.pos+1) (by omega) (by omega),BD (i:=s.pos+1) (j:=s1.pos) p2 q2,Jq hw,←p3 (q1.trans hp3),←q3 hp3]
    simp [CJ,kd]
  split at h
  ·rename_i hw
   obtain⟨⟨v,s1⟩,h1,h2⟩:=bind_some h
   obtain⟨⟨d,s2⟩,h3,h4⟩:=bind_some h2
   obtain⟨p1,p2,p3⟩:=a3j hL (by simp only[adv];omega) h1
   simp only[adv,List.headD_cons] at p1 p2 p3
   simp only at h3 h4
   obtain⟨⟨q1,q2,q3⟩,_⟩:=RM hL ih (by omega) h3
   obtain⟨rfl,rfl⟩:=Gl h4
   refine⟨(p1.trans q1).trans ⟨_,rfl⟩,by simp only;omega,fun hp=> ?_⟩
   simp only at hp ⊢
   have hp3:s2.nodes <+: L:=List.IsPrefix.trans ⟨_,rfl⟩ hp
   rw[DL hL hp,BD (j:=s.pos+1) (by omega) (by omega),BD (i:=s.pos+1) (j:=s1.pos) p2 q2,Jq hw,←p3 (q1.trans hp3),←q3 hp3]
   simp [CJ,kd]
  split at h
  ·rename_i hq
   rw[Bool.and_eq_true] at hq
   have hm:=DY hq.2 (by decide)
   simp only[adv] at hm
   obtain⟨⟨v,s1⟩,h1,h2⟩:=bind_some h
   obtain⟨p1,p2,p3⟩:=OI hL _ _ _ (by simp only[adv];omega) h1
   simp only[adv] at p1 p2 p3 h2
   obtain⟨c1,rfl,rfl⟩:=HV h2
   refine⟨p1.trans ⟨_,rfl⟩,by simp only;omega,fun hp=> ?_⟩
   simp only at hp ⊢
   rw[DL hL hp,BD (j:=s.pos+1) (by omega) (by omega),BD (i:=s.pos+1) (j:=s.pos+1+1) (by omega) (by omega),BD (i:=s.pos+1+1) (j:=s1.pos) p2 (by omega),hm,OG (MY hq.1) (by omega),DY c1 (by decide),←p3 (List.IsPrefix.trans ⟨_,rfl⟩ hp)]
   simp [CJ,wdS]
  ·obtain⟨⟨v,s1⟩,h1,h2⟩:=bind_some h
   obtain⟨p1,p2,p3⟩:=OI hL _ _ _ h0 h1
   simp only at h2
   obtain⟨c1,rfl,rfl⟩:=HV h2
   refine⟨p1.trans ⟨_,rfl⟩,by simp only;omega,fun hp=> ?_⟩
   simp only at hp ⊢
   rw[DL hL hp,BD (j:=s1.pos) p2 (by omega),DY c1 (by decide),←p3 (List.IsPrefix.trans ⟨_,rfl⟩ hp)]
   simp [CJ]
theorem a3l{L:List Nd}(hL:Dz L){sg:List Sg}{b:Bool}{s s':Ps}{c:Int}(h0:0≤s.pos)(h:EX sg b s=some (c,s')):LG L sg s c s':=by
 unfold EX at h
 obtain⟨⟨t,s1⟩,h1,h2⟩:=bind_some h
 obtain⟨s2,h3,h4⟩:=bind_some h2
 obtain⟨⟨ks,s3⟩,h5,h6⟩:=bind_some h4
 obtain⟨s4,h7,h8⟩:=bind_some h6
 obtain⟨⟨d,s5⟩,h9,h10⟩:=bind_some h8
 try simp only at h3
 try simp only at h5
 try simp only at h7
 try simp only at h9
 obtain⟨a1,a2,a3⟩:=VY h1
 obtain⟨b1,b2,b3⟩:=IC h3 (by decide)
 obtain⟨new,e,⟨q1,q2,q3⟩,_,_⟩:=OH (RI hL) a3d (.inl rfl) (by omega) h5
 obtain⟨w1,w2,w3⟩:=IC h7 (by decide)
 try simp only at b1 b2 b3 w1 w2 w3
 obtain⟨⟨r1,r2,r3⟩,r4,r5⟩:=RM hL (fun b=>a3k hL) (by omega) h9
 obtain⟨rfl,rfl⟩:=Gl h10
 rw[b3,a3] at q1
 rw[w3] at r1
 refine⟨⟨(q1.trans r1).trans ⟨_,rfl⟩,by simp only;omega,fun hp=> ?_⟩,by simp only;omega,r5⟩
 simp only at hp ⊢
 have hp3:s5.nodes <+: L:=List.IsPrefix.trans ⟨_,rfl⟩ hp
 rw[DL hL hp,e,BD (j:=s1.pos) (by omega) (by omega),BD (i:=s1.pos) (j:=s2.pos) (by omega) (by omega),BD (i:=s2.pos) (j:=s3.pos) q2 (by omega),BD (i:=s3.pos) (j:=s4.pos) (by omega) r2,a1,b1,w1,←q3 (r1.trans hp3),←r3 hp3]
 simp [CJ,kd]
theorem b4h{L:List Nd}(hL:Dz L){sg:List Sg}{b:Bool}{s s':Ps}{c:Int}(h0:0≤s.pos)(h:CS sg b s=some (c,s')):LG L sg s c s':=by
 unfold CS at h
 split at h
 ·exact a3i hL h ‹_›
 split at h
 ·exact Wb hL h0 ‹_› h
 ·exact a3l hL h0 h
theorem b4i{L:List Nd}(hL:Dz L){sg:List Sg}{b:Bool}{s s':Ps}{c:Int}(h0:0≤s.pos)(hw:isW sg s [99,108,97,115,115]=true)(h:Fk sg b (adv s)=some (c,s')):LG L sg s c s':=by
 unfold Fk at h
 obtain⟨⟨t,s1⟩,h1,h2⟩:=bind_some h
 obtain⟨s2,h3,h4⟩:=bind_some h2
 obtain⟨⟨ks,s3⟩,h5,h6⟩:=bind_some h4
 try simp only at h3
 try simp only at h5
 obtain⟨a1,a2,a3⟩:=VY h1
 simp only[adv] at a1 a2 a3
 obtain⟨b1,b2,b3⟩:=IC h3 (by decide)
 try simp only at b1 b2 b3
 obtain⟨new,e,q1,q2,q3⟩:=Wc (fun b=>fun s k s' h0 h=>(b4h hL h0 h).1) (by omega) h5
 simp only at h6
 obtain⟨c1,rfl,rfl⟩:=HV h6
 rw[b3,a3] at q1
 refine⟨⟨q1.trans ⟨_,rfl⟩,by simp only;omega,fun hp=> ?_⟩,by simp only;omega,RL c1 (by decide)⟩
 simp only at hp ⊢
 rw[DL hL hp,e,BD (j:=s.pos+1) (by omega) (by omega),BD (i:=s.pos+1) (j:=s1.pos) (by omega) (by omega),BD (i:=s1.pos) (j:=s2.pos) (by omega) (by omega),BD (i:=s2.pos) (j:=s3.pos) q2 (by omega),Jq hw,a1,b1,DY c1 (by decide),←q3 (List.IsPrefix.trans ⟨_,rfl⟩ hp)]
 simp [CJ,fmL]
theorem b4j{L:List Nd}(hL:Dz L){sg:List Sg}{b:Bool}{s s':Ps}{c:Int}(h0:0≤s.pos)(h:Dn sg b s=some (c,s')):LG L sg s c s'∧Dk sg s.pos=false:=by
 unfold Dn at h
 split at h
 ·rename_i e
  exact⟨a3i hL h e,MX fun h4=>by rw[e] at h4;cases h4⟩
 split at h
 ·rename_i e
  exact⟨Wb hL h0 e h,MX fun h4=>by rw[(IB.1 e).1] at h4;cases h4⟩
 split at h
 ·rename_i e
  exact⟨b4i hL h0 e h,MX fun h4=>by rw[(IB.1 e).1] at h4;cases h4⟩
 ·refine⟨a3l hL h0 h,?_⟩
  unfold EX at h
  obtain⟨⟨t,s1⟩,h1,h2⟩:=bind_some h
  have:=(a3e h1).1
  exact MX fun h4=>by rw[MY this] at h4;cases h4
def OJ(L:List Nd)(sg:List Sg):Int→List Int→List (Int×Int)→Int→Prop
 |p,[],[],q=>p=q
 |p,k::ks,m::ms,q=>m.1=p∧p<m.2∧FL L k=lb sg p m.2∧Dk sg p=false∧IE sg m.2∧OJ L sg m.2 ks ms q
 |_,_,_,_=>False
theorem a3m{L:List Nd}(hL:Dz L){sg:List Sg}:∀ {n:Nat} {ks ks':List Int} {ms ms':List (Int×Int)} {s s':Ps},0≤s.pos→IX sg n ks ms s=some ((ks',ms'),s')→
 ∃nk nm,ks'=ks++nk∧ms'=ms++nm∧s.nodes <+: s'.nodes∧s.pos≤s'.pos∧¬s'.pos<sg.length∧(s'.nodes <+: L→OJ L sg s.pos nk nm s'.pos)
 |0,_,_,_,_,_,_,_,h=>by cases h
 |n+1,ks,ks',ms,ms',s,s',h0,h=>by
  rw[IX] at h
  split at h
  ·obtain⟨⟨c,s1⟩,h1,h2⟩:=bind_some h
   simp only at h2
   obtain⟨⟨⟨p1,p2,p3⟩,p4,p5⟩,p6⟩:=b4j hL h0 h1
   obtain⟨nk,nm,rfl,rfl,q1,q2,q3,q4⟩:=a3m hL (by omega) h2
   refine⟨c::nk,(s.pos,s1.pos)::nm,by simp,by simp,p1.trans q1,by omega,q3,fun hp=> ?_⟩
   exact⟨rfl,p4,p3 (q1.trans hp),p6,p5,q4 hp⟩
  ·rename_i hn
   simp only[Option.some.injEq,Prod.mk.injEq] at h
   obtain⟨⟨rfl,rfl⟩,rfl⟩:=h
   exact⟨[],[],by simp,by simp,RJ,Int.le_refl _,hn,fun _=>rfl⟩
def Cm(ns:List Nd):List Int:=(An ns (ns.length-1)).kids
theorem OK{sg:List Sg}{ms:List (Int×Int)}{L:List Nd}(h:FZ sg=some (ms,L)):De L=true∧Dz L∧∃q,¬q<(sg.length:Int)∧OJ L sg 0 (Cm L) ms q∧1≤L.length:=by
 unfold FZ at h
 obtain⟨⟨⟨ks,ms'⟩,s1⟩,h1,h2⟩:=bind_some h
 obtain⟨⟨c,s2⟩,h3,h4⟩:=bind_some h2
 simp only at h3 h4
 split at h4
 ·rename_i ht
  simp only[Option.some.injEq,Prod.mk.injEq] at h4
  obtain⟨rfl,rfl⟩:=h4
  obtain⟨t1,t2,t3,t4⟩:=JT ht
  obtain⟨rfl,rfl⟩:=Gl h3
  simp only at t1 t2 ht ⊢
  have hL:Dz (s1.nodes++[⟨22,[],ks,false⟩]):=t1.1
  obtain⟨nk,nm,e1,e2,q1,q2,q3,q4⟩:=a3m hL (s:=ps0) (by simp [ps0]) h1
  simp only[List.nil_append] at e1 e2
  subst e1;subst e2
  refine⟨ht,hL,s1.pos,q3,?_,t2⟩
  have:Cm (s1.nodes++[⟨22,[],ks,false⟩])=ks:=by
   unfold Cm
   rw[show(((s1.nodes++[(⟨22,[],ks,false⟩:Nd)]).length:Int)-1)=(s1.nodes.length:Int) by simp]
   rw[(a3b (L:=s1.nodes++[⟨22,[],ks,false⟩]) RJ).1]
  rw[this]
  exact q4 ⟨_,rfl⟩
 ·cases h4
end Go.My
end
section
set_option linter.unusedVariables false
set_option linter.unusedSimpArgs false
namespace Go.My
open Go.Eng
def EZ(sg:List Sg)(n:Nat):Nat:=(Eh sg n).length
theorem Wd{sg:List Sg}{n:Nat}:EZ sg (n+1)=EZ sg n+if Dk sg n then 0 else 1:=by
 unfold EZ
 rw[Eh]
 split<;>simp
theorem We{sg:List Sg}{m:Nat}:∀ {n:Nat},m≤n→EZ sg m≤EZ sg n
 |0,h=>by rw[show m=0 by omega];exact Nat.le_refl _
 |n+1,h=>by
  by_cases e:m=n+1
  ·subst e;exact Nat.le_refl _
  ·have:=We (sg:=sg) (m:=m) (n:=n) (by omega)
   rw[Wd];omega
theorem Wf{sg:List Sg}{n:Nat}(hs:Dk sg (n:Int)=false):∀ {m:Nat},n<m→(Eh sg m)[EZ sg n]? =some (sgO sg n)
 |0,h=>by omega
 |m+1,h=>by
  by_cases e:n=m
  ·subst e
   rw[Eh,hs]
   simp only[Bool.false_eq_true,if_false]
   unfold EZ
   rw[List.getElem?_append_right (Nat.le_refl _)]
   simp
  ·have h1:=Wf hs (m:=m) (by omega)
   rw[Eh]
   split
   ·exact h1
   ·rw[List.getElem?_append_left (Ds h1).1];exact h1
theorem a3n{sg:List Sg}:∀ {n i:Nat},(lbN sg i n).length+EZ sg i=EZ sg (i+n)
 |0,i=>by simp [lbN]
 |n+1,i=>by
  have h:=a3n (sg:=sg) (n:=n) (i:=i+1)
  rw[lbN,List.length_append]
  rw[show i+(n+1)=i+1+n by omega,←h,Wd]
  rw[show((i+1:Nat):Int)=(i:Int)+1 by omega]
  split<;>simp<;>omega
theorem a3o{sg:List Sg}{i j:Int}(h0:0≤i)(h:i≤j):(lb sg i j).length+EZ sg i.toNat=EZ sg j.toNat:=by
 have:=a3n (sg:=sg) (n:=(j-i).toNat) (i:=i.toNat)
 rw[show((i.toNat:Nat):Int)=i by omega,show i.toNat+(j-i).toNat=j.toNat by omega] at this
 exact this
structure Rg where
 fr:Int
 to:Int
def rgA:Rg→List AV:=fun r=>[.int .i64 r.fr,.int .i64 r.to]
def Jr(sg:List Sg)(m:Int×Int):Rg:=⟨(sgO sg m.1).pos,(sgO sg (m.2-1)).pos+(sgO sg (m.2-1)).text.length⟩
def DZ(t:List UInt8):List Rg:=match Br t with
 |none=>[]
 |some sg=>match FZ sg with
  |none=>[]
  |some (ms,_)=>ms.map (Jr sg)
theorem a3p{sg:List Sg}{q:Int}(h:IE sg q):Dk sg (q-1)=false:=MX h.2
theorem b4k{sg:List Sg}{q:Int}(h:IE sg q):q≤sg.length:=by
 by_cases hh:q≤sg.length
 ·exact hh
 ·rw[IE,Uf (by omega)] at h;exact(h.1 rfl).elim
theorem MZ{L:List Nd}{sg:List Sg}:∀ {ks:List Int} {ms:List (Int×Int)} {p q:Int},0≤p→OJ L sg p ks ms q→ks.length=ms.length∧∀(i:Nat) k m,ks[i]? =some k→ms[i]? =some m→
 (0≤m.1∧m.1<m.2∧m.2≤sg.length)∧FL L k=lb sg m.1 m.2∧Dk sg m.1=false∧IE sg m.2∧EZ sg m.1.toNat=EZ sg p.toNat+fl (FL L) (ks.take i)
 |[],[],p,q,h0,h=>⟨rfl,fun i k m hk=>by simp at hk⟩
 |[],_::_,_,_,_,h=>h.elim
 |_::_,[],_,_,_,h=>h.elim
 |k::ks,m::ms,p,q,h0,h=>by
  obtain⟨h1,h2,h3,h4,h5,h6⟩:=h
  have hin:=b4k h5
  obtain⟨a1,a2⟩:=MZ (by omega) h6
  refine⟨by simp [a1],fun i k' m' hk hm=> ?_⟩
  match i,hk,hm with
  |0,hk,hm=>
   simp at hk hm;subst hk;subst hm
   rw[h1]
   exact⟨⟨h0,h2,hin⟩,h3,h4,h5,by simp [fl]⟩
  |i+1,hk,hm=>
   obtain⟨b1,b2,b3,b4,b5⟩:=a2 i k' m' (by simpa using hk) (by simpa using hm)
   refine⟨b1,b2,b3,b4,?_⟩
   have:=a3o (sg:=sg) h0 (Int.le_of_lt h2)
   rw[List.take_succ_cons,Mz,h3];omega
theorem b4l{L:List Nd}{sg:List Sg}{ks:List Int}{ms:List (Int×Int)}{q:Int}(h:OJ L sg 0 ks ms q){i:Nat}{k:Int}{m:Int×Int}(hk:ks[i]? =some k)(hm:ms[i]? =some m):
 (Ct sg)[fl (FL L) (ks.take i)]? =some (sgO sg m.1)∧(Ct sg)[fl (FL L) (ks.take i)+(FL L k).length-1]? =some (sgO sg (m.2-1))∧1≤(FL L k).length∧fl (FL L) (ks.take i)+(FL L k).length≤(Ct sg).length:=by
 obtain⟨b1,b2,b3,b4,b5⟩:=(MZ (Int.le_refl _) h).2 i k m hk hm
 have e0:EZ sg (Int.toNat 0)=0:=rfl
 rw[e0] at b5
 have hl:=a3o (sg:=sg) b1.1 (Int.le_of_lt b1.2.1)
 rw[←b2] at hl
 have e1:((m.1.toNat:Nat):Int)=m.1:=by omega
 have e2:(((m.2-1).toNat:Nat):Int)=m.2-1:=by omega
 have g1:=Wf (sg:=sg) (n:=m.1.toNat) (by rw[e1];exact b3) (m:=sg.length) (by omega)
 have g2:=Wf (sg:=sg) (n:=(m.2-1).toNat) (by rw[e2];exact a3p b4) (m:=sg.length) (by omega)
 have c2:=Wd (sg:=sg) (n:=(m.2-1).toNat)
 rw[e2,a3p b4] at c2
 rw[show(m.2-1).toNat+1=m.2.toNat by omega] at c2
 simp only[Bool.false_eq_true,if_false] at c2
 have c3:=We (sg:=sg) (m:=m.1.toNat) (n:=(m.2-1).toNat) (by omega)
 have c4:=We (sg:=sg) (m:=m.2.toNat) (n:=sg.length) (by omega)
 rw[e1] at g1
 rw[e2] at g2
 refine⟨?_,?_,by omega,?_⟩
 ·rw[show fl (FL L) (ks.take i)=EZ sg m.1.toNat by omega];exact g1
 ·rw[show fl (FL L) (ks.take i)+(FL L k).length-1=EZ sg (m.2-1).toNat by omega];exact g2
 ·show fl (FL L) (ks.take i)+(FL L k).length≤EZ sg sg.length
  omega
end Go.My
end
section
set_option linter.unusedVariables false
set_option linter.unusedSimpArgs false
namespace Go.My
open Go.Eng Go.Proofs
variable {G:GInv}
end Go.My
end
section
set_option linter.unusedVariables false
set_option linter.unusedSimpArgs false
namespace Go.My
open Go.Eng Go.Proofs
variable {G:GInv}
structure Gr where
 notes:List Int
 member:Int
end Go.My
end
section
set_option linter.unusedVariables false
set_option linter.unusedSimpArgs false
namespace Go.My
open Go.Eng
section
variable {α:Type} (lt:α→α→Bool)
variable {lt}
end
end Go.My
end
section
set_option linter.unusedVariables false
set_option linter.unusedSimpArgs false
namespace Go.My
open Go.Eng Go.Proofs
variable {G:GInv}
end Go.My
end
section
set_option linter.unusedVariables false
set_option linter.unusedSimpArgs false
namespace Go.My
open Go.Eng Go.Proofs
variable {G:GInv}
end Go.My
end
section
set_option linter.unusedVariables false
set_option linter.unusedSimpArgs false
namespace Go.My
open Go.Eng Go.Proofs
variable {G:GInv}
section
variable {α:Type}
def Bv(sz:α→Nat):List α→Int
 |[]=>0
 |g::l=>sz g+Bv sz l
def gMk(mk:Int→α→α)(sz:α→Nat)(k:Int):List α→List α
 |[]=>[]
 |g::l=>mk k g::gMk mk sz (k+sz g) l
variable {mk:Int→α→α} {sz:α→Nat}
theorem Wg:∀ {l:List α} {g:α},Bv sz (l++[g])=Bv sz l+sz g
 |[],g=>by simp [Bv]
 |x::l,g=>by simp only[List.cons_append,Bv];rw[Wg];omega
theorem a3q:∀ {l:List α} {g:α} {k:Int},gMk mk sz k (l++[g])=gMk mk sz k l++[mk (k+Bv sz l) g]
 |[],g,k=>by simp [gMk,Bv]
 |x::l,g,k=>by
  simp only[List.cons_append,gMk,Bv];rw[a3q]
  rw[show k+(sz x:Int)+Bv sz l=k+(sz x+Bv sz l) by omega]
theorem OL:∀ {l:List α} {k:Int},(gMk mk sz k l).length=l.length
 |[],k=>rfl
 |x::l,k=>by simp [gMk,OL]
theorem a3r:∀ {l:List α} {k:Int} {i:Nat} {g:α},l[i]? =some g→(gMk mk sz k l)[i]? =some (mk (k+Bv sz (l.take i)) g)
 |[],k,i,g,h=>by simp at h
 |x::l,k,0,g,h=>by simp at h;subst h;simp [gMk,Bv]
 |x::l,k,i+1,g,h=>by
  simp only[gMk,List.getElem?_cons_succ,List.take_succ_cons,Bv] at h ⊢
  rw[a3r h];congr 2;omega
theorem a3s:∀ {l:List α} {n:Nat},(∀g∈l,sz g≤n)→0≤Bv sz l∧Bv sz l≤l.length*n
 |[],n,h=>by simp [Bv]
 |x::l,n,h=>by
  have h1:=h x (by simp)
  have h2:=a3s (l:=l) (n:=n) fun g hg=>h g (by simp [hg])
  rw[Bv,List.length_cons]
  have e:((l.length+1:Nat):Int)*(n:Int)=l.length*n+n:=by rw[Int.natCast_add,Int.add_mul];simp
  rw[e];omega
theorem b4m{l:List α}{k:Int}{i:Nat}{g:α}(h:l[i]? =some g):(gMk mk sz k (l.take i)++l.drop i).set i (mk (k+Bv sz (l.take i)) g)=gMk mk sz k (l.take (i+1))++l.drop (i+1):=by
 have hi:=(Ds h).1
 have e:(gMk mk sz k (l.take i)).length=i:=by rw[OL,List.length_take];omega
 rw[List.set_append_right _ _ (by rw[e];exact Nat.le_refl i),e,Nat.sub_self,KC h,List.set_cons_zero,DC h,a3q]
 simp
theorem b4n{L:List α}{i:Nat}{a b:α}(hb:(L.set i a)[i]? =some b):a=b:=by
 rw[List.getElem?_set] at hb
 split at hb
 ·split at hb
  ·exact Option.some.inj hb
  ·cases hb
 ·rename_i h;exact(h rfl).elim
def gSt(mk:Int→α→α)(sz:α→Nat)(k:Int)(l:List α)(i:Int):List α:=gMk mk sz k (l.take i.toNat)++l.drop i.toNat
def qgB(sz:α→Nat)(l:List α):Prop:=l.length≤1048576∧∀g∈l,sz g≤1048600
def qgI(sz:α→Nat)(l:List α)(i:Int):Prop:=qgB sz l∧0≤i∧i≤l.length
theorem Wh{k i:Int}{l:List α}(h:qgI sz l i):(gSt mk sz k l i).length=l.length:=by
 have:=h.2
 rw[gSt,List.length_append,OL,List.length_take,List.length_drop];omega
theorem Wi{k i:Int}{l:List α}{g:α}(h:qgI sz l i)(hg:(gSt mk sz k l i)[i.toNat]? =some g):l[i.toNat]? =some g:=by
 have hlt:=(Ds hg).1
 rw[Wh h] at hlt
 have hl:(gMk mk sz k (l.take i.toNat)).length=i.toNat:=by rw[OL,List.length_take];omega
 rw[gSt,List.getElem?_append_right (by omega),hl,Nat.sub_self] at hg
 simpa using hg
theorem a3t{i:Int}{l:List α}(h:qgI sz l i):0≤Bv sz (l.take i.toNat)∧Bv sz (l.take i.toNat)≤2000000000000:=by
 have h1:= @a3s _ sz (l.take i.toNat) 1048600 fun g hg=>h.1.2 g (List.mem_of_mem_take hg)
 have h2:(l.take i.toNat).length≤1048576:=by rw[List.length_take];have:=h.1.1;omega
 omega
theorem a3u{k i:Int}{l:List α}(h:qgI sz l i)(hl:¬i<((gSt mk sz k l i).length:Int)):gSt mk sz k l i=gMk mk sz k l∧k+Bv sz (l.take i.toNat)=k+Bv sz l:=by
 rw[Wh h] at hl
 rw[gSt,List.take_of_length_le (by omega),List.drop_eq_nil_of_le (by omega)];simp
theorem b4o{k:Int}{l:List α}:l=gSt mk sz k l 0:=by simp [gSt,gMk]
theorem b4p{k i:Int}{l:List α}{g b:α}(h:qgI sz l i)(hg:(gSt mk sz k l i)[i.toNat]? =some g)(hb:b=mk (k+Bv sz (l.take i.toNat)) g):(gSt mk sz k l i).set i.toNat b=gSt mk sz k l (i+1):=by
 rw[hb,gSt,b4m (Wi h hg),gSt,Dd h.2.1]
theorem b4q{k i:Int}{l:List α}{g:α}(h:qgI sz l i)(hg:(gSt mk sz k l i)[i.toNat]? =some g):k+Bv sz (l.take (i+1).toNat)=k+Bv sz (l.take i.toNat)+sz g:=by
 rw[Dd h.2.1,DC (Wi h hg),Wg];omega
theorem b4r{k i:Int}{l:List α}{g:α}(h:qgI sz l i)(hg:(gSt mk sz k l i)[i.toNat]? =some g):qgI sz l (i+1):=by
 have:=(Ds (Wi h hg)).1
 exact⟨h.1,by have:=h.2.1;omega,by have:=h.2.1;omega⟩
def qhI(mk:Int→α→α)(sz:α→Nat)(k:Int)(l:List α)(i:Int):Prop:=l=gMk mk sz k l∧qgI sz l i
theorem b4s{k i:Int}{l:List α}{g:α}(h:qhI mk sz k l i)(hg:l[i.toNat]? =some g):g=mk (k+Bv sz (l.take i.toNat)) g:=by
 have h1:(gMk mk sz k l)[i.toNat]? =some g:=by rw[←h.1];exact hg
 have h2:=a3r (mk:=mk) (sz:=sz) (k:=k) hg
 rw[h1] at h2;exact Option.some.inj h2
theorem b4t{k i:Int}{l:List α}{g:α}(h:qhI mk sz k l i)(hg:l[i.toNat]? =some g):k+Bv sz (l.take (i+1).toNat)=k+Bv sz (l.take i.toNat)+sz g:=by
 rw[Dd h.2.2.1,DC hg,Wg];omega
theorem b4u{k i:Int}{l:List α}{g:α}(h:qhI mk sz k l i)(hg:l[i.toNat]? =some g):qhI mk sz k l (i+1):=by
 have:=(Ds hg).1
 exact⟨h.1,h.2.1,by have:=h.2.2.1;omega,by have:=h.2.2.1;omega⟩
theorem b4v{k i:Int}{l:List α}(h:qhI mk sz k l i)(hl:¬i<(l.length:Int)):k+Bv sz (l.take i.toNat)=k+Bv sz l:=by
 rw[List.take_of_length_le (by have:=h.2.2.2;omega)]
theorem Wj(hs:∀k g,sz (mk k g)=sz g)(hm:∀k g,mk k (mk k g)=mk k g):∀ {l:List α} {k:Int},gMk mk sz k (gMk mk sz k l)=gMk mk sz k l∧Bv sz (gMk mk sz k l)=Bv sz l
 |[],k=>⟨rfl,rfl⟩
 |g::l,k=>by
  simp only[gMk,Bv,hs,hm]
  have:= @Wj hs hm l (k+sz g)
  rw[this.1,this.2];exact⟨rfl,rfl⟩
theorem a3v(hs:∀k g,sz (mk k g)=sz g):∀ {l:List α} {k:Int} {n:Nat},(∀g∈l,sz g≤n)→∀g∈gMk mk sz k l,sz g≤n
 |[],k,n,h,g,hg=>by cases hg
 |x::l,k,n,h,g,hg=>by
  rcases List.mem_cons.1 hg with e|e
  ·rw[e,hs];exact h x (by simp)
  ·exact a3v hs (fun y hy=>h y (by simp [hy])) g e
theorem b4w(hs:∀k g,sz (mk k g)=sz g){l:List α}{k:Int}(h:qgB sz l):qgB sz (gMk mk sz k l):=⟨by rw[OL];exact h.1,a3v hs h.2⟩
end
end Go.My
end
section
set_option linter.unusedVariables false
set_option linter.unusedSimpArgs false
namespace Go.My
open Go.Eng Go.Proofs
variable {G:GInv}
theorem b4x{a:Int}{b:List UInt8}{c:Int}{d:Bool}{q:Sg→Prop}(h:q ⟨a,b,c,d⟩):∃x:Sg,a=x.kind∧b=x.text∧c=x.pos∧d=x.blank∧q x:=⟨⟨a,b,c,d⟩,rfl,rfl,rfl,rfl,h⟩
def tlr(ns:List Nd)(s:List Sg)(st:List Int):AV:= .box 0 [nds ns,As s,Ab st]
end Go.My
end
section
set_option linter.unusedVariables false
set_option linter.unusedSimpArgs false
namespace Go.My
open Go.Eng
structure Rw where
 stop:Int→Option Nd
 tgt:Int→Int→Int→Int
 par:Int→Int→Int→Bool
end Go.My
end
section
set_option linter.unusedVariables false
set_option linter.unusedSimpArgs false
namespace Go.My
open Go.Eng
theorem a3w{α:Type}(sz:α→Nat):∀l:List α,0≤Bv sz l
 |[]=>Int.le_refl 0
 |x::l=>by have:=a3w sz l;simp only[Bv];omega
end Go.My
end
section
set_option linter.unusedVariables false
set_option linter.unusedSimpArgs false
namespace Go.My
open Go.Eng Go.Proofs
variable {G:GInv}
def fB(n:Nat)(s:List Sg):Prop:=s.length+80000*n≤24080000
def FK(ns:List Nd)(n:Nat)(c:Int):Prop:=Ip ns c∧c<n∧(vis ns n c).length≤300
structure TX where
 ns:List Nd
 s:List Sg
 st:List Int
theorem RN{ns:List Nd}{n:Nat}{c:Int}(h:FK ns n c):(AY ns n c).length≤5400:=by
 have:=ZB h.1 h.2.1
 have:=h.2.2
 omega
theorem b4y{f:Int→List Sg}{m:List UInt8}{l:List Int}{i:Int}{c:Int}(h0:i=0)(hc:l[i.toNat]? =some c):Bh f m (l.take i.toNat)++f c=Bh f m (l.take (i+1).toNat):=by
 subst h0
 rw[Dd (by omega),DC hc];simp [Bh]
theorem b4z{f:Int→List Sg}{m:List UInt8}{l:List Int}{i:Int}{c:Int}(h0:0<i)(hc:l[i.toNat]? =some c):Bh f m (l.take i.toNat)++[mkS m]++f c=Bh f m (l.take (i+1).toNat):=by
 rw[Dd (by omega),DC hc]
 have hlt:=(Ds hc).1
 match hl:l.take i.toNat with
 |[]=>rw[List.take_eq_nil_iff] at hl;rcases hl with hl|hl
      ·omega
      ·subst hl;simp at hc
 |d::t=>simp [Bh]
def Gn(ns:List Nd)(n:Nat)(l:List Int)(s:List Sg):Prop:=ns.length<2^62∧l.length≤12∧(∀c∈l,FK ns n c)∧fB n s∧s.length+80000*n+66000≤24080000
theorem a3x{ns:List Nd}{n:Nat}{l:List Int}{s:List Sg}{m:List UInt8}{j:Nat}(h:Gn ns n l s):(Bh (AY ns n) m (l.take j)).length≤64812∧(((l.take j).flatMap (AY ns n)).length≤64800):=by
 have h1:∀c∈l.take j,(AY ns n c).length≤5400:=fun c hc=>RN (h.2.2.1 c (List.mem_of_mem_take hc))
 have h2:=Ud h1
 have h3:(l.take j).length≤12:=by rw[List.length_take];have:=h.2.1;omega
 have h4:= @Uc (AY ns n) m (l.take j)
 have h5:(l.take j).length*5400≤12*5400:=Nat.mul_le_mul_right _ h3
 have h6:((l.take j).flatMap (AY ns n)).length=fl (AY ns n) (l.take j):=rfl
 omega
theorem Wk{ns:List Nd}{n:Nat}{l:List Int}{s:List Sg}{m:List UInt8}{j:Nat}(h:Gn ns n l s):(s++Bh (AY ns n) m (l.take j)).length+80000*n+1000≤24080000:=by
 have h1:=(@a3x ns n l s m j h).1
 have h2:=h.2.2.2.2
 rw[List.length_append];omega
theorem a3y{ns:List Nd}{n:Nat}{l:List Int}{s:List Sg}{m:List UInt8}{j:Nat}(h:Gn ns n l s):fB n (s++Bh (AY ns n) m (l.take j)):=by
 have:= @Wk ns n l s m j h;unfold fB;omega
theorem a3z{ns:List Nd}{n:Nat}{l:List Int}{s:List Sg}{m t:List UInt8}{j:Nat}(h:Gn ns n l s):fB n (s++Bh (AY ns n) m (l.take j)++List.map mkS [t]):=by
 have:= @Wk ns n l s m j h;unfold fB;rw[List.length_append];simp only[List.map_cons,List.map_nil,List.length_cons,List.length_nil];omega
theorem a3A{ns:List Nd}{n:Nat}{l:List Int}{s:List Sg}{m:List UInt8}{j:Nat}(h:Gn ns n l s):(s++Bh (AY ns n) m (l.take j)).length≤67108864:=by
 have:= @Wk ns n l s m j h;omega
theorem Wl{f:Int→List Sg}{m:List UInt8}{l:List Int}{i:Int}{c:Int}{s:List Sg}(h0:i>0)(hc:l[i.toNat]? =some c):s++Bh f m (l.take i.toNat)++List.map mkS [m]++f c=s++Bh f m (l.take (i+1).toNat):=by
 rw[←b4z h0 hc];simp
theorem a3B{f:Int→List Sg}{m:List UInt8}{l:List Int}{i:Int}{c:Int}{s:List Sg}(h0:¬i>0)(hi:0≤i)(hc:l[i.toNat]? =some c):s++Bh f m (l.take i.toNat)++f c=s++Bh f m (l.take (i+1).toNat):=by
 rw[←b4y (by omega) hc];simp
theorem b4A{ns:List Nd}{n:Nat}{l:List Int}{s:List Sg}{j:Nat}(h:Gn ns n l s):fB n (s++(l.take j).flatMap (AY ns n)):=by
 have h1:=(@a3x ns n l s [] j h).2
 have h2:=h.2.2.2.2
 unfold fB;rw[List.length_append];omega
theorem b4B{f:Int→List Sg}{l:List Int}{i:Int}{c:Int}{s:List Sg}(h0:0≤i)(hc:l[i.toNat]? =some c):s++(l.take i.toNat).flatMap f++f c=s++(l.take (i+1).toNat).flatMap f:=by
 rw[Dd h0,DC hc];simp
end Go.My
end
section
set_option linter.unusedVariables false
set_option linter.unusedSimpArgs false
namespace Go.My
open Go.Eng Go.Proofs
variable {G:GInv}
structure telP (ns:List Nd) (n:Nat) (x:Nd) (s:List Sg):Prop where
 nl:ns.length<2^62
 k12:x.kids.length≤12
 lo:(CW x.kind).1≤x.kids.length
 hi:x.kids.length≤(CW x.kind).2
 kid:∀c∈x.kids,FK ns n c
 rm:s.length+80000*n+80000≤24080000
theorem RO{ns:List Nd}{n:Nat}{l:List Int}(m:List UInt8)(h:∀c∈l,FK ns n c)(hl:l.length≤12):(Bh (AY ns n) m l).length≤64812∧(l.flatMap (AY ns n)).length≤64800:=by
 have h1:∀c∈l,(AY ns n c).length≤5400:=fun c hc=>RN (h c hc)
 have h2:=Ud h1
 have h4:= @Uc (AY ns n) m l
 have h5:l.length*5400≤12*5400:=Nat.mul_le_mul_right _ hl
 have h6:(l.flatMap (AY ns n)).length=fl (AY ns n) l:=rfl
 omega
theorem a3C{x:Nd}{c:Int}(h:x.kids[Int.toNat 0]? =some c):c=kd x 0:=(MA h).symm
theorem a3D{x:Nd}{c:Int}(h:x.kids[Int.toNat 1]? =some c):c=kd x 1:=(MA h).symm
theorem a3E{x:Nd}{c:Int}(h:x.kids[Int.toNat 2]? =some c):c=kd x 2:=(MA h).symm
theorem a3F{x:Nd}{c:Int}(h:x.kids[Int.toNat ((x.kids.length:Int)-1)]? =some c):c=kd x (x.kids.length-1):=by
 have e:Int.toNat ((x.kids.length:Int)-1)=x.kids.length-1:=by omega
 rw[e] at h;exact(MA h).symm
theorem a3G{ns:List Nd}{n j:Nat}{x:Nd}{s s':List Sg}(h:telP ns n x s)(hs:s'.length≤s.length+11000):Gn ns n (x.kids.take j) s':=by
 have h1:=h.rm;have h2:=h.k12
 refine⟨h.nl,by rw[List.length_take];omega,fun c hc=>h.kid c (List.mem_of_mem_take hc),by unfold fB;omega,by omega⟩
theorem a3H{ns:List Nd}{n j:Nat}{x:Nd}{s s':List Sg}(h:telP ns n x s)(hs:s'.length≤s.length+11000):Gn ns n (x.kids.drop j) s':=by
 have h1:=h.rm;have h2:=h.k12
 refine⟨h.nl,by rw[List.length_drop];omega,fun c hc=>h.kid c (List.mem_of_mem_drop hc),by unfold fB;omega,by omega⟩
theorem LH{ns:List Nd}{n:Nat}{x:Nd}{s s':List Sg}(h:telP ns n x s)(hs:s'.length≤s.length+11000):Gn ns n x.kids s':=by
 have h1:=h.rm;have h2:=h.k12
 refine⟨h.nl,h2,fun c hc=>h.kid c hc,by unfold fB;omega,by omega⟩
structure telL (ns:List Nd) (n:Nat) (x:Nd):Prop where
 a:∀i,i<x.kids.length→(AY ns n (kd x i)).length≤5400
 t:∀j m,(Bh (AY ns n) m (x.kids.take j)).length≤64812
 d:∀j m,(Bh (AY ns n) m (x.kids.drop j)).length≤64812
 l:∀m,(Bh (AY ns n) m x.kids).length≤64812
 e:(x.kids.flatMap (AY ns n)).length≤64800
theorem a3I{ns:List Nd}{n:Nat}{x:Nd}{s:List Sg}(h:telP ns n x s):telL ns n x:=by
 have h2:=h.k12
 refine⟨fun i hi=> ?_,fun j m=>(RO m (fun c hc=>h.kid c (List.mem_of_mem_take hc)) (by rw[List.length_take];omega)).1,fun j m=>(RO m (fun c hc=>h.kid c (List.mem_of_mem_drop hc)) (by rw[List.length_drop];omega)).1,fun m=>(RO m h.kid h2).1,(RO [] h.kid h2).2⟩
 have hm:x.kids[i]? =some x.kids[i]:=List.getElem?_eq_getElem hi
 rw[MA hm]
 exact RN (h.kid _ (List.mem_of_getElem? hm))
theorem RP(n:Nat):Int.toNat ((n:Int)-1)=n-1:=by omega
end Go.My
end
section
set_option linter.unusedVariables false
set_option linter.unusedSimpArgs false
set_option maxHeartbeats 8000000
namespace Go.My
open Go.Eng Go.Proofs
variable {G:GInv}
end Go.My
end
section
set_option linter.unusedVariables false
set_option linter.unusedSimpArgs false
set_option maxHeartbeats 8000000
namespace Go.My
open Go.Eng Go.Proofs
variable {G:GInv}
theorem b4C{n:Nat}{s:List Sg}(h:fB (n+1) s):s.length+80000*n+80000≤24080000:=by
 have e:80000*(n+1)=80000*n+80000:=Nat.mul_succ _ _
 rw[fB,e] at h
 rw[Nat.add_assoc];exact h
theorem Wm{ns:List Nd}{n:Nat}{c:Int}:∀ {l:List Int},c∈l→(vis ns n c).length≤JU ns n l
 |d::l,h=>by
  rw[Zz]
  rcases List.mem_cons.1 h with h|h
  ·rw[h];omega
  ·have:=Wm (ns:=ns) (n:=n) h;omega
theorem b4D{ns:List Nd}{n:Nat}{k:Int}{s:List Sg}(h1:BE ns)(h:FK ns (n+1) k)(h4:fB (n+1) s):telP ns n (An ns k) s:=by
 have hk:=FT (Lh h.1)
 have hs:=(NW h.1).2
 have hv:=h.2.2
 rw[Ub] at hv
 refine⟨h1.1,hk.2.1,hs.1,hs.2,fun c hc=> ?_,b4C h4⟩
 have hm:=NV h.1 hc
 have h5:=h.2.1
 refine⟨hm.1,by omega,?_⟩
 have:=Wm (ns:=ns) (n:=n) hc
 simp only[EV] at hv
 omega
end Go.My
end
section
set_option linter.unusedVariables false
set_option linter.unusedSimpArgs false
namespace Go.My
open Go.Eng
end Go.My
end
section
set_option linter.unusedVariables false
set_option linter.unusedSimpArgs false
namespace Go.My
open Go.Eng Go.Proofs
variable {G:GInv}
end Go.My
end
section
set_option linter.unusedVariables false
set_option linter.unusedSimpArgs false
namespace Go.My
open Go.Eng Go.Proofs
variable {G:GInv}
end Go.My
end
section
set_option linter.unusedVariables false
set_option linter.unusedSimpArgs false
namespace Go.My
open Go.Eng Go.Proofs
variable {G:GInv}
end Go.My
end
section
set_option linter.unusedVariables false
set_option linter.unusedSimpArgs false
set_option maxHeartbeats 8000000
namespace Go.My
open Go.Eng Go.Proofs
variable {G:GInv}
theorem b4E{ns:List Nd}(h:De ns=true):FK ns 301 ((ns.length:Int)-1):=by
 obtain⟨h1,h2,h3,h4⟩:=JT h
 refine⟨h4,by omega,a8F h⟩
end Go.My
end
section
set_option linter.unusedVariables false
set_option linter.unusedSimpArgs false
set_option maxHeartbeats 8000000
namespace Go.My
open Go.Eng Go.Proofs
variable {G:GInv}
def Gp:Sig:= {X:=List Nd×List Sg×List Int×Int×List UInt8,args:=fun x=>[tlr x.1 x.2.1 x.2.2.1,.int .i64 x.2.2.2.1,.str x.2.2.2.2],pre:=fun x=>x.2.1.length≤2^26,Y:=Unit,post:=fun x y=>True,res:=fun x y=> .tup [],outs:=fun x y=>[tlr x.1 (x.2.1++[sg0 x.2.2.2.1 x.2.2.2.2]) x.2.2.1,.top,.top],keep:=true}
theorem RQ:Aj G Tryz.prog 63 Gp:=
 vcFun_okP [] [(36,⟨Sg,sgA⟩)] false (fun x=>[]) Tryz.func63 rfl (by decide) trivial (fun(x:List Nd×List Sg×List Int×Int×List UInt8)=>True∧∃(x_1:Sg),x.2.2.2.1=x_1.kind∧x.2.2.2.2=x_1.text∧(0:Int)=x_1.pos∧false=x_1.blank∧∃(zs:List Sg),As [x_1]=As zs∧Be sgA∧AS (List.length x.2.1+List.length zs) (40:Nat)∧∃(y:Unit),True∧nds x.1=nds x.1∧As (x.2.1++zs)=As (x.2.1++[sg0 x.2.2.2.1 x.2.2.2.2])∧Ab x.2.2.1=Ab x.2.2.1∧True) (fun x=>by kernel_rfl) fun(x:List Nd×List Sg×List Int×Int×List UInt8) (hx:x.2.1.length≤2^26)=>(by
 dsimp only[nds,Ab,As]
 have hx:x.2.1.length≤2^26:=hx
 (repeat' first|refine b4x ?_|(with_reducible first|rfl|exact True.intro|apply AK|apply And.intro|((first|apply Az|apply AI|apply AA|apply AJ)<;>intro _))|(apply Aw<;>intro _)|apply AH|refine Ae () ?_ ?_|((first|apply AO|apply AN|apply AM|apply AL|apply AG|apply AF|apply AE|apply AD|apply AC)<;>try dsimp only)|apply Ae|(refine Prod.forall.2 ?_;intro _;try dsimp only)|(intro _;try dsimp only))
 all_goals first
  |rfl
  |((try simp only[AR,AS,List.length_append,List.length_cons,List.length_nil]);omega)
  |skip)
def Ch:Sig:= {X:=List Nd×List Sg×List Int×List UInt8,args:=fun x=>[tlr x.1 x.2.1 x.2.2.1,.str x.2.2.2],pre:=fun x=>x.2.1.length≤2^26,Y:=Unit,post:=fun x y=>True,res:=fun x y=> .tup [],outs:=fun x y=>[tlr x.1 (x.2.1++[mkS x.2.2.2]) x.2.2.1,.top],keep:=true}
theorem RR:Aj G Tryz.prog 60 Ch:=
 vcFun_okP [(63,0,Gp)] [] false (fun x=>[]) Tryz.func60 rfl (by decide) ⟨RQ,trivial⟩ (fun(x:List Nd×List Sg×List Int×List UInt8)=>True∧cA Gp [.box 0 [nds x.1,As x.2.1,Ab x.2.2.1],.int .i64 (4:Int),.str x.2.2.2] fun x_1 y=>rA Ch x [.tup [],.box 0 [nds x_1.1,As (x_1.2.1++[sg0 x_1.2.2.2.1 x_1.2.2.2.2]),Ab x_1.2.2.1],.top]) (fun x=>by kernel_rfl) fun(x:List Nd×List Sg×List Int×List UInt8) (hx:x.2.1.length≤2^26)=>(by
 dsimp only[cA,Bg,nds,Ab,As,rA,Ch,Gp,Bj,tlr,Av,AB,mvL,lnL,mvE,lnE]
 have hx:x.2.1.length≤2^26:=hx
 (repeat' first|(with_reducible first|rfl|exact True.intro|apply AK|apply And.intro|((first|apply Az|apply AI|apply AA|apply AJ)<;>intro _))|(apply Aw<;>intro _)|apply AH|refine Ae () ?_ ?_|((first|apply AO|apply AN|apply AM|apply AL|apply AG|apply AF|apply AE|apply AD|apply AC)<;>try dsimp only)|apply Ae|(refine Prod.forall.2 ?_;intro _;try dsimp only)|(intro _;try dsimp only))
 all_goals first
  |rfl
  |exact hx)
def Ei:Sig:= {X:=List Nd×List Sg×List Int×List UInt8,args:=fun x=>[tlr x.1 x.2.1 x.2.2.1,.str x.2.2.2],pre:=fun x=>x.2.1.length≤2^26,Y:=Unit,post:=fun x y=>True,res:=fun x y=> .tup [],outs:=fun x y=>[tlr x.1 (x.2.1++[wdS x.2.2.2]) x.2.2.1,.top],keep:=true}
theorem Wn:Aj G Tryz.prog 59 Ei:=
 vcFun_okP [(63,0,Gp)] [] false (fun x=>[]) Tryz.func59 rfl (by decide) ⟨RQ,trivial⟩ (fun(x:List Nd×List Sg×List Int×List UInt8)=>True∧cA Gp [.box 0 [nds x.1,As x.2.1,Ab x.2.2.1],.int .i64 (1:Int),.str x.2.2.2] fun x_1 y=>rA Ei x [.tup [],.box 0 [nds x_1.1,As (x_1.2.1++[sg0 x_1.2.2.2.1 x_1.2.2.2.2]),Ab x_1.2.2.1],.top]) (fun x=>by kernel_rfl) fun(x:List Nd×List Sg×List Int×List UInt8) (hx:x.2.1.length≤2^26)=>(by
 dsimp only[cA,Bg,nds,Ab,As,rA,Gp,Ei,Bj,tlr,Av,AB,mvL,lnL,mvE,lnE]
 have hx:x.2.1.length≤2^26:=hx
 (repeat' first|(with_reducible first|rfl|exact True.intro|apply AK|apply And.intro|((first|apply Az|apply AI|apply AA|apply AJ)<;>intro _))|(apply Aw<;>intro _)|apply AH|refine Ae () ?_ ?_|((first|apply AO|apply AN|apply AM|apply AL|apply AG|apply AF|apply AE|apply AD|apply AC)<;>try dsimp only)|apply Ae|(refine Prod.forall.2 ?_;intro _;try dsimp only)|(intro _;try dsimp only))
 all_goals first
  |rfl
  |exact hx)
def Ci(n:Nat):Sig:= {X:=List Nd×List Sg×List Int×Int,args:=fun x=>[tlr x.1 x.2.1 x.2.2.1,.int .i64 x.2.2.2],pre:=fun x=>BE x.1∧FK x.1 n x.2.2.2∧fB n x.2.1,Y:=List Int,post:=fun x y=>y.length=x.2.2.1.length,res:=fun x y=> .tup [],outs:=fun x y=>[tlr x.1 (x.2.1++AY x.1 n x.2.2.2) y,.top],keep:=true}
def LI(n:Nat):Sig:= {X:=List Nd×List Sg×List Int×List UInt8×Int,args:=fun x=>[tlr x.1 x.2.1 x.2.2.1,.str x.2.2.2.1,.int .i64 x.2.2.2.2],pre:=fun x=>BE x.1∧FK x.1 n x.2.2.2.2∧x.2.1.length+80000*n+80000≤24080000,Y:=List Int,post:=fun x y=>y.length=x.2.2.1.length,res:=fun x y=> .tup [],outs:=fun x y=>[tlr x.1 (x.2.1++[wdS x.2.2.2.1]++[mkS [40]]++AY x.1 n x.2.2.2.2++[mkS [41]]) y,.top,.top],keep:=true}
theorem b4F(n:Nat)(hc:Aj G Go.Proofs.Tryz.prog 36 (Ci n)):Aj G Tryz.prog 62 (LI n):=
 vcFun_okP [(36,0,(Ci n)),(60,0,Ch),(59,0,Ei)] [] false (fun x=>[]) Tryz.func62 rfl (by decide) ⟨hc,RR,Wn,trivial⟩ (fun(x:List Nd×List Sg×List Int×List UInt8×Int)=>True∧cA Ei [.box 0 [nds x.1,As x.2.1,Ab x.2.2.1],.str x.2.2.2.1] fun x_1 y=>cA Ch [.box 0 [nds x_1.1,As (x_1.2.1++[wdS x_1.2.2.2]),Ab x_1.2.2.1],.str #[(40:UInt8)].toList] fun x_2 y=>cA (Ci n) [.box 0 [nds x_2.1,As (x_2.2.1++[mkS x_2.2.2.2]),Ab x_2.2.2.1],.int .i64 x.2.2.2.2] fun x_3 y=>cA Ch [.box 0 [nds x_3.1,As (x_3.2.1++AY x_3.1 n x_3.2.2.2),Ab y],.str #[(41:UInt8)].toList] fun x_4 y=>rA (LI n) x [.tup [],.box 0 [nds x_4.1,As (x_4.2.1++[mkS x_4.2.2.2]),Ab x_4.2.2.1],.top,.top]) (fun x=>by kernel_rfl) fun(x:List Nd×List Sg×List Int×List UInt8×Int) (hx:BE x.1∧FK x.1 n x.2.2.2.2∧x.2.1.length+80000*n+80000≤24080000)=>(by
 dsimp only[cA,Bg,nds,Ab,As,rA,LI,Ch,Ci,Ei,Bj,tlr,Av,AB,mvL,lnL,mvE,lnE]
 obtain⟨h1,h2,h3⟩:=hx
 have hk:=RN h2
 (repeat' first|(with_reducible first|rfl|exact True.intro|apply AK|apply And.intro|((first|apply Az|apply AI|apply AA|apply AJ)<;>intro _))|(apply Aw<;>intro _)|apply AH|refine Ae () ?_ ?_|((first|apply AO|apply AN|apply AM|apply AL|apply AG|apply AF|apply AE|apply AD|apply AC)<;>try dsimp only)|apply Ae|(refine Prod.forall.2 ?_;intro _;try dsimp only)|(intro _;try dsimp only))
 all_goals first
  |rfl
  |exact h1
  |exact h2
  |assumption
  |(try unfold fB
    try simp only[List.length_append,List.length_cons,List.length_nil]
    omega)
  |skip)
def HW(n:Nat):Sig:= {X:=List Nd×List Sg×List Int×List Int,args:=fun x=>[tlr x.1 x.2.1 x.2.2.1,AQ x.2.2.2],pre:=fun x=>BE x.1∧Gn x.1 n x.2.2.2 x.2.1,Y:=List Int,post:=fun x y=>y.length=x.2.2.1.length,res:=fun x y=> .tup [],outs:=fun x y=>[tlr x.1 (x.2.1++Bh (AY x.1 n) [44] x.2.2.2) y,.top],keep:=true}
def OM(n:Nat)(x:List Nd×List Sg×List Int×List Int):LS:= {ι:=Int×List Int,inv:=fun i=>(0≤i.1∧i.1≤x.2.2.2.length)∧i.2.length=x.2.2.1.length,regs:=fun i=>[(0,tlr x.1 (x.2.1++Bh (AY x.1 n) [44] (x.2.2.2.take i.1.toNat)) i.2),(1,AQ x.2.2.2),(4,.int .i64 i.1)],als:=[],meas:=fun i=>x.2.2.2.length-i.1.toNat}
theorem a3J(n:Nat)(hc:Aj G Go.Proofs.Tryz.prog 36 (Ci n)):Aj G Tryz.prog 64 (HW n):=
 vcFun_okP [(36,0,(Ci n)),(60,0,Ch)] [] false (fun x=>[(1,OM n x)]) Tryz.func64 rfl (by decide) ⟨hc,RR,trivial⟩ (fun(x:List Nd×List Sg×List Int×List Int)=>True∧eA (OM n x) [.box 0 [nds x.1,As x.2.1,Ab x.2.2.1],AQ x.2.2.2,.int .i64 (0:Int)]∧∀(i:Int×List Int),((0:Int)≤i.1∧i.1≤(↑(List.length x.2.2.2):Int))∧List.length i.2=List.length x.2.2.1→Aa (decide (i.1<(↑(List.length x.2.2.2):Int))) (Aa (decide (i.1>(0:Int))) (cA Ch [.box 0 [nds x.1,As (x.2.1++Bh (AY x.1 n) [(44:UInt8)] (List.take (Int.toNat i.1) x.2.2.2)),Ab i.2],.str #[(44:UInt8)].toList] fun x_1 y=>((0:Int)≤i.1∧i.1<(↑(List.length x.2.2.2):Int))∧∀(e:Int),x.2.2.2[Int.toNat i.1]? =some e→cA (Ci n) [.box 0 [nds x_1.1,As (x_1.2.1++[mkS x_1.2.2.2]),Ab x_1.2.2.1],.int .i64 e] fun x_2 y=>inR IntKind.i64 (i.1+(1:Int))∧eN (OM n x) i [.box 0 [nds x_2.1,As (x_2.2.1++AY x_2.1 n x_2.2.2.2),Ab y],AQ x.2.2.2,.int .i64 (i.1+(1:Int))]) (((0:Int)≤i.1∧i.1<(↑(List.length x.2.2.2):Int))∧∀(e:Int),x.2.2.2[Int.toNat i.1]? =some e→cA (Ci n) [.box 0 [nds x.1,As (x.2.1++Bh (AY x.1 n) [(44:UInt8)] (List.take (Int.toNat i.1) x.2.2.2)),Ab i.2],.int .i64 e] fun x_1 y=>inR IntKind.i64 (i.1+(1:Int))∧eN (OM n x) i [.box 0 [nds x_1.1,As (x_1.2.1++AY x_1.1 n x_1.2.2.2),Ab y],AQ x.2.2.2,.int .i64 (i.1+(1:Int))])) (rA (HW n) x [.tup [],.box 0 [nds x.1,As (x.2.1++Bh (AY x.1 n) [(44:UInt8)] (List.take (Int.toNat i.1) x.2.2.2)),Ab i.2],.top])) (fun x=>by kernel_rfl) fun(x:List Nd×List Sg×List Int×List Int) (hx:BE x.1∧Gn x.1 n x.2.2.2 x.2.1)=>(by
 dsimp only[cA,eA,eN,OM,AQ,Bg,nds,Ab,As,rA,Ch,Ci,HW,Bj,tlr,Av,AB,mvL,lnL,mvE,lnE,Bw]
 obtain⟨h1,h3⟩:=hx
 have hll:=h3.2.1
 (repeat' first|(with_reducible first|rfl|exact True.intro|apply AK|apply And.intro|((first|apply Az|apply AI|apply AA|apply AJ)<;>intro _))|(apply Aw<;>intro _)|apply AH|refine Ae () ?_ ?_|((first|apply AO|apply AN|apply AM|apply AL|apply AG|apply AF|apply AE|apply AD|apply AC)<;>try dsimp only)|apply Ae|(refine Prod.forall.2 ?_;intro _;try dsimp only)|(intro _;try dsimp only))
 all_goals first
  |rfl
  |omega
  |exact h1
  |(simp [Bh];done)
  |exact h3.2.2.1 _ (CR ‹_›)
  |(rw[List.take_of_length_le (by omega)];done)
  |exact a3y h3
  |exact a3z h3
  |exact a3A h3
  |exact Wl ‹_› ‹_›
  |exact a3B ‹_› (by omega) ‹_›
  |((try simp only[AR]);omega)
  |skip)
def Js(n:Nat):Sig:= {X:=List Nd×List Sg×List Int×List Int,args:=fun x=>[tlr x.1 x.2.1 x.2.2.1,AQ x.2.2.2],pre:=fun x=>BE x.1∧Gn x.1 n x.2.2.2 x.2.1,Y:=List Int,post:=fun x y=>y.length=x.2.2.1.length,res:=fun x y=> .tup [],outs:=fun x y=>[tlr x.1 (x.2.1++x.2.2.2.flatMap (AY x.1 n)) y,.top],keep:=true}
def RS(n:Nat)(x:List Nd×List Sg×List Int×List Int):LS:= {ι:=Int×List Int,inv:=fun i=>(0≤i.1∧i.1≤x.2.2.2.length)∧i.2.length=x.2.2.1.length,regs:=fun i=>[(0,tlr x.1 (x.2.1++(x.2.2.2.take i.1.toNat).flatMap (AY x.1 n)) i.2),(1,AQ x.2.2.2),(4,.int .i64 i.1)],als:=[],meas:=fun i=>x.2.2.2.length-i.1.toNat}
theorem b4G(n:Nat)(hc:Aj G Go.Proofs.Tryz.prog 36 (Ci n)):Aj G Tryz.prog 61 (Js n):=
 vcFun_okP [(36,0,(Ci n))] [] false (fun x=>[(1,RS n x)]) Tryz.func61 rfl (by decide) ⟨hc,trivial⟩ (fun(x:List Nd×List Sg×List Int×List Int)=>True∧eA (RS n x) [.box 0 [nds x.1,As x.2.1,Ab x.2.2.1],AQ x.2.2.2,.int .i64 (0:Int)]∧∀(i:Int×List Int),((0:Int)≤i.1∧i.1≤(↑(List.length x.2.2.2):Int))∧List.length i.2=List.length x.2.2.1→Aa (decide (i.1<(↑(List.length x.2.2.2):Int))) (((0:Int)≤i.1∧i.1<(↑(List.length x.2.2.2):Int))∧∀(e:Int),x.2.2.2[Int.toNat i.1]? =some e→cA (Ci n) [.box 0 [nds x.1,As (x.2.1++List.flatMap (AY x.1 n) (List.take (Int.toNat i.1) x.2.2.2)),Ab i.2],.int .i64 e] fun x_1 y=>inR IntKind.i64 (i.1+(1:Int))∧eN (RS n x) i [.box 0 [nds x_1.1,As (x_1.2.1++AY x_1.1 n x_1.2.2.2),Ab y],AQ x.2.2.2,.int .i64 (i.1+(1:Int))]) (rA (Js n) x [.tup [],.box 0 [nds x.1,As (x.2.1++List.flatMap (AY x.1 n) (List.take (Int.toNat i.1) x.2.2.2)),Ab i.2],.top])) (fun x=>by kernel_rfl) fun(x:List Nd×List Sg×List Int×List Int) (hx:BE x.1∧Gn x.1 n x.2.2.2 x.2.1)=>(by
 dsimp only[cA,eA,eN,RS,AQ,Bg,nds,Ab,As,rA,Js,Ci,Bj,tlr,Av,AB,mvL,lnL,mvE,lnE,Bw]
 obtain⟨h1,h3⟩:=hx
 have hll:=h3.2.1
 (repeat' first|(with_reducible first|rfl|exact True.intro|apply AK|apply And.intro|((first|apply Az|apply AI|apply AA|apply AJ)<;>intro _))|(apply Aw<;>intro _)|apply AH|refine Ae () ?_ ?_|((first|apply AO|apply AN|apply AM|apply AL|apply AG|apply AF|apply AE|apply AD|apply AC)<;>try dsimp only)|apply Ae|(refine Prod.forall.2 ?_;intro _;try dsimp only)|(intro _;try dsimp only))
 all_goals first
  |rfl
  |omega
  |exact h1
  |(simp;done)
  |exact h3.2.2.1 _ (CR ‹_›)
  |exact b4A h3
  |exact b4B (by omega) ‹_›
  |(rw[List.take_of_length_le (by omega)];done)
  |((try simp only[AR]);omega)
  |skip)
end Go.My
end
section
set_option linter.unusedVariables false
set_option linter.unusedSimpArgs false
set_option maxHeartbeats 8000000
namespace Go.My
open Go.Eng Go.Proofs
variable {G:GInv}
def ON(n:Nat)(x:List Nd×List Sg×List Int×Nd):LS:= {
 ι:=Int×List Int,inv:=fun i=>(0≤i.1∧i.1≤x.2.2.2.kids.length)∧i.2.length=x.2.2.1.length∧x.2.2.2.kind=7,
 regs:=fun i=>[(0,tlr x.1 (x.2.1++Bh (AY x.1 n) x.2.2.2.text (x.2.2.2.kids.take i.1.toNat)) i.2),(3,.box 0 (ndA false x.2.2.2)),(4,.int .i64 (x.2.2.2.kids.length-1)),(5,.int .i64 i.1)],als:=[],meas:=fun i=>x.2.2.2.kids.length-i.1.toNat}
def RT(n:Nat)(x:List Nd×List Sg×List Int×Nd):LS:= {
 ι:=Int×List Int,inv:=fun i=>(1≤i.1∧i.1≤x.2.2.2.kids.length)∧i.2.length=x.2.2.1.length∧x.2.2.2.kind=10,
 regs:=fun i=>[(0,tlr x.1 (x.2.1++Bh (AY x.1 n) [46,46] (x.2.2.2.kids.take i.1.toNat)) i.2),(3,.box 0 (ndA false x.2.2.2)),(4,.int .i64 (x.2.2.2.kids.length-1)),(6,.int .i64 i.1)],als:=[],meas:=fun i=>x.2.2.2.kids.length-i.1.toNat}
theorem b4H{f:Int→List Sg}{m:List UInt8}{l:List Int}{i:Int}{c:Int}{s:List Sg}(h0:1≤i)(hc:l[i.toNat]? =some c):s++Bh f m (l.take i.toNat)++[mkS m]++f c=s++Bh f m (l.take (i+1).toNat):=Wl (by omega) hc
theorem b4I{f:Int→List Sg}{m:List UInt8}{l:List Int}{s:List Sg}(h:1≤l.length):s++f (l.getD 0 0)=s++Bh f m (l.take (Int.toNat 1)):=by
 match l,h with
 |c::l,_=>simp [Bh]
theorem b4J{f:Int→List Sg}{m:List UInt8}{l:List Int}{s:List Sg}{i:Int}(h:(l.length:Int)≤i):s++Bh f m (l.take i.toNat)=s++Bh f m l:=by
 rw[List.take_of_length_le (by omega)]
theorem b4K{ns:List Nd}{n:Nat}{l:List Int}{s:List Sg}{m t:List UInt8}{j:Nat}(h:Gn ns n l s):fB n (s++Bh (AY ns n) m (l.take j)++[mkS t]):=a3z h
def Fp(n:Nat):Sig:= {X:=List Nd×List Sg×List Int×Nd,args:=fun x=>[tlr x.1 x.2.1 x.2.2.1,.agg (ndA false x.2.2.2)],pre:=fun x=>BE x.1∧telP x.1 n x.2.2.2 x.2.1∧1≤x.2.2.2.kind∧x.2.2.2.kind≤11,Y:=List Int,post:=fun x y=>y.length=x.2.2.1.length,res:=fun x y=> .tup [],outs:=fun x y=>[tlr x.1 (x.2.1++CJ (AY x.1 n) x.2.2.2) y,.top],keep:=true}
theorem b4L(n:Nat)(hc:Aj G Go.Proofs.Tryz.prog 36 (Ci n)):Aj G Tryz.prog 65 (Fp n):=
 vcFun_okP [(36,0,(Ci n)),(60,0,Ch),(59,0,Ei),(63,0,Gp),(64,0,(HW n))] [] false (fun x=>[(27,ON n x),(47,RT n x)]) Tryz.func65 rfl (by decide) ⟨hc,RR,Wn,RQ,a3J n hc,trivial⟩ (fun(x:List Nd×List Sg×List Int×Nd)=>True∧inR IntKind.i64 ((↑(List.length x.2.2.2.kids):Int)-(1:Int))∧Aa (x.2.2.2.kind==(1:Int)) (cA Ei [.box 0 [nds x.1,As x.2.1,Ab x.2.2.1],.str x.2.2.2.text] fun x_1 y=>rA (Fp n) x [.tup [],.box 0 [nds x_1.1,As (x_1.2.1++[wdS x_1.2.2.2]),Ab x_1.2.2.1],.top]) (Aa (x.2.2.2.kind==(2:Int)) (cA Gp [.box 0 [nds x.1,As x.2.1,Ab x.2.2.1],.int .i64 (2:Int),.str x.2.2.2.text] fun x_1 y=>rA (Fp n) x [.tup [],.box 0 [nds x_1.1,As (x_1.2.1++[sg0 x_1.2.2.2.1 x_1.2.2.2.2]),Ab x_1.2.2.1],.top]) (Aa (x.2.2.2.kind==(3:Int)) (cA Gp [.box 0 [nds x.1,As x.2.1,Ab x.2.2.1],.int .i64 (3:Int),.str x.2.2.2.text] fun x_1 y=>rA (Fp n) x [.tup [],.box 0 [nds x_1.1,As (x_1.2.1++[sg0 x_1.2.2.2.1 x_1.2.2.2.2]),Ab x_1.2.2.1],.top]) (Aa (x.2.2.2.kind==(4:Int)) (cA Ch [.box 0 [nds x.1,As x.2.1,Ab x.2.2.1],.str #[(91:UInt8)].toList] fun x_1 y=>cA (HW n) [.box 0 [nds x_1.1,As (x_1.2.1++[mkS x_1.2.2.2]),Ab x_1.2.2.1],AQ x.2.2.2.kids] fun x_2 y=>cA Ch [.box 0 [nds x_2.1,As (x_2.2.1++Bh (AY x_2.1 n) [(44:UInt8)] x_2.2.2.2),Ab y],.str #[(93:UInt8)].toList] fun x_3 y=>rA (Fp n) x [.tup [],.box 0 [nds x_3.1,As (x_3.2.1++[mkS x_3.2.2.2]),Ab x_3.2.2.1],.top]) (Aa (x.2.2.2.kind==(5:Int)) (((0:Int)≤(0:Int)∧(0:Int)<(↑(List.length x.2.2.2.kids):Int))∧∀(e:Int),x.2.2.2.kids[(0:Nat)]? =some e→cA (Ci n) [.box 0 [nds x.1,As x.2.1,Ab x.2.2.1],.int .i64 e] fun x_1 y=>cA Ch [.box 0 [nds x_1.1,As (x_1.2.1++AY x_1.1 n x_1.2.2.2),Ab y],.str #[(40:UInt8)].toList] fun x_2 y=>((0:Int)≤(1:Int)∧(1:Int)≤(↑(List.length x.2.2.2.kids):Int)∧(↑(List.length x.2.2.2.kids):Int)≤(↑(List.length x.2.2.2.kids):Int))∧cA (HW n) [.box 0 [nds x_2.1,As (x_2.2.1++[mkS x_2.2.2.2]),Ab x_2.2.2.1],AQ (List.drop (1:Nat) x.2.2.2.kids)] fun x_3 y=>cA Ch [.box 0 [nds x_3.1,As (x_3.2.1++Bh (AY x_3.1 n) [(44:UInt8)] x_3.2.2.2),Ab y],.str #[(41:UInt8)].toList] fun x_4 y=>rA (Fp n) x [.tup [],.box 0 [nds x_4.1,As (x_4.2.1++[mkS x_4.2.2.2]),Ab x_4.2.2.1],.top]) (Aa (x.2.2.2.kind==(6:Int)) (((0:Int)≤(0:Int)∧(0:Int)<(↑(List.length x.2.2.2.kids):Int))∧∀(e:Int),x.2.2.2.kids[(0:Nat)]? =some e→cA (Ci n) [.box 0 [nds x.1,As x.2.1,Ab x.2.2.1],.int .i64 e] fun x_1 y=>cA Ch [.box 0 [nds x_1.1,As (x_1.2.1++AY x_1.1 n x_1.2.2.2),Ab y],.str #[(46:UInt8)].toList] fun x_2 y=>cA Ei [.box 0 [nds x_2.1,As (x_2.2.1++[mkS x_2.2.2.2]),Ab x_2.2.2.1],.str x.2.2.2.text] fun x_3 y=>rA (Fp n) x [.tup [],.box 0 [nds x_3.1,As (x_3.2.1++[wdS x_3.2.2.2]),Ab x_3.2.2.1],.top]) (Aa (x.2.2.2.kind==(7:Int)) (eA (ON n x) [.box 0 [nds x.1,As x.2.1,Ab x.2.2.1],.box 0 [.int .i64 x.2.2.2.kind,.str x.2.2.2.text,AQ x.2.2.2.kids,.bool x.2.2.2.blank],.int .i64 ((↑(List.length x.2.2.2.kids):Int)-(1:Int)),.int .i64 (0:Int)]∧∀(i:Int×List Int),((0:Int)≤i.1∧i.1≤(↑(List.length x.2.2.2.kids):Int))∧List.length i.2=List.length x.2.2.1∧x.2.2.2.kind=(7:Int)→Aa (decide (i.1≤(↑(List.length x.2.2.2.kids):Int)-(1:Int))) (Aa (decide (i.1>(0:Int))) (cA Ch [.box 0 [nds x.1,As (x.2.1++Bh (AY x.1 n) x.2.2.2.text (List.take (Int.toNat i.1) x.2.2.2.kids)),Ab i.2],.str x.2.2.2.text] fun x_1 y=>((0:Int)≤i.1∧i.1<(↑(List.length x.2.2.2.kids):Int))∧∀(e:Int),x.2.2.2.kids[Int.toNat i.1]? =some e→cA (Ci n) [.box 0 [nds x_1.1,As (x_1.2.1++[mkS x_1.2.2.2]),Ab x_1.2.2.1],.int .i64 e] fun x_2 y=>inR IntKind.i64 (i.1+(1:Int))∧eN (ON n x) i [.box 0 [nds x_2.1,As (x_2.2.1++AY x_2.1 n x_2.2.2.2),Ab y],.box 0 [.int .i64 x.2.2.2.kind,.str x.2.2.2.text,AQ x.2.2.2.kids,.bool x.2.2.2.blank],.int .i64 ((↑(List.length x.2.2.2.kids):Int)-(1:Int)),.int .i64 (i.1+(1:Int))]) (((0:Int)≤i.1∧i.1<(↑(List.length x.2.2.2.kids):Int))∧∀(e:Int),x.2.2.2.kids[Int.toNat i.1]? =some e→cA (Ci n) [.box 0 [nds x.1,As (x.2.1++Bh (AY x.1 n) x.2.2.2.text (List.take (Int.toNat i.1) x.2.2.2.kids)),Ab i.2],.int .i64 e] fun x_1 y=>inR IntKind.i64 (i.1+(1:Int))∧eN (ON n x) i [.box 0 [nds x_1.1,As (x_1.2.1++AY x_1.1 n x_1.2.2.2),Ab y],.box 0 [.int .i64 x.2.2.2.kind,.str x.2.2.2.text,AQ x.2.2.2.kids,.bool x.2.2.2.blank],.int .i64 ((↑(List.length x.2.2.2.kids):Int)-(1:Int)),.int .i64 (i.1+(1:Int))])) (rA (Fp n) x [.tup [],.box 0 [nds x.1,As (x.2.1++Bh (AY x.1 n) x.2.2.2.text (List.take (Int.toNat i.1) x.2.2.2.kids)),Ab i.2],.top])) (Aa (x.2.2.2.kind==(8:Int)) (((0:Int)≤(0:Int)∧(0:Int)<(↑(List.length x.2.2.2.kids):Int))∧∀(e:Int),x.2.2.2.kids[(0:Nat)]? =some e→cA (Ci n) [.box 0 [nds x.1,As x.2.1,Ab x.2.2.1],.int .i64 e] fun x_1 y=>cA Ch [.box 0 [nds x_1.1,As (x_1.2.1++AY x_1.1 n x_1.2.2.2),Ab y],.str #[(63:UInt8)].toList] fun x_2 y=>((0:Int)≤(1:Int)∧(1:Int)<(↑(List.length x.2.2.2.kids):Int))∧∀(e:Int),x.2.2.2.kids[(1:Nat)]? =some e→cA (Ci n) [.box 0 [nds x_2.1,As (x_2.2.1++[mkS x_2.2.2.2]),Ab x_2.2.2.1],.int .i64 e] fun x_3 y=>cA Ch [.box 0 [nds x_3.1,As (x_3.2.1++AY x_3.1 n x_3.2.2.2),Ab y],.str #[(58:UInt8)].toList] fun x_4 y=>((0:Int)≤(2:Int)∧(2:Int)<(↑(List.length x.2.2.2.kids):Int))∧∀(e:Int),x.2.2.2.kids[(2:Nat)]? =some e→cA (Ci n) [.box 0 [nds x_4.1,As (x_4.2.1++[mkS x_4.2.2.2]),Ab x_4.2.2.1],.int .i64 e] fun x_5 y=>rA (Fp n) x [.tup [],.box 0 [nds x_5.1,As (x_5.2.1++AY x_5.1 n x_5.2.2.2),Ab y],.top]) (Aa (x.2.2.2.kind==(9:Int)) (cA Ch [.box 0 [nds x.1,As x.2.1,Ab x.2.2.1],.str #[(40:UInt8)].toList] fun x_1 y=>((0:Int)≤(0:Int)∧(0:Int)≤(↑(List.length x.2.2.2.kids):Int)-(1:Int)∧(↑(List.length x.2.2.2.kids):Int)-(1:Int)≤(↑(List.length x.2.2.2.kids):Int))∧cA (HW n) [.box 0 [nds x_1.1,As (x_1.2.1++[mkS x_1.2.2.2]),Ab x_1.2.2.1],AQ (List.take (Int.toNat ((↑(List.length x.2.2.2.kids):Int)-(1:Int))) x.2.2.2.kids)] fun x_2 y=>cA Ch [.box 0 [nds x_2.1,As (x_2.2.1++Bh (AY x_2.1 n) [(44:UInt8)] x_2.2.2.2),Ab y],.str #[(41:UInt8)].toList] fun x_3 y=>cA Ch [.box 0 [nds x_3.1,As (x_3.2.1++[mkS x_3.2.2.2]),Ab x_3.2.2.1],.str #[(61:UInt8),(62:UInt8)].toList] fun x_4 y=>((0:Int)≤(↑(List.length x.2.2.2.kids):Int)-(1:Int)∧(↑(List.length x.2.2.2.kids):Int)-(1:Int)<(↑(List.length x.2.2.2.kids):Int))∧∀(e:Int),x.2.2.2.kids[Int.toNat ((↑(List.length x.2.2.2.kids):Int)-(1:Int))]? =some e→cA (Ci n) [.box 0 [nds x_4.1,As (x_4.2.1++[mkS x_4.2.2.2]),Ab x_4.2.2.1],.int .i64 e] fun x_5 y=>rA (Fp n) x [.tup [],.box 0 [nds x_5.1,As (x_5.2.1++AY x_5.1 n x_5.2.2.2),Ab y],.top]) (Aa (x.2.2.2.kind==(10:Int)) (((0:Int)≤(0:Int)∧(0:Int)<(↑(List.length x.2.2.2.kids):Int))∧∀(e:Int),x.2.2.2.kids[(0:Nat)]? =some e→cA (Ci n) [.box 0 [nds x.1,As x.2.1,Ab x.2.2.1],.int .i64 e] fun x_1 y=>eA (RT n x) [.box 0 [nds x_1.1,As (x_1.2.1++AY x_1.1 n x_1.2.2.2),Ab y],.box 0 [.int .i64 x.2.2.2.kind,.str x.2.2.2.text,AQ x.2.2.2.kids,.bool x.2.2.2.blank],.int .i64 ((↑(List.length x.2.2.2.kids):Int)-(1:Int)),.int .i64 (1:Int)]∧∀(i:Int×List Int),((1:Int)≤i.1∧i.1≤(↑(List.length x.2.2.2.kids):Int))∧List.length i.2=List.length x.2.2.1∧x.2.2.2.kind=(10:Int)→Aa (decide (i.1≤(↑(List.length x.2.2.2.kids):Int)-(1:Int))) (cA Ch [.box 0 [nds x.1,As (x.2.1++Bh (AY x.1 n) [(46:UInt8),(46:UInt8)] (List.take (Int.toNat i.1) x.2.2.2.kids)),Ab i.2],.str #[(46:UInt8),(46:UInt8)].toList] fun x_2 y=>((0:Int)≤i.1∧i.1<(↑(List.length x.2.2.2.kids):Int))∧∀(e:Int),x.2.2.2.kids[Int.toNat i.1]? =some e→cA (Ci n) [.box 0 [nds x_2.1,As (x_2.2.1++[mkS x_2.2.2.2]),Ab x_2.2.2.1],.int .i64 e] fun x_3 y=>inR IntKind.i64 (i.1+(1:Int))∧eN (RT n x) i [.box 0 [nds x_3.1,As (x_3.2.1++AY x_3.1 n x_3.2.2.2),Ab y],.box 0 [.int .i64 x.2.2.2.kind,.str x.2.2.2.text,AQ x.2.2.2.kids,.bool x.2.2.2.blank],.int .i64 ((↑(List.length x.2.2.2.kids):Int)-(1:Int)),.int .i64 (i.1+(1:Int))]) (rA (Fp n) x [.tup [],.box 0 [nds x.1,As (x.2.1++Bh (AY x.1 n) [(46:UInt8),(46:UInt8)] (List.take (Int.toNat i.1) x.2.2.2.kids)),Ab i.2],.top])) (cA Ch [.box 0 [nds x.1,As x.2.1,Ab x.2.2.1],.str #[(40:UInt8)].toList] fun x_1 y=>((0:Int)≤(0:Int)∧(0:Int)<(↑(List.length x.2.2.2.kids):Int))∧∀(e:Int),x.2.2.2.kids[(0:Nat)]? =some e→cA (Ci n) [.box 0 [nds x_1.1,As (x_1.2.1++[mkS x_1.2.2.2]),Ab x_1.2.2.1],.int .i64 e] fun x_2 y=>cA Ch [.box 0 [nds x_2.1,As (x_2.2.1++AY x_2.1 n x_2.2.2.2),Ab y],.str #[(41:UInt8)].toList] fun x_3 y=>rA (Fp n) x [.tup [],.box 0 [nds x_3.1,As (x_3.2.1++[mkS x_3.2.2.2]),Ab x_3.2.2.1],.top]))))))))))) (fun x=>by kernel_rfl) fun(x:List Nd×List Sg×List Int×Nd) (hx:BE x.1∧telP x.1 n x.2.2.2 x.2.1∧1≤x.2.2.2.kind∧x.2.2.2.kind≤11)=>(by
 dsimp only[cA,eA,eN,AQ,RT,ON,Bg,nds,Ab,As,rA,Ch,Ci,Gp,HW,Fp,Ei,Bj,tlr,Av,AB,mvL,lnL,mvE,lnE,Bw]
 obtain⟨h1,h3,h4,h5⟩:=hx
 have hr:=h3.rm;have hlo:=h3.lo;have hhi:=h3.hi;have hk12:=h3.k12
 have hL:=a3I h3
 (repeat' first|(with_reducible first|rfl|exact True.intro|apply AK|apply And.intro|((first|apply Az|apply AI|apply AA|apply AJ)<;>intro _))|(apply Aw<;>intro _)|apply AH|refine Ae () ?_ ?_|((first|apply AO|apply AN|apply AM|apply AL|apply AG|apply AF|apply AE|apply AD|apply AC)<;>try dsimp only)|apply Ae|(refine Prod.forall.2 ?_;intro _;try dsimp only)|(intro _;try dsimp only))
 all_goals first
  |rfl
  |exact h1
  |exact h3.kid _ (CR ‹_›)
  |exact LH h3 (by omega)
  |assumption
  |(exfalso;omega)
  |omega
  |exact b4H (by omega) ‹_›
  |exact Wl (by omega) ‹_›
  |exact a3B (by omega) (by omega) ‹_›
  |(simp [Bh];done)
  |exact a3y (LH h3 (Nat.le_add_right _ _))
  |exact b4K (LH h3 (Nat.le_add_right _ _))
  |exact a3A (LH h3 (Nat.le_add_right _ _))
  |(repeat(rename x.2.2.2.kids[_]? =some _=>hq;first|(have e:=a3C hq;clear hq;subst e)|(have e:=a3D hq;clear hq;subst e)|(have e:=a3E hq;clear hq;subst e)|(have e:=a3F hq;clear hq;subst e))
    first|(rename x.2.2.2.kind=_=>hkk)|(have hkk:x.2.2.2.kind=11:=by omega)
    rw[hkk] at hlo hhi
    simp only[CW,Int.reduceEq,or_self,or_false,false_or,or_true,true_or,if_true,if_false,reduceIte] at hlo hhi
    first
    |(rw[b4J (by omega)];simp only[CJ,hkk,Int.reduceEq,if_true,if_false,reduceIte])
    |exact b4I (by omega)
    |(simp only[CJ,hkk,Int.reduceEq,if_true,if_false,reduceIte,RP]<;>(simp [mkS,sg0];done))
    |(try unfold fB
      try simp only[AR,AS]
      first
      |omega
      |(try have ha:=hL.a 0 (by omega)
        try have ha1:=hL.a 1 (by omega)
        try have ha2:=hL.a 2 (by omega)
        first
        |refine a3G h3 ?_
        |refine a3H h3 ?_
        |refine LH h3 ?_
        |skip
        have hd:=hL.d 1 [44];have hl:=hL.l [44];have ht:=hL.t (x.2.2.2.kids.length-1) [44]
        simp only[RP,List.length_append,List.length_map,List.length_cons,List.length_nil] at*
        omega)))
  |((try unfold fB);have ht:=hL.t;(try simp only[AR,AS,List.length_append,List.length_cons,List.length_nil]);first|omega|(have:=ht (Int.toNat ‹_›) [46,46];omega))
  |skip)
end Go.My
end
section
set_option linter.unusedVariables false
set_option linter.unusedSimpArgs false
set_option maxHeartbeats 8000000
namespace Go.My
open Go.Eng Go.Proofs
variable {G:GInv}
def Kq(x:List Nd×List Sg×List Int×Int):LS:= {
 ι:=List Int,inv:=fun y=>y.length=x.2.2.1.length,
 regs:=fun y=>[(0,tlr x.1 x.2.1 y),(1,.int .i64 x.2.2.2)],als:=[],meas:=fun _=>0}
theorem b4M{f:Int→List Sg}{l:List Int}(h:l.length=1):l.flatMap f=f (l.getD 0 0):=by
 match l,h with
 |[c],_=>simp
theorem b4N{f:Int→List Sg}{l:List Int}(h:l.length=0):l.flatMap f=[]:=by
 match l,h with
 |[],_=>rfl
def Fq(n:Nat):Sig:= {X:=List Nd×List Sg×List Int×Int,args:=fun x=>[tlr x.1 x.2.1 x.2.2.1,.int .i64 x.2.2.2],pre:=fun x=>BE x.1∧FK x.1 (n+1) x.2.2.2∧fB (n+1) x.2.1,Y:=List Int,post:=fun x y=>y.length=x.2.2.1.length,res:=fun x y=> .tup [],outs:=fun x y=>[tlr x.1 (x.2.1++AY x.1 (n+1) x.2.2.2) y,.top],keep:=true}
theorem b4O(n:Nat)(hc:Aj G Go.Proofs.Tryz.prog 36 (Ci n)):Aj G Tryz.prog 36 (Fq n):=
 vcFun_okP [(36,0,(Ci n)),(60,0,Ch),(59,0,Ei),(63,0,Gp),(64,0,(HW n)),(61,0,(Js n)),(62,0,(LI n)),(65,0,(Fp n))] [] false (fun x=>[(100001,Kq x),(200002,Kq x)]) Tryz.func36 rfl (by decide) ⟨hc,RR,Wn,RQ,a3J n hc,b4G n hc,b4F n hc,b4L n hc,trivial⟩ (fun(x:List Nd×List Sg×List Int×Int)=>True∧Aa (decide (x.2.2.2<(↑(List.length x.2.2.1):Int))) (true=true∧((((0:Int)≤x.2.2.2∧x.2.2.2<(↑(List.length x.2.2.1):Int))∧Int.toNat x.2.2.2<List.length x.2.2.1∧∀(x_1:Int),x.2.2.1[Int.toNat x.2.2.2]? =some x_1→∃(x':Int),((@List.nil AV)=[]∧(@List.nil AV)=[])∧(↑(List.length x.2.1):Int)=x'∧true=true∧eA (Kq x) [.box 0 [nds x.1,As x.2.1,Ab (List.set x.2.2.1 (Int.toNat x.2.2.2) x')],.int .i64 x.2.2.2])∧(((0:Int)≤x.2.2.2∧x.2.2.2<(↑(List.length x.2.2.1):Int))∧Int.toNat x.2.2.2<List.length x.2.2.1∧∀(x_1:Int),x.2.2.1[Int.toNat x.2.2.2]? =some x_1→∃(x':Int),((@List.nil AV)=[]∧(@List.nil AV)=[])∧(↑(List.length x.2.1):Int)=x'∧true=true∧eA (Kq x) [.box 0 [nds x.1,As x.2.1,Ab (List.set x.2.2.1 (Int.toNat x.2.2.2) x')],.int .i64 x.2.2.2])∧((0:Int)≤x.2.2.2∧x.2.2.2<(↑(List.length x.2.2.1):Int))∧Int.toNat x.2.2.2<List.length x.2.2.1∧∀(x_1:Int),x.2.2.1[Int.toNat x.2.2.2]? =some x_1→∃(x':Int),((@List.nil AV)=[]∧(@List.nil AV)=[])∧(↑(List.length x.2.1):Int)=x'∧true=true∧eA (Kq x) [.box 0 [nds x.1,As x.2.1,Ab (List.set x.2.2.1 (Int.toNat x.2.2.2) x')],.int .i64 x.2.2.2])∧∀(i:List Int),List.length i=List.length x.2.2.1→eA (Kq x) [.box 0 [nds x.1,As x.2.1,Ab i],.int .i64 x.2.2.2]) (eA (Kq x) [.box 0 [nds x.1,As x.2.1,Ab x.2.2.1],.int .i64 x.2.2.2])∧∀(i:List Int),List.length i=List.length x.2.2.1→((0:Int)≤x.2.2.2∧x.2.2.2<(↑(List.length x.1):Int))∧∀(e:Nd),x.1[Int.toNat x.2.2.2]? =some e→Aa (e.kind==(12:Int)) (cA Ei [.box 0 [nds x.1,As x.2.1,Ab i],.str #[(118:UInt8),(97:UInt8),(114:UInt8)].toList] fun x_1 y=>cA Ei [.box 0 [nds x_1.1,As (x_1.2.1++[wdS x_1.2.2.2]),Ab x_1.2.2.1],.str e.text] fun x_2 y=>Aa (decide ((↑(List.length e.kids):Int)>(0:Int))) (cA Ch [.box 0 [nds x_2.1,As (x_2.2.1++[wdS x_2.2.2.2]),Ab x_2.2.2.1],.str #[(61:UInt8)].toList] fun x_3 y=>((0:Int)≤(0:Int)∧(0:Int)<(↑(List.length e.kids):Int))∧∀(e_1:Int),e.kids[(0:Nat)]? =some e_1→cA (Ci n) [.box 0 [nds x_3.1,As (x_3.2.1++[mkS x_3.2.2.2]),Ab x_3.2.2.1],.int .i64 e_1] fun x_4 y=>cA Ch [.box 0 [nds x_4.1,As (x_4.2.1++AY x_4.1 n x_4.2.2.2),Ab y],.str #[(59:UInt8)].toList] fun x_5 y=>rA (Fq n) x [.tup [],.box 0 [nds x_5.1,As (x_5.2.1++[mkS x_5.2.2.2]),Ab x_5.2.2.1],.top]) (cA Ch [.box 0 [nds x_2.1,As (x_2.2.1++[wdS x_2.2.2.2]),Ab x_2.2.2.1],.str #[(59:UInt8)].toList] fun x_3 y=>rA (Fq n) x [.tup [],.box 0 [nds x_3.1,As (x_3.2.1++[mkS x_3.2.2.2]),Ab x_3.2.2.1],.top])) (Aa (e.kind==(13:Int)) (cA Ei [.box 0 [nds x.1,As x.2.1,Ab i],.str e.text] fun x_1 y=>cA Ch [.box 0 [nds x_1.1,As (x_1.2.1++[wdS x_1.2.2.2]),Ab x_1.2.2.1],.str #[(61:UInt8)].toList] fun x_2 y=>((0:Int)≤(0:Int)∧(0:Int)<(↑(List.length e.kids):Int))∧∀(e_1:Int),e.kids[(0:Nat)]? =some e_1→cA (Ci n) [.box 0 [nds x_2.1,As (x_2.2.1++[mkS x_2.2.2.2]),Ab x_2.2.2.1],.int .i64 e_1] fun x_3 y=>cA Ch [.box 0 [nds x_3.1,As (x_3.2.1++AY x_3.1 n x_3.2.2.2),Ab y],.str #[(59:UInt8)].toList] fun x_4 y=>rA (Fq n) x [.tup [],.box 0 [nds x_4.1,As (x_4.2.1++[mkS x_4.2.2.2]),Ab x_4.2.2.1],.top]) (Aa (e.kind==(14:Int)) (((0:Int)≤(0:Int)∧(0:Int)<(↑(List.length e.kids):Int))∧∀(e_1:Int),e.kids[(0:Nat)]? =some e_1→cA (Ci n) [.box 0 [nds x.1,As x.2.1,Ab i],.int .i64 e_1] fun x_1 y=>cA Ch [.box 0 [nds x_1.1,As (x_1.2.1++AY x_1.1 n x_1.2.2.2),Ab y],.str #[(59:UInt8)].toList] fun x_2 y=>rA (Fq n) x [.tup [],.box 0 [nds x_2.1,As (x_2.2.1++[mkS x_2.2.2.2]),Ab x_2.2.2.1],.top]) (Aa (e.kind==(15:Int)) (cA Ei [.box 0 [nds x.1,As x.2.1,Ab i],.str #[(114:UInt8),(101:UInt8),(116:UInt8),(117:UInt8),(114:UInt8),(110:UInt8)].toList] fun x_1 y=>cA (Js n) [.box 0 [nds x_1.1,As (x_1.2.1++[wdS x_1.2.2.2]),Ab x_1.2.2.1],AQ e.kids] fun x_2 y=>cA Ch [.box 0 [nds x_2.1,As (x_2.2.1++List.flatMap (AY x_2.1 n) x_2.2.2.2),Ab y],.str #[(59:UInt8)].toList] fun x_3 y=>rA (Fq n) x [.tup [],.box 0 [nds x_3.1,As (x_3.2.1++[mkS x_3.2.2.2]),Ab x_3.2.2.1],.top]) (Aa (e.kind==(16:Int)) (((0:Int)≤(0:Int)∧(0:Int)<(↑(List.length e.kids):Int))∧∀(e_1:Int),e.kids[(0:Nat)]? =some e_1→cA (LI n) [.box 0 [nds x.1,As x.2.1,Ab i],.str #[(105:UInt8),(102:UInt8)].toList,.int .i64 e_1] fun x_1 y=>((0:Int)≤(1:Int)∧(1:Int)<(↑(List.length e.kids):Int))∧∀(e_2:Int),e.kids[(1:Nat)]? =some e_2→cA (Ci n) [.box 0 [nds x_1.1,As (x_1.2.1++[wdS x_1.2.2.2.1]++[mkS [(40:UInt8)]]++AY x_1.1 n x_1.2.2.2.2++[mkS [(41:UInt8)]]),Ab y],.int .i64 e_2] fun x_2 y=>Aa (decide ((↑(List.length e.kids):Int)>(2:Int))) (cA Ei [.box 0 [nds x_2.1,As (x_2.2.1++AY x_2.1 n x_2.2.2.2),Ab y],.str #[(101:UInt8),(108:UInt8),(115:UInt8),(101:UInt8)].toList] fun x_3 y=>((0:Int)≤(2:Int)∧(2:Int)<(↑(List.length e.kids):Int))∧∀(e_3:Int),e.kids[(2:Nat)]? =some e_3→cA (Ci n) [.box 0 [nds x_3.1,As (x_3.2.1++[wdS x_3.2.2.2]),Ab x_3.2.2.1],.int .i64 e_3] fun x_4 y=>rA (Fq n) x [.tup [],.box 0 [nds x_4.1,As (x_4.2.1++AY x_4.1 n x_4.2.2.2),Ab y],.top]) (rA (Fq n) x [.tup [],.box 0 [nds x_2.1,As (x_2.2.1++AY x_2.1 n x_2.2.2.2),Ab y],.top])) (Aa (e.kind==(17:Int)) (((0:Int)≤(0:Int)∧(0:Int)<(↑(List.length e.kids):Int))∧∀(e_1:Int),e.kids[(0:Nat)]? =some e_1→cA (LI n) [.box 0 [nds x.1,As x.2.1,Ab i],.str #[(119:UInt8),(104:UInt8),(105:UInt8),(108:UInt8),(101:UInt8)].toList,.int .i64 e_1] fun x_1 y=>((0:Int)≤(1:Int)∧(1:Int)<(↑(List.length e.kids):Int))∧∀(e_2:Int),e.kids[(1:Nat)]? =some e_2→cA (Ci n) [.box 0 [nds x_1.1,As (x_1.2.1++[wdS x_1.2.2.2.1]++[mkS [(40:UInt8)]]++AY x_1.1 n x_1.2.2.2.2++[mkS [(41:UInt8)]]),Ab y],.int .i64 e_2] fun x_2 y=>rA (Fq n) x [.tup [],.box 0 [nds x_2.1,As (x_2.2.1++AY x_2.1 n x_2.2.2.2),Ab y],.top]) (Aa (e.kind==(18:Int)) (cA Ch [.box 0 [nds x.1,As x.2.1,Ab i],.str #[(123:UInt8)].toList] fun x_1 y=>cA (Js n) [.box 0 [nds x_1.1,As (x_1.2.1++[mkS x_1.2.2.2]),Ab x_1.2.2.1],AQ e.kids] fun x_2 y=>cA Ch [.box 0 [nds x_2.1,As (x_2.2.1++List.flatMap (AY x_2.1 n) x_2.2.2.2),Ab y],.str #[(125:UInt8)].toList] fun x_3 y=>rA (Fq n) x [.tup [],.box 0 [nds x_3.1,As (x_3.2.1++[mkS x_3.2.2.2]),Ab x_3.2.2.1],.top]) (Aa (e.kind==(19:Int)) (cA Gp [.box 0 [nds x.1,As x.2.1,Ab i],.int .i64 (5:Int),.str e.text] fun x_1 y=>rA (Fq n) x [.tup [],.box 0 [nds x_1.1,As (x_1.2.1++[sg0 x_1.2.2.2.1 x_1.2.2.2.2]),Ab x_1.2.2.1],.top]) (Aa (e.kind==(20:Int)) (cA Ei [.box 0 [nds x.1,As x.2.1,Ab i],.str e.text] fun x_1 y=>cA Ch [.box 0 [nds x_1.1,As (x_1.2.1++[wdS x_1.2.2.2]),Ab x_1.2.2.1],.str #[(40:UInt8)].toList] fun x_2 y=>inR IntKind.i64 ((↑(List.length e.kids):Int)-(1:Int))∧((0:Int)≤(0:Int)∧(0:Int)≤(↑(List.length e.kids):Int)-(1:Int)∧(↑(List.length e.kids):Int)-(1:Int)≤(↑(List.length e.kids):Int))∧cA (HW n) [.box 0 [nds x_2.1,As (x_2.2.1++[mkS x_2.2.2.2]),Ab x_2.2.2.1],AQ (List.take (Int.toNat ((↑(List.length e.kids):Int)-(1:Int))) e.kids)] fun x_3 y=>cA Ch [.box 0 [nds x_3.1,As (x_3.2.1++Bh (AY x_3.1 n) [(44:UInt8)] x_3.2.2.2),Ab y],.str #[(41:UInt8)].toList] fun x_4 y=>inR IntKind.i64 ((↑(List.length e.kids):Int)-(1:Int))∧((0:Int)≤(↑(List.length e.kids):Int)-(1:Int)∧(↑(List.length e.kids):Int)-(1:Int)<(↑(List.length e.kids):Int))∧∀(e_1:Int),e.kids[Int.toNat ((↑(List.length e.kids):Int)-(1:Int))]? =some e_1→cA (Ci n) [.box 0 [nds x_4.1,As (x_4.2.1++[mkS x_4.2.2.2]),Ab x_4.2.2.1],.int .i64 e_1] fun x_5 y=>rA (Fq n) x [.tup [],.box 0 [nds x_5.1,As (x_5.2.1++AY x_5.1 n x_5.2.2.2),Ab y],.top]) (Aa (e.kind==(21:Int)) (cA Ei [.box 0 [nds x.1,As x.2.1,Ab i],.str #[(99:UInt8),(108:UInt8),(97:UInt8),(115:UInt8),(115:UInt8)].toList] fun x_1 y=>cA Ei [.box 0 [nds x_1.1,As (x_1.2.1++[wdS x_1.2.2.2]),Ab x_1.2.2.1],.str e.text] fun x_2 y=>cA Ch [.box 0 [nds x_2.1,As (x_2.2.1++[wdS x_2.2.2.2]),Ab x_2.2.2.1],.str #[(123:UInt8)].toList] fun x_3 y=>cA (Js n) [.box 0 [nds x_3.1,As (x_3.2.1++[mkS x_3.2.2.2]),Ab x_3.2.2.1],AQ e.kids] fun x_4 y=>cA Ch [.box 0 [nds x_4.1,As (x_4.2.1++List.flatMap (AY x_4.1 n) x_4.2.2.2),Ab y],.str #[(125:UInt8)].toList] fun x_5 y=>rA (Fq n) x [.tup [],.box 0 [nds x_5.1,As (x_5.2.1++[mkS x_5.2.2.2]),Ab x_5.2.2.1],.top]) (Aa (e.kind==(22:Int)) (cA (Js n) [.box 0 [nds x.1,As x.2.1,Ab i],AQ e.kids] fun x_1 y=>rA (Fq n) x [.tup [],.box 0 [nds x_1.1,As (x_1.2.1++List.flatMap (AY x_1.1 n) x_1.2.2.2),Ab y],.top]) (cA (Fp n) [.box 0 [nds x.1,As x.2.1,Ab i],.agg [.int .i64 e.kind,.str e.text,AQ e.kids,.bool e.blank]] fun x_1 y=>rA (Fq n) x [.tup [],.box 0 [nds x_1.1,As (x_1.2.1++CJ (AY x_1.1 n) x_1.2.2.2),Ab y],.top])))))))))))) (fun x=>by kernel_rfl) fun(x:List Nd×List Sg×List Int×Int) (hx:BE x.1∧FK x.1 (n+1) x.2.2.2∧fB (n+1) x.2.1)=>(by
 dsimp only[cA,eA,AQ,Kq,Bg,nds,Ab,As,rA,Js,LI,Ch,Ci,Fq,Gp,HW,Fp,Ei,Bj,tlr,Av,AB,mvL,lnL,mvE,lnE,Bw]
 obtain⟨h1,h3,h4⟩:=hx
 have hT:=b4D h1 h3 h4
 have hS:=(NW h3.1).1
 obtain⟨z,hz⟩:∃z,x.1[x.2.2.2.toNat]? =some z:=by
  have:=Df.1 h3.1.1
  exact⟨_,List.getElem?_eq_getElem (by omega)⟩
 have hn:=Df.1 h3.1.1
 simp only[hz,Option.some.injEq,forall_eq',BG hz,AY] at hT hS ⊢
 have hr:=hT.rm;have hlo:=hT.lo;have hhi:=hT.hi;have hk12:=hT.k12
 have hL:=a3I hT
 have hl1:=h1.1
 (repeat' first|(with_reducible first|rfl|exact True.intro|apply AK|apply And.intro|((first|apply Az|apply AI|apply AA|apply AJ)<;>intro _))|(apply Aw<;>intro _)|apply AH|refine Ae () ?_ ?_|((first|apply AO|apply AN|apply AM|apply AL|apply AG|apply AF|apply AE|apply AD|apply AC)<;>try dsimp only)|apply Ae|(refine Prod.forall.2 ?_;intro _;try dsimp only)|(intro _;try dsimp only))
 all_goals first
  |rfl
  |exact h1
  |exact hT
  |exact hT.kid _ (CR ‹_›)
  |exact LH hT (by omega)
  |assumption
  |(exfalso;omega)
  |omega
  |exact List.length_set ..
  |(rw[List.length_set];omega)
  |(repeat(rename z.kids[_]? =some _=>hq;first|(have e:=a3C hq;clear hq;subst e)|(have e:=a3D hq;clear hq;subst e)|(have e:=a3E hq;clear hq;subst e)|(have e:=a3F hq;clear hq;subst e))
    rename z.kind=_=>hkk
    rw[hkk] at hlo hhi
    simp only[CW,Int.reduceEq,or_self,or_false,false_or,or_true,true_or,if_true,if_false,reduceIte] at hlo hhi
    first
    |(by_cases hp:0<z.kids.length<;>by_cases hq3:z.kids.length=3<;>first|(exfalso;omega)|(simp only[CJ,hkk,hp,hq3,Nat.lt_irrefl,Int.reduceEq,if_true,if_false,reduceIte,RP]<;>first|done|(simp [mkS,sg0];done)|(simp [mkS,sg0,b4M (l:=z.kids) (by omega),kd];done)|(simp [mkS,sg0,b4N (l:=z.kids) (by omega),kd];done)))
    |(try unfold fB
      try simp only[AR,AS]
      first
      |omega
      |(try have ha:=hL.a 0 (by omega)
        try have ha1:=hL.a 1 (by omega)
        try have ha2:=hL.a 2 (by omega)
        first
        |refine a3G hT ?_
        |refine a3H hT ?_
        |refine LH hT ?_
        |skip
        have hd:=hL.d 1 [44];have hl:=hL.l [44];have ht:=hL.t (z.kids.length-1) [44];have hee:=hL.e
        simp only[RP,List.length_append,List.length_map,List.length_cons,List.length_nil] at*
        omega)))
  |((try simp only[AR,AS,List.length_append,List.length_cons,List.length_nil]);omega)
  |skip)
def b4P:Sig:= {X:=List Nd×List Sg×List Int×Int,args:=fun x=>[tlr x.1 x.2.1 x.2.2.1,.int .i64 x.2.2.2],pre:=fun x=>BE x.1∧FK x.1 0 x.2.2.2∧fB 0 x.2.1,Y:=List Int,post:=fun x y=>y.length=x.2.2.1.length,res:=fun x y=> .tup [],outs:=fun x y=>[tlr x.1 (x.2.1++AY x.1 0 x.2.2.2) y,.top],keep:=true}
theorem b4Q:Aj G Tryz.prog 36 b4P:=
 vcFun_okP [] [] false (fun x=>[]) Tryz.func36 rfl (by decide) trivial (fun(x:List Nd×List Sg×List Int×Int)=>True∧Aa (decide (x.2.2.2<(↑(List.length x.2.2.1):Int))) (true=true∧true=true∧((0:Int)≤x.2.2.2∧x.2.2.2<(↑(List.length x.2.2.1):Int))∧False) (((0:Int)≤x.2.2.2∧x.2.2.2<(↑(List.length x.1):Int))∧∀(e:Nd),x.1[Int.toNat x.2.2.2]? =some e→Aa (e.kind==(12:Int)) False (Aa (e.kind==(13:Int)) False (Aa (e.kind==(14:Int)) (((0:Int)≤(0:Int)∧(0:Int)<(↑(List.length e.kids):Int))∧∀(e_1:Int),e.kids[(0:Nat)]? =some e_1→False) (Aa (e.kind==(15:Int)) False (Aa (e.kind==(16:Int)) (((0:Int)≤(0:Int)∧(0:Int)<(↑(List.length e.kids):Int))∧∀(e_1:Int),e.kids[(0:Nat)]? =some e_1→False) (Aa (e.kind==(17:Int)) (((0:Int)≤(0:Int)∧(0:Int)<(↑(List.length e.kids):Int))∧∀(e_1:Int),e.kids[(0:Nat)]? =some e_1→False) (Aa (e.kind==(18:Int)) False (Aa (e.kind==(19:Int)) False (Aa (e.kind==(20:Int)) False (Aa (e.kind==(21:Int)) False (Aa (e.kind==(22:Int)) False False)))))))))))) (fun x=>by kernel_rfl) fun(x:List Nd×List Sg×List Int×Int) (hx:BE x.1∧FK x.1 0 x.2.2.2∧fB 0 x.2.1)=>(by
 have h1:=hx.2.1.2.1;have h2:=Df.1 hx.2.1.1.1
 omega)
theorem a3K:∀n,Aj G Go.Proofs.Tryz.prog 36 (Ci n)
 |0=>b4Q
 |n+1=>b4O n (a3K n)
end Go.My
end
section
set_option linter.unusedVariables false
set_option linter.unusedSimpArgs false
namespace Go.My
open Go.Eng Go.Proofs
variable {G:GInv}
theorem b4R{s:List UInt8}:0≤(Bc s).size:=by
 unfold Bc
 split
 ·exact Int.le_refl _
 ·split
  ·exact Int.natCast_nonneg _
  split
  ·exact Int.natCast_nonneg _
  split
  ·exact Int.natCast_nonneg _
  split
  ·exact Int.natCast_nonneg _
  ·split
   ·exact Int.natCast_nonneg _
   ·split
    ·exact Int.natCast_nonneg _
    ·exact Int.le_refl _
theorem RU{t:List UInt8}:∀ {n:Nat} {i br:Int} {l:List Sg},0≤i→EG t n i br=some l→∀e∈l,0≤e.pos∧e.pos≤t.length
 |0,_,_,_,_,h=>by cases h
 |n+1,i,br,l,h0,h=>by
  rw[EG] at h
  split at h
  ·simp at h;subst h;intro e he;cases he
  ·rename_i c hc
   have hi:=(Ds hc).1
   split at h
   ·exact RU (by omega) h
   split at h
   ·exact RU (by omega) h
   split at h
   ·rw[Option.map_eq_some_iff] at h
    obtain⟨m,h1,rfl⟩:=h
    intro e he
    rcases List.mem_cons.1 he with rfl|he
    ·simp only;omega
    ·exact RU (by have:= @b4R (t.drop i.toNat);omega) h1 e he
   ·cases h
theorem a3L{t:List UInt8}{l:List Sg}(h:Br t=some l):∀e∈l,0≤e.pos∧e.pos≤3000:=by
 unfold Br at h
 split at h
 ·cases h
 ·intro e he
  have:=RU (Int.le_refl _) h e he
  omega
def rgs(l:List Rg):AV:= .sl false 0 2 Rg rgA l
def Fr(l:List Rg):AV:= .sl true 0 2 Rg rgA l
theorem a3M{a b:Int}{q:Rg→Prop}(h:q ⟨a,b⟩):∃x:Rg,a=x.fr∧b=x.to∧q x:=⟨⟨a,b⟩,rfl,rfl,h⟩
def IG(sg:List Sg)(ms:List (Int×Int)):Prop:=(sg.length≤3000∧ms.length≤3001)∧(∀m∈ms,(0≤m.1∧m.1<m.2)∧m.2≤sg.length)∧∀e∈sg,(0≤e.pos∧e.pos≤3000)∧e.text.length≤3000
theorem b4S{t:List UInt8}{sg:List Sg}{ms:List (Int×Int)}{L:List Nd}(h1:Br t=some sg)(hs:sgB sg)(h2:FZ sg=some (ms,L)):IG sg ms:=by
 obtain⟨a1,a2,q,a3,a4,a5⟩:=OK h2
 obtain⟨b1,b2⟩:=MZ (Int.le_refl _) a4
 have hm:∀m∈ms,(0≤m.1∧m.1<m.2)∧m.2≤sg.length:=fun m hm=>by
  obtain⟨i,hi,e⟩:=List.mem_iff_getElem.1 hm
  have hk:i<(Cm L).length:=by omega
  have:=(b2 i _ m (List.getElem?_eq_getElem hk) (by rw[←e];exact List.getElem?_eq_getElem hi)).1
  exact⟨⟨this.1,this.2.1⟩,this.2.2⟩
 refine⟨⟨hs.1,?_⟩,hm,fun e he=>⟨a3L h1 e he,hs.2 e he⟩⟩
 obtain⟨t1,t2,t3,t4⟩:=JT a1
 have:=(FT (Lh t4)).2.1
 unfold Cm at b1
 omega
def rgI(sg:List Sg)(ms:List (Int×Int))(i:Int)(o:List Rg):Prop:=(0≤i∧i≤ms.length)∧o=(ms.take i.toNat).map (Jr sg)
theorem b4T{sg:List Sg}{ms:List (Int×Int)}:rgI sg ms 0 []:=⟨by omega,rfl⟩
theorem RV{sg:List Sg}{ms:List (Int×Int)}{i:Int}{o:List Rg}(h:rgI sg ms i o):(0≤i∧i≤ms.length)∧o.length≤ms.length:=by
 refine⟨h.1,?_⟩
 rw[h.2,List.length_map,List.length_take];omega
theorem a3N{sg:List Sg}{ms:List (Int×Int)}{i:Int}{m:Int×Int}(hm:IG sg ms)(h:ms[i.toNat]? =some m):((0≤m.1∧m.1<m.2)∧m.2≤sg.length)∧sg.length≤3000:=⟨hm.2.1 m (CR h),hm.1.1⟩
theorem b4U{sg:List Sg}{ms:List (Int×Int)}{i:Int}{e:Sg}(hm:IG sg ms)(h:sg[i.toNat]? =some e):(0≤e.pos∧e.pos≤3000)∧e.text.length≤3000:=hm.2.2 e (CR h)
theorem b4V{sg:List Sg}{ms:List (Int×Int)}{i:Int}{o:List Rg}{m:Int×Int}{a b:Sg}(h:rgI sg ms i o)(h1:ms[i.toNat]? =some m)(ha:sg[m.1.toNat]? =some a)(hb:sg[(m.2-1).toNat]? =some b):
 rgI sg ms (i+1) (o++[⟨a.pos,b.pos+b.text.length⟩]):=by
 have hl:=(Ds h1).1
 refine⟨by have:=h.1;omega,?_⟩
 rw[h.2,Dd h.1.1,DC h1,List.map_append]
 simp [Jr,Ga ha,Ga hb]
theorem b4W{sg:List Sg}{ms:List (Int×Int)}{i:Int}{o:List Rg}(h:rgI sg ms i o)(hi:¬i<ms.length):o=ms.map (Jr sg):=by
 rw[h.2,List.take_of_length_le (by have:=h.1;omega)]
def mbI(t:List UInt8)(L:List Nd)(i p:Int)(o:List Rg):Prop:=∃sg ms,Br t=some sg∧FZ sg=some (ms,L)∧(0≤i∧i≤(Cm L).length)∧p=fl (FL L) ((Cm L).take i.toNat)∧o=(ms.take i.toNat).map (Jr sg)
theorem b4X{t:List UInt8}{L:List Nd}(h:CB t=some L):∃sg ms,Br t=some sg∧FZ sg=some (ms,L):=by
 unfold CB at h
 obtain⟨sg,h1,h2⟩:=bind_some h
 rw[Option.map_eq_some_iff] at h2
 obtain⟨⟨ms,L'⟩,h3,h4⟩:=h2
 simp only at h4;subst h4
 exact⟨sg,ms,h1,h3⟩
theorem b4Y{t:List UInt8}{L:List Nd}(h:CB t=some L):mbI t L 0 0 []:=by
 obtain⟨sg,ms,h1,h2⟩:=b4X h
 exact⟨sg,ms,h1,h2,by omega,rfl,rfl⟩
theorem Na{t:List UInt8}{L:List Nd}{i p:Int}{o:List Rg}(h:mbI t L i p o):De L=true∧(Cm L).length≤12∧(0≤i∧i≤(Cm L).length)∧o.length≤12:=by
 obtain⟨sg,ms,h1,h2,h3,h4,h5⟩:=h
 obtain⟨a1,a2,q,a3,a4,a5⟩:=OK h2
 obtain⟨t1,t2,t3,t4⟩:=JT a1
 have:=(FT (Lh t4)).2.1
 have hk:(Cm L).length≤12:=this
 refine⟨a1,hk,h3,?_⟩
 rw[h5,List.length_map,List.length_take]
 omega
theorem a3O{L:List Nd}(h:De L=true){i:Int}{k:Int}(hk:(Cm L)[i.toNat]? =some k):FK L 300 k:=by
 obtain⟨t1,t2,t3,t4⟩:=JT h
 have hp:=b4E h
 have hm:=CR hk
 have hu:=NV t4 hm
 refine⟨hu.1,by have:=hu.2;omega,?_⟩
 have hv:=hp.2.2
 rw[Ub] at hv
 have h2:=Wm (ns:=L) (n:=300) hm
 have hv:1+JU L 300 (Cm L)≤300:=hv
 omega
theorem b4Z{L:List Nd}(h:De L=true){i:Int}{k:Int}(hk:(Cm L)[i.toNat]? =some k):AY L 300 k=FL L k:=by
 have hp:=a3O h hk
 have:=Df.1 hp.1.1
 exact VV hp.1 (by have:=hp.2.1;omega) (by omega)
theorem a3P{t:List UInt8}{L:List Nd}{i p k:Int}{o:List Rg}(h:mbI t L i p o)(hk:(Cm L)[i.toNat]? =some k):∃sg m,Br t=some sg∧(Ct sg)[p.toNat]? =some (sgO sg m.1)∧(Ct sg)[(p+(AY L 300 k).length-1).toNat]? =some (sgO sg (m.2-1))∧
 ((0≤p∧1≤(AY L 300 k).length)∧p+(AY L 300 k).length≤(Ct sg).length)∧mbI t L (i+1) (p+(AY L 300 k).length) (o++[Jr sg m]):=by
 have hf:=Na h
 obtain⟨sg,ms,h1,h2,h3,h4,h5⟩:=h
 obtain⟨a1,a2,q,a3,a4,a5⟩:=OK h2
 have hl:=(MZ (Int.le_refl _) a4).1
 have hi:=(Ds hk).1
 have hm:ms[i.toNat]? =some (ms[i.toNat]'(by omega)):=List.getElem?_eq_getElem (by omega)
 obtain⟨b1,b2,b3,b4⟩:=b4l a4 hk hm
 rw[b4Z hf.1 hk]
 refine⟨sg,ms[i.toNat]'(by omega),h1,?_,?_,⟨⟨by rw[h4];omega,b3⟩,by rw[h4];omega⟩,sg,ms,h1,h2,by omega,?_,?_⟩
 ·rw[h4];exact b1
 ·rw[h4,←b2];congr 1;omega
 ·rw[Dd h3.1,DC hk,ZA,h4];simp [fl]
 ·rw[h5,Dd h3.1,DC hm,List.map_append];rfl
theorem b5a{t:List UInt8}{L:List Nd}{sg:List Sg}{i p k:Int}{o:List Rg}{a b:Sg}(hs:Br t=some sg)(h:mbI t L i p o)(hk:(Cm L)[i.toNat]? =some k)(ha:(Ct sg)[p.toNat]? =some a)(hb:(Ct sg)[(p+(AY L 300 k).length-1).toNat]? =some b):
 mbI t L (i+1) (p+(AY L 300 k).length) (o++[⟨a.pos,b.pos+b.text.length⟩]):=by
 obtain⟨sg',m,h1,h2,h3,h4,h5⟩:=a3P h hk
 rw[hs] at h1
 cases h1
 rw[h2] at ha;cases ha
 rw[h3] at hb;cases hb
 exact h5
theorem b5b{t:List UInt8}{L:List Nd}{sg:List Sg}{i p k:Int}{o:List Rg}(hs:Br t=some sg)(h:mbI t L i p o)(hk:(Cm L)[i.toNat]? =some k):(0≤p∧1≤(AY L 300 k).length)∧p+(AY L 300 k).length≤(Ct sg).length:=by
 obtain⟨sg',m,h1,h2,h3,h4,h5⟩:=a3P h hk
 rw[hs] at h1
 cases h1
 exact h4
theorem b5c{t:List UInt8}{L:List Nd}{i p:Int}{o:List Rg}(h:mbI t L i p o)(hi:¬i<(Cm L).length):o=DZ t:=by
 obtain⟨sg,ms,h1,h2,h3,h4,h5⟩:=h
 obtain⟨a1,a2,q,a3,a4,a5⟩:=OK h2
 have hl:=(MZ (Int.le_refl _) a4).1
 rw[h5,List.take_of_length_le (by omega),DZ,h1]
 simp only[h2]
theorem a3Q{t:List UInt8}(h:CB t=none):DZ t=[]:=by
 unfold CB at h
 unfold DZ
 cases h1:Br t with
 |none=>rfl
 |some sg=>
  rw[h1] at h
  simp only[Option.bind_some,Option.map_eq_none_iff] at h
  simp only[h]
theorem b5d{t:List UInt8}{sg:List Sg}{e:Sg}{n:Nat}(hs:Br t=some sg)(hb:sgB sg)(h:(Ct sg)[n]? =some e):(0≤e.pos∧e.pos≤3000)∧e.text.length≤3000:=by
 have hm:∀(m:Nat),∀e∈Eh sg m,e∈sg∨e=Ec:=fun m=>by
  induction m with
  |zero=>intro e he;cases he
  |succ m ih=>
   intro e he
   rw[Eh] at he
   split at he
   ·exact ih e he
   ·rcases List.mem_append.1 he with he|he
    ·exact ih e he
    ·simp only[List.mem_singleton] at he
     subst he
     unfold sgO
     rw[List.getD]
     cases hx:sg[(m:Int).toNat]? with
     |none=>exact .inr rfl
     |some e=>exact .inl (CR hx)
 rcases hm _ e (CR h) with h|h
 ·exact⟨a3L hs e h,hb.2 e h⟩
 ·subst h;simp [Ec]
end Go.My
end
