/- A part of the proof: the engine and the contracts, joined. -/
import Derived.Test.YtplklcfglbkfhaaGreatDoorQD
import Derived.Test.YtplklcfglbkfhaaGreatDoorProg
import Derived.WalkKit
import Derived.Lib.Bytealg
import Derived.Laws.Externs
section
set_option linter.unusedVariables false
set_option linter.unusedSimpArgs false
namespace Go.My
open Go.Eng
def inn(x a b:Int):Bool:=decide (a≤x)&&decide (x≤b)
def isNd(l:List Nd)(k:Int):Bool:=decide (0≤k)&&decide (k<l.length)
def BE(k:Int):Bool:=inn k 1 11
def Jt(k:Int):Bool:=inn k 12 17
def EB(k:Int):Bool:=decide (k=12)||(decide (k=20)||decide (k=19))
def Dx(k:Int):Bool:=decide (k=18)
def DV(k:Int):Bool:=decide (k=1)
def Fv(k:Int):Bool:=decide (k=5)
def EC(k:Int):Bool:=Jt k||decide (k=19)
def GD(k:Int):Bool:=EB k||decide (k=21)
def Fw(p:Int→Bool)(ks:List Int):Bool:=match ks.getLast? with
 |some k=>p k&&ks.dropLast.all DV
 |none=>false
def Ds(k:Int)(ks:List Int):Bool:=
 if k=1∨k=2∨k=3∨k=19 then decide (ks.length=0)
 else if k=4 then ks.all BE
 else if k=5 then decide (1≤ks.length)&&ks.all BE
 else if k=7 then decide (2≤ks.length)&&ks.all BE
 else if k=8 then decide (ks.length=3)&&ks.all BE
 else if k=6∨k=11∨k=13∨k=14 then decide (ks.length=1)&&ks.all BE
 else if k=12∨k=15 then decide (ks.length≤1)&&ks.all BE
 else if k=9 then Fw BE ks
 else if k=10 then decide (2≤ks.length)&&(BE (ks.headD 0)&&(ks.drop 1).all Fv)
 else if k=16 then(decide (2≤ks.length)&&decide (ks.length≤3))&&(BE (ks.headD 0)&&(ks.drop 1).all Dx)
 else if k=17 then decide (ks.length=2)&&(BE (ks.headD 0)&&Dx (ks.getD 1 0))
 else if k=18 then ks.all EC
 else if k=20 then Fw Dx ks
 else if k=21 then ks.all EB
 else if k=22 then ks.all GD
 else false
def Ab(ns:List Nd)(c:Int):Nd:=ns.getD c.toNat ⟨0,[],[],false⟩
def kindAt(ns:List Nd)(c:Int):Int:=(Ab ns c).kind
def callOk(ns:List Nd)(x:Nd)(i:Nat)(c:Int):Bool:=
 let y:=Ab ns c
 if y.kind=5 then match y.kids with
  |[]=>false
  |h::_=>isNd ns h&& !(decide (x.kind=10)&&(decide (0<i)&& !decide (kindAt ns h=1)))
 else true
def DW(ns:List Nd)(x:Nd):Bool:=(x.kids.zipIdx).all fun p=>callOk ns x p.2 p.1
def Dy(l:List Int)(k:Int):Bool:=l.all fun c=>decide (0≤c)&&decide (c<k)
def Hj(k:Int):Bool:=Jt k||(EB k||decide (k=21))
def Hk(ns:List Nd)(k:Int)(x:Nd):Bool:=
 decide (x.kids.length≤12)&&(Dr x.kind x.text&&((Dy x.kids k&&decide x.kids.Nodup)&&(Ds x.kind (x.kids.map (kindAt ns))&&(DW ns x&&(Hj x.kind|| !x.blank)))))
def nodeOk(ns:List Nd)(k:Int):Bool:=isNd ns k&&Hk ns k (Ab ns k)
def mx(ds:List Int):List Int→Int→Int
 |[],d=>d
 |c::l,d=>mx ds l (max d (ds.getD c.toNat 0))
def deeps(ns:List Nd):Nat→Option (List Int)
 |0=>some []
 |n+1=>match deeps ns n with
  |none=>none
  |some ds=>if nodeOk ns n then(if 14≤mx ds (Ab ns n).kids 0 then none else some (ds++[mx ds (Ab ns n).kids 0+1])) else none
def deepOf(ns:List Nd)(k:Int):Int:=if isNd ns k then match deeps ns (k.toNat+1) with
    |none=>0
    |some ds=>ds.getD k.toNat 0
 else 0
def BC(ns:List Nd):List Int:=ns.flatMap (·.kids)
def treeOk(ns:List Nd):Bool:=
 (decide (1≤ns.length)&&decide (ns.length≤300))&&(decide (kindAt ns (ns.length-1)=22)&&(!decide (deepOf ns (ns.length-1)=0)&&((List.range (ns.length-1)).all fun i=>decide ((BC ns).count (i:Int)=1))))
theorem Ci{l:List Nd}{k:Int}:isNd l k=true↔0≤k∧k<l.length:=by simp [isNd]
theorem AZ{ns:List Nd}{c:Int}{x:Nd}(h:ns[c.toNat]? =some x):Ab ns c=x:=by
 simp [Ab,List.getD,h]
theorem TJ(ds:List Int):∀(l:List Int) (d:Int),d≤mx ds l d
 |[],d=>Int.le_refl d
 |c::l,d=>by unfold mx;have:=TJ ds l (max d (ds.getD c.toNat 0));omega
theorem LP{ns:List Nd}:∀ {n:Nat} {ds:List Int},deeps ns n=some ds→ds.length=n
 |0,ds,h=>by cases h;rfl
 |n+1,ds,h=>by
  unfold deeps at h
  split at h
  ·cases h
  ·rename_i ds' hd
   split at h
   ·split at h
    ·cases h
    ·simp at h;rw[←h];simp [LP hd]
   ·cases h
theorem PU{ns:List Nd}:∀ {n:Nat} {ds:List Int},deeps ns n=some ds→∀d∈ds,1≤d∧d≤14
 |0,ds,h=>by cases h;simp
 |n+1,ds,h=>by
  unfold deeps at h
  split at h
  ·cases h
  ·rename_i ds' hd
   split at h
   ·split at h
    ·cases h
    ·simp at h;rw[←h]
     intro d hdm
     rcases List.mem_append.1 hdm with hdm|hdm
     ·exact PU hd d hdm
     ·simp at hdm
      have:=TJ ds' (Ab ns n).kids 0
      omega
   ·cases h
theorem Xx{ns:List Nd}:∀ {n:Nat} {ds:List Int},deeps ns n=some ds→∀i,i<n→nodeOk ns i=true
 |0,ds,h,i,hi=>by omega
 |n+1,ds,h,i,hi=>by
  unfold deeps at h
  split at h
  ·cases h
  ·rename_i ds' hd
   split at h
   ·rename_i hok
    by_cases e:i=n
    ·subst e;exact hok
    ·exact Xx hd i (by omega)
   ·cases h
theorem TK{ns:List Nd}{n m:Nat}(h:deeps ns n=none)(hm:n≤m):deeps ns m=none:=by
 induction m with
 |zero=>obtain rfl:n=0:=by omega
        exact h
 |succ m ih=>
  by_cases e:n=m+1
  ·subst e;exact h
  ·unfold deeps;rw[ih (by omega)]
theorem PV{ns:List Nd}{k:Int}(h:deepOf ns k≠0):isNd ns k=true∧(∃ds,deeps ns (k.toNat+1)=some ds)∧∀i:Nat,(i:Int)≤k→nodeOk ns i=true:=by
 unfold deepOf at h
 split at h
 ·rename_i hn
  split at h
  ·exact(h rfl).elim
  ·rename_i ds hd
   exact⟨hn,⟨ds,hd⟩,fun i hi=>Xx hd i (by have:=Ci.1 hn;omega)⟩
 ·exact(h rfl).elim
theorem a4Y{ns:List Nd}{k:Int}{ds:List Int}(hn:isNd ns k=true)(h:deeps ns (k.toNat+1)=some ds):deepOf ns k≠0:=by
 unfold deepOf
 rw[if_pos hn,h]
 have hl:=LP h
 have:ds[k.toNat]? =some ds[k.toNat]:=by simp
 simp only[List.getD,this,Option.getD_some]
 have:=PU h ds[k.toNat] (by simp)
 omega
theorem CS{ns:List Nd}{k:Int}(h:nodeOk ns k=true):(0≤k∧k<ns.length)∧(Ab ns k).kids.length≤12∧Dr (Ab ns k).kind (Ab ns k).text=true∧
 (∀c∈(Ab ns k).kids,0≤c∧c<k)∧(Ab ns k).kids.Nodup∧Ds (Ab ns k).kind ((Ab ns k).kids.map (kindAt ns))=true∧DW ns (Ab ns k)=true:=by
 simp only[nodeOk,Hk,Bool.and_eq_true,decide_eq_true_eq,Dy,List.all_eq_true] at h
 exact⟨Ci.1 h.1,h.2.1,h.2.2.1,h.2.2.2.1.1,h.2.2.2.1.2,h.2.2.2.2.1,h.2.2.2.2.2.1⟩
end Go.My
end
section
set_option linter.unusedVariables false
set_option linter.unusedSimpArgs false
namespace Go.My
open Go.Eng
def EO(k:Int):Int×Int:=
 if k=4∨k=18∨k=21∨k=22 then(0,12)
 else if k=5∨k=9∨k=20 then(1,12)
 else if k=6∨k=11∨k=13∨k=14 then(1,1)
 else if k=7∨k=10 then(2,12)
 else if k=8 then(3,3)
 else if k=12∨k=15 then(0,1)
 else if k=16 then(2,3)
 else if k=17 then(2,2)
 else(0,0)
def FW(k n i y:Int):Bool:=
 if k=9 then(if i+1<n then DV y else BE y)
 else if k=20 then(if i+1<n then DV y else Dx y)
 else if k=10 then(if 0<i then Fv y else BE y)
 else if k=16∨k=17 then(if 0<i then Dx y else BE y)
 else if k=18 then EC y
 else if k=21 then EB y
 else if k=22 then GD y
 else BE y
def Ke(ns:List Nd)(x:Nd)(i c:Int):Bool:=
 FW x.kind x.kids.length i (kindAt ns c)&&(if x.kind=10∧0<i then decide (kindAt ns ((Ab ns c).kids.headD 0)=1) else true)
def Dz(ns:List Nd)(x:Nd)(i c:Int):Bool:=
 (!(decide (kindAt ns c=5)&&(decide ((Ab ns c).kids.length=0)|| !isNd ns ((Ab ns c).kids.headD 0))))&&Ke ns x i c
def BN(f:Int→Int→Bool):List Int→Int→Bool
 |[],_=>true
 |c::l,i=>f i c&&BN f l (i+1)
theorem TL{f g:Int→Int→Bool}:∀ {l:List Int} {i:Int},(∀j c,i≤j→j<i+l.length→c∈l→f j c=g j c)→BN f l i=BN g l i
 |[],i,h=>rfl
 |c::l,i,h=>by
  simp only[BN]
  rw[h i c (Int.le_refl i) (by simp;omega) (by simp),TL (fun j c hj hl hc=>h j c (by omega) (by simp;omega) (by simp [hc]))]
theorem Xy{f g:Int→Int→Bool}:∀ {l:List Int} {i:Int},BN (fun i c=>f i c&&g i c) l i=(BN f l i&&BN g l i)
 |[],i=>rfl
 |c::l,i=>by
  simp only[BN];rw[Xy]
  cases f i c<;>cases g i c<;>cases BN f l (i+1)<;>cases BN g l (i+1)<;>rfl
theorem PW{f:Int→Bool}:∀ {l:List Int} {i:Int},BN (fun _ c=>f c) l i=l.all f
 |[],i=>rfl
 |c::l,i=>by simp only[BN,List.all_cons];rw[PW]
theorem Xz{f:Int→Int→Bool}{g:Int→Int}:∀ {l:List Int} {i:Int},BN f (l.map g) i=BN (fun i c=>f i (g c)) l i
 |[],i=>rfl
 |c::l,i=>by simp only[BN,List.map_cons];rw[Xz]
theorem XA{f:Int→Int→Bool}:∀ {l m:List Int} {i:Int},BN f (l++m) i=(BN f l i&&BN f m (i+l.length))
 |[],m,i=>by simp [BN]
 |c::l,m,i=>by
  simp only[List.cons_append,BN];rw[XA,Bool.and_assoc]
  congr 2;congr 1;simp;omega
theorem TM{f:Int→Int→Bool}:∀ {l:List Int} {i:Nat},((l.zipIdx i).all fun p=>f p.2 p.1)=BN f l i
 |[],i=>rfl
 |c::l,i=>by
  simp only[List.zipIdx_cons,List.all_cons,BN];rw[TM];congr 2
theorem TN{f:Int→Int→Bool}{l:List Int}:BN f l 0=true↔∀(j:Nat) c,l[j]? =some c→f j c=true:=by
 have:∀(l:List Int) (i:Nat),BN f l i=true↔∀(j:Nat) c,l[j]? =some c→f (i+j:Nat) c=true:=by
  intro l
  induction l with
  |nil=>intro i;simp [BN]
  |cons c l ih=>
   intro i
   simp only[BN,Bool.and_eq_true]
   have:=ih (i+1)
   rw[show((i:Int)+1)=((i+1:Nat):Int) from by omega,this]
   constructor
   ·rintro⟨h1,h2⟩ j d hd
    cases j with
    |zero=>simp at hd;subst hd;simpa using h1
    |succ j=>have:=h2 j d (by simpa using hd);rwa [show i+1+j=i+(j+1) by omega] at this
   ·intro h
    refine⟨by simpa using h 0 c rfl,fun j d hd=> ?_⟩
    have:=h (j+1) d (by simpa using hd)
    rwa [show i+(j+1)=i+1+j by omega] at this
 have:=this l 0
 simpa using this
theorem a4Z{l:List Int}{k:Int}(h:l.getLast? =some k):l=l.dropLast++[k]:=by
 have hne:l≠[]:=by intro e;rw[e] at h;cases h
 rw[List.getLast?_eq_some_getLast hne] at h
 have:=List.dropLast_concat_getLast hne
 rw[Option.some.inj h] at this;exact this.symm
theorem XB{p:Int→Bool}{l:List Int}:(decide (1≤l.length)&&BN (fun i y=>if i+1<(l.length:Int) then DV y else p y) l 0)=Fw p l:=by
 unfold Fw
 cases h:l.getLast? with
 |none=>have:l=[]:=by simpa using h
        subst this;rfl
 |some k=>
  have e:=a4Z h
  generalize hd:l.dropLast=m at e ⊢
  subst e
  rw[XA]
  have h1:BN (fun i y=>if i+1<((m++[k]).length:Int) then DV y else p y) m 0=m.all DV:=by
   rw[←PW (i:=0)]
   exact TL fun j c h0 hj hc=>if_pos (by simp;omega)
  rw[h1]
  simp only[BN]
  have h2:¬((0:Int)+m.length+1<((m++[k]).length:Int)):=by simp
  rw[if_neg h2]
  have:decide (1≤(m++[k]).length)=true:=by simp
  rw[this];simp [Bool.and_comm]
theorem XC{p q:Int→Bool}{c:Int}{l:List Int}:BN (fun i y=>if 0<i then q y else p y) (c::l) 0=(p c&&l.all q):=by
 simp only[BN]
 have h1:¬((0:Int)<0):=by omega
 rw[if_neg h1]
 congr 1
 rw[←PW (i:=0+1)]
 exact TL fun j c h0 hj hc=>if_pos (by omega)
theorem a5a{k:Int}{l:List Int}(h1:1≤k)(h2:k≤22):(inn l.length (EO k).1 (EO k).2&&BN (fun i y=>FW k l.length i y) l 0)=(decide (l.length≤12)&&Ds k l):=by
 have hk:k=1∨k=2∨k=3∨k=4∨k=5∨k=6∨k=7∨k=8∨k=9∨k=10∨k=11∨k=12∨k=13∨k=14∨k=15∨k=16∨k=17∨k=18∨k=19∨k=20∨k=21∨k=22:=by omega
 have len0:∀ {b c:Bool},l.length=0→(l=[]):=fun h=>List.length_eq_zero_iff.1 h
 rcases hk with rfl|rfl|rfl|rfl|rfl|rfl|rfl|rfl|rfl|rfl|rfl|rfl|rfl|rfl|rfl|rfl|rfl|rfl|rfl|rfl|rfl|rfl
 all_goals simp only[EO,FW,Ds,inn,Int.reduceEq,or_self,or_false,false_or,or_true,true_or,if_true,if_false,reduceIte]
 all_goals try(
  by_cases h:l.length=0
  ·have:=List.length_eq_zero_iff.1 h;subst this;rfl
  ·have e1:decide ((l.length:Int)≤0)=false:=decide_eq_false (by omega)
   have e2:decide (l.length=0)=false:=decide_eq_false h
   simp only[e1,e2,Bool.and_false,Bool.false_and];done)
 all_goals try rw[PW]
 all_goals try(
  generalize l.all _=b
  rw[Bool.eq_iff_iff];cases b<;>simp only[Bool.and_eq_true,decide_eq_true_eq,Bool.false_eq_true,and_false,and_true]<;>omega)
 ·rw[show decide (1≤(l.length:Int))=decide (1≤l.length) from decide_eq_decide.2 (by omega),show decide ((l.length:Int)≤12)=decide (l.length≤12) from decide_eq_decide.2 (by omega),←XB (p:=BE)]
  generalize BN _ l 0=b
  cases decide (1≤l.length)<;>cases decide (l.length≤12)<;>cases b<;>rfl
 ·cases l with
  |nil=>rfl
  |cons c l=>
   rw[XC]
   simp only[List.headD_cons,List.drop_succ_cons,List.drop_zero]
   generalize BE c=b;generalize l.all _=d
   rw[Bool.eq_iff_iff];cases b<;>cases d<;>simp only[Bool.and_eq_true,decide_eq_true_eq,Bool.false_eq_true,and_false,and_true]<;>omega
 ·cases l with
  |nil=>rfl
  |cons c l=>
   rw[XC]
   simp only[List.headD_cons,List.drop_succ_cons,List.drop_zero]
   generalize BE c=b;generalize l.all _=d
   rw[Bool.eq_iff_iff];cases b<;>cases d<;>simp only[Bool.and_eq_true,decide_eq_true_eq,Bool.false_eq_true,and_false,and_true]<;>omega
 ·match l with
  |[]=>rfl
  |[c]=>rfl
  |[c,d]=>simp [BN]
  |c::d::e::l=>
   have e1:decide (((c::d::e::l).length:Int)≤2)=false:=decide_eq_false (by simp;omega)
   have e2:decide ((c::d::e::l).length=2)=false:=decide_eq_false (by simp)
   rw[e1,e2];simp
 ·rw[show decide (1≤(l.length:Int))=decide (1≤l.length) from decide_eq_decide.2 (by omega),show decide ((l.length:Int)≤12)=decide (l.length≤12) from decide_eq_decide.2 (by omega),←XB (p:=Dx)]
  generalize BN _ l 0=b
  cases decide (1≤l.length)<;>cases decide (l.length≤12)<;>cases b<;>rfl
theorem a5b{k:Int}{l:List Int}(h:inn k 1 22=false):Ds k l=false:=by
 have h:¬(1≤k∧k≤22):=by intro hh;simp [inn] at h;omega
 unfold Ds
 have e:∀j:Int,1≤j→j≤22→k≠j:=fun j h1 h2 e=>h (by omega)
 simp [e]
theorem a5c{ns:List Nd}{x:Nd}{i c:Int}:Dz ns x i c=(FW x.kind x.kids.length i (kindAt ns c)&&callOk ns x i.toNat c):=by
 unfold Dz Ke callOk kindAt
 generalize hy:Ab ns c=y
 by_cases h5:y.kind=5
 ·simp only[h5,if_true,decide_true,Bool.true_and]
  cases hk:y.kids with
  |nil=>simp
  |cons h t=>
   simp only[List.length_cons,List.headD_cons]
   have e0:decide (t.length+1=0)=false:=by simp
   rw[e0]
   by_cases hx:x.kind=10∧0<i
   ·have hi:0<i.toNat:=by omega
    simp only[hx,and_self,if_true,decide_true,Bool.true_and,hi]
    generalize FW 10 _ _ _=a;generalize isNd ns h=b
    by_cases hd:(Ab ns h).kind=1<;>cases a<;>cases b<;>simp [hd]
   ·rw[if_neg hx]
    have:(decide (x.kind=10)&&(decide (0<i.toNat)&& !decide ((Ab ns h).kind=1)))=false:=by
     by_cases h1:x.kind=10
     ·have:¬0<i.toNat:=by omega
      simp [this]
     ·simp [h1]
    rw[this]
    generalize FW _ _ _ _=a;generalize isNd ns h=b
    cases a<;>cases b<;>rfl
 ·simp only[h5,if_false,decide_false,Bool.false_and,Bool.not_false,Bool.true_and,Bool.and_true]
  by_cases hx:x.kind=10∧0<i
  ·rw[if_pos hx]
   have:FW x.kind x.kids.length i y.kind=false:=by
    simp [FW,hx,Fv,h5]
   rw[this];rfl
  ·rw[if_neg hx];simp
theorem a5d{ns:List Nd}{k:Int}{x:Nd}:Hk ns k x=
 (inn x.kind 1 22&&(inn x.kids.length (EO x.kind).1 (EO x.kind).2&&(Dr x.kind x.text&&((Hj x.kind|| !x.blank)&&((Dy x.kids k&&decide x.kids.Nodup)&&BN (Dz ns x) x.kids 0))))):=by
 have e1:BN (Dz ns x) x.kids 0=(BN (fun i y=>FW x.kind (x.kids.map (kindAt ns)).length i y) (x.kids.map (kindAt ns)) 0&&DW ns x):=by
  have:(Dz ns x)=fun i c=>(FW x.kind x.kids.length i (kindAt ns c)&&callOk ns x i.toNat c):=by
   funext i c;exact a5c
  rw[this,Xy,Xz,List.length_map]
  congr 1
  unfold DW
  have:(fun p:Int×Nat=>callOk ns x p.2 p.1)=fun p:Int×Nat=>(fun(i c:Int)=>callOk ns x i.toNat c) p.2 p.1:=by
   funext p;simp
  rw[this]
  exact(TM (f:=fun i c=>callOk ns x i.toNat c) (i:=0)).symm
 unfold Hk
 by_cases h:inn x.kind 1 22=true
 ·have hb:= @a5a x.kind (x.kids.map (kindAt ns)) (by simp [inn] at h;omega) (by simp [inn] at h;omega)
  rw[List.length_map] at hb
  rw[e1,List.length_map,h]
  generalize decide (x.kids.length≤12)=a at hb ⊢;generalize Ds x.kind _=b at hb ⊢;generalize inn _ _ _=c at hb ⊢
  generalize BN _ _ 0=d at hb ⊢;generalize Dr _ _=e;generalize Hj _=f;generalize DW _ _=g;generalize Dy _ _=h1;generalize decide x.kids.Nodup=h2
  cases a<;>cases b<;>cases c<;>cases d<;>simp at hb<;>cases e<;>cases f<;>cases g<;>cases h1<;>cases h2<;>simp
 ·simp only[Bool.not_eq_true] at h
  rw[a5b h,h];simp
end Go.My
end
section
set_option linter.unusedVariables false
set_option linter.unusedSimpArgs false
namespace Go.My
open Go.Eng Go.Proofs Go.RowKit
variable {G:GInv}
def Cq(s:List UInt8)(c:UInt8):Int:=match Dw (fun d=>decide (d.toNat=c.toNat)) s with
 |none=> -1
 |some i=>i
theorem XD:∀(s:List UInt8) (c:UInt8),Lib.indexByte s c=Cq s c
 |[],c=>rfl
 |b::s,c=>by
  unfold Lib.indexByte Cq Dw
  have e:(b==c)=decide (b.toNat=c.toNat):=by
   rw[Bool.eq_iff_iff];simp [UInt8.toNat_inj]
  rw[e]
  by_cases h:b.toNat=c.toNat
  ·simp [h]
  ·have ih:=XD s c
   unfold Cq at ih
   simp only[h,decide_false,Bool.false_eq_true,if_false]
   rw[ih]
   cases hh:Dw (fun d=>decide (d.toNat=c.toNat)) s with
   |none=>simp
   |some i=>simp
set_option maxHeartbeats 1000000 in
set_option maxRecDepth 100000 in
theorem a5e(s:ByteArray)(c:Int)(w:World):
 Calls Tryz.prog 196 #[.string s,.int .u8 c] w fun e w'=>e= .returned (.int .i64 (Lib.indexByte s.data.toList c.toNat.toUInt8))∧w'=w:=by
 go_enter Tryz.func196,Tryz.ntmps196
 go_wp2
 rw[run_callFunc_extern Tryz.func207 (by kernel_rfl) (by kernel_rfl) (by kernel_rfl) (e:=Extern.BytealgIndexByte.indexByte) (by kernel_rfl),Lib.run_indexByteString]
 simp only[Result.andThen]
 rw[Oper.upon_value]
 go_wp2
 go_ret
 exact⟨rfl,rfl⟩
def LQ:Sig:= {X:=List UInt8×UInt8,args:=fun x=>[.str x.1,.int .u8 x.2.toNat],pre:=fun _=>True,Y:=Unit,post:=fun _ _=>True,res:=fun x _=> .int .i64 (Cq x.1 x.2),outs:=fun _ _=>[.top,.top],keep:=false}
theorem TO:Al G Tryz.prog 196 LQ:=by
 refine⟨⟨⟨_,Tryz.func196,by kernel_rfl,by kernel_rfl⟩,fun x y _ _=>⟨trivial,trivial,trivial,trivial⟩⟩,?_⟩
 rintro⟨l,c⟩ _ Z w vals A _ h hA _
 simp only[LQ,AX,Aj] at h
 obtain⟨v,cs,A1,A2,rfl,_,⟨rfl,_⟩,v',cs',A3,A4,rfl,_,⟨rfl,_⟩,rfl,_⟩:=h
 refine(a5e ⟨l.toArray⟩ c.toNat w).mono ?_
 rintro e w' ⟨rfl,rfl⟩
 refine⟨(),_,Z,(fun _=>False),trivial,rfl,?_,⟨rfl,rfl,rfl,Nat.le_refl _,fun _ _ _=>⟨rfl,Iff.rfl⟩,fun _ h=>h.elim⟩⟩
 simp only[LQ,AX,Aj]
 refine⟨_,_,_,_,rfl,BD _,⟨?_,AQ⟩,_,_,_,_,rfl,BD _,AQ,_,_,_,_,rfl,BD _,AQ,rfl,AQ⟩
 rw[XD];simp
def PX:Sig:= {X:=List UInt8,args:=fun x=>[.str x,.int .u8 39],pre:=fun _=>True,Y:=Unit,post:=fun _ _=>True,res:=fun x _=> .int .i64 (Cq x 39),outs:=fun _ _=>[.top,.top],keep:=false}
theorem a5f:Al G Tryz.prog 196 PX:=⟨⟨(TO (G:=G)).1.1,fun x y _ _=>⟨trivial,trivial,trivial,trivial⟩⟩,fun x hx=>(TO (G:=G)).2 (x,39) trivial⟩
def LR:Sig:= {X:=List UInt8,args:=fun x=>[.str x,.int .u8 39],pre:=fun x=>True,Y:=Unit,post:=fun x y=>True,res:=fun x y=> .int .i64 (Cq x 39),outs:=fun x y=>[.top,.top],keep:=false}
theorem a5g:Al G Tryz.prog 182 LR:=
 vcFun_okP [(196,0,PX)] [] false (fun x=>[]) Tryz.func182 rfl (by decide) ⟨a5f,trivial⟩ (fun(x:List UInt8)=>(∀(y:Unit),True→True∧True∧True∧True)∧cA PX [.str x,AV.int IntKind.u8 (39:Int)] fun x_1 y=>rA LR x [.int .i64 (Cq x_1 (39:UInt8)),.top,.top]) (fun x=>by kernel_rfl) fun(x:List UInt8) (hx:True)=>(by
 dsimp only[cA,rA,PX,LR,Av,AA,mvL,lnL,mvE,lnE]
 (repeat' first|(with_reducible first|rfl|exact True.intro|apply AL|apply And.intro|((first|apply AB|apply AJ|apply AC|apply AK)<;>intro _))|(apply Az<;>intro _)|apply AI|refine Ag () ?_ ?_|((first|apply AP|apply AO|apply AN|apply AM|apply AH|apply AG|apply AF|apply AE|apply AD)<;>try dsimp only)|apply Ag|(refine Prod.forall.2 ?_;intro _;try dsimp only)|(intro _;try dsimp only))<;>(try dsimp only at*)<;>(try simp only[AR,List.length_cons,List.length_nil])<;>(try omega))
def Ir:Sig:= {X:=List UInt8×List UInt8,args:=fun x=>[.str x.1,.str x.2],pre:=fun x=>x.2.length=1,Y:=Unit,post:=fun x y=>True,res:=fun x y=> .int .i64 (Cq x.1 (x.2.headD 0)),outs:=fun x y=>[.top,.top],keep:=false}
theorem a5h:Al G Tryz.prog 211 Ir:=
 vcFun_okP [(196,0,LQ)] [] false (fun x=>[]) Tryz.func211 rfl (by decide) ⟨TO,trivial⟩ (fun(x:List UInt8×List UInt8)=>(∀(y:Unit),True→True∧True∧True∧True)∧Aa ((↑(List.length x.2):Int)==(0:Int)) (rA Ir x [.int .i64 (0:Int),.top,.top]) (Aa (x.2==x.1) (rA Ir x [.int .i64 (0:Int),.top,.top]) (Aa ((↑(List.length x.2):Int)==(1:Int)) (((0:Int)≤(0:Int)∧(0:Int)<(↑(List.length x.2):Int))∧∀(c:UInt8),x.2[(0:Nat)]? =some c→cA LQ [.str x.1,AV.int IntKind.u8 (↑(UInt8.toNat c):Int)] fun x_1 y=>rA Ir x [.int .i64 (Cq x_1.1 x_1.2),.top,.top]) (Aa (decide ((↑(List.length x.2):Int)≥(↑(List.length x.1):Int))) (rA Ir x [.int .i64 (-1:Int),.top,.top]) False)))) (fun x=>by kernel_rfl) fun(x:List UInt8×List UInt8) (hx:x.2.length=1)=>(by
 dsimp only[cA,rA,LQ,Ir,Av,AA,mvL,lnL,mvE,lnE]
 (repeat' first|(with_reducible first|rfl|exact True.intro|apply AL|apply And.intro|((first|apply AB|apply AJ|apply AC|apply AK)<;>intro _))|(apply Az<;>intro _)|apply AI|refine Ag () ?_ ?_|((first|apply AP|apply AO|apply AN|apply AM|apply AH|apply AG|apply AF|apply AE|apply AD)<;>try dsimp only)|apply Ag|(refine Prod.forall.2 ?_;intro _;try dsimp only)|(intro _;try dsimp only))<;>(try dsimp only at*)<;>(try simp only[AR,List.length_cons,List.length_nil])<;>(try omega)
 ·rename_i _ h;rw[←h];match x.2,hx with
  |[c],_=>simp [Cq,Dw]
 ·rename_i c hc _ _
  match x.2,hx,hc with
  |[d],_,hc=>simp at hc;rw[←hc];rfl)
def LT:Sig:= {X:=List UInt8×List UInt8,args:=fun x=>[.str x.1,.str x.2],pre:=fun x=>x.2.length=1,Y:=Unit,post:=fun x y=>True,res:=fun x y=> .int .i64 (Cq x.1 (x.2.headD 0)),outs:=fun x y=>[.top,.top],keep:=false}
theorem a5i:Al G Tryz.prog 201 LT:=
 vcFun_okP [(211,0,Ir)] [] false (fun x=>[]) Tryz.func201 rfl (by decide) ⟨a5h,trivial⟩ (fun(x:List UInt8×List UInt8)=>(∀(y:Unit),True→True∧True∧True∧True)∧cA Ir [.str x.1,.str x.2] fun x_1 y=>rA LT x [.int .i64 (Cq x_1.1 (List.headD x_1.2 (0:UInt8))),.top,.top]) (fun x=>by kernel_rfl) fun(x:List UInt8×List UInt8) (hx:x.2.length=1)=>(by
 dsimp only[cA,rA,LT,Ir,Av,AA,mvL,lnL,mvE,lnE]
 (repeat' first|(with_reducible first|rfl|exact True.intro|apply AL|apply And.intro|((first|apply AB|apply AJ|apply AC|apply AK)<;>intro _))|(apply Az<;>intro _)|apply AI|refine Ag () ?_ ?_|((first|apply AP|apply AO|apply AN|apply AM|apply AH|apply AG|apply AF|apply AE|apply AD)<;>try dsimp only)|apply Ag|(refine Prod.forall.2 ?_;intro _;try dsimp only)|(intro _;try dsimp only))<;>(try dsimp only at*)<;>(try simp only[AR,List.length_cons,List.length_nil])<;>(try omega))
def LU:Sig:= {X:=List UInt8×List UInt8,args:=fun x=>[.str x.1,.str x.2],pre:=fun x=>x.2.length=1,Y:=Unit,post:=fun x y=>True,res:=fun x y=> .bool (decide (Cq x.1 (x.2.headD 0)≥0)),outs:=fun x y=>[.top,.top],keep:=false}
theorem a5j:Al G Tryz.prog 185 LU:=
 vcFun_okP [(201,0,LT)] [] false (fun x=>[]) Tryz.func185 rfl (by decide) ⟨a5i,trivial⟩ (fun(x:List UInt8×List UInt8)=>(∀(y:Unit),True→True∧True∧True∧True)∧cA LT [.str x.1,.str x.2] fun x_1 y=>rA LU x [.bool (decide (Cq x_1.1 (List.headD x_1.2 (0:UInt8))≥(0:Int))),.top,.top]) (fun x=>by kernel_rfl) fun(x:List UInt8×List UInt8) (hx:x.2.length=1)=>(by
 dsimp only[cA,rA,LU,LT,Av,AA,mvL,lnL,mvE,lnE]
 (repeat' first|(with_reducible first|rfl|exact True.intro|apply AL|apply And.intro|((first|apply AB|apply AJ|apply AC|apply AK)<;>intro _))|(apply Az<;>intro _)|apply AI|refine Ag () ?_ ?_|((first|apply AP|apply AO|apply AN|apply AM|apply AH|apply AG|apply AF|apply AE|apply AD)<;>try dsimp only)|apply Ag|(refine Prod.forall.2 ?_;intro _;try dsimp only)|(intro _;try dsimp only))<;>(try dsimp only at*)<;>(try simp only[AR,List.length_cons,List.length_nil])<;>(try omega))
def Kf:Sig:= {X:=List UInt8×List UInt8,args:=fun x=>[.str x.1,.str x.2],pre:=fun x=>x.2.length<2^62∧x.1.length<2^63,Y:=Unit,post:=fun x y=>True,res:=fun x y=> .bool (x.1.take x.2.length==x.2),outs:=fun x y=>[.top,.top],keep:=false}
theorem a5k:Al G Tryz.prog 183 Kf:=
 vcFun_okP [] [] false (fun x=>[]) Tryz.func183 rfl (by decide) trivial (fun(x:List UInt8×List UInt8)=>(∀(y:Unit),True→True∧True∧True∧True)∧Aa (decide ((↑(List.length x.1):Int)≥(↑(List.length x.2):Int))) (((0:Int)≤(0:Int)∧(0:Int)≤(↑(List.length x.2):Int)∧(↑(List.length x.2):Int)≤(↑(List.length x.1):Int))∧rA Kf x [.bool (List.take (Int.toNat (↑(List.length x.2):Int)) x.1==x.2),.top,.top]) (rA Kf x [.bool false,.top,.top])) (fun x=>by kernel_rfl) fun(x:List UInt8×List UInt8) (hx:x.2.length<2^62∧x.1.length<2^63)=>(by
 dsimp only[rA,Kf,Av,AA]
 obtain⟨h1,h2⟩:=hx
 (repeat' first|(with_reducible first|rfl|exact True.intro|apply AL|apply And.intro|((first|apply AB|apply AJ|apply AC|apply AK)<;>intro _))|(apply Az<;>intro _)|apply AI|refine Ag () ?_ ?_|((first|apply AP|apply AO|apply AN|apply AM|apply AH|apply AG|apply AF|apply AE|apply AD)<;>try dsimp only)|apply Ag|(refine Prod.forall.2 ?_;intro _;try dsimp only)|(intro _;try dsimp only))<;>(try dsimp only at*)<;>(try simp only[AR,List.length_cons,List.length_nil])<;>(try omega)
 ·simp
 ·rename_i h;rw[eq_comm,beq_eq_false_iff_ne];intro e;have:=congrArg List.length e;simp at this;omega)
def LV:Sig:= {X:=List UInt8×List UInt8,args:=fun x=>[.str x.1,.str x.2],pre:=fun x=>x.2.length<2^62∧x.1.length<2^63,Y:=Unit,post:=fun x y=>True,res:=fun x y=> .bool (x.1.take x.2.length==x.2),outs:=fun x y=>[.top,.top],keep:=false}
theorem a5l:Al G Tryz.prog 164 LV:=
 vcFun_okP [(183,0,Kf)] [] false (fun x=>[]) Tryz.func164 rfl (by decide) ⟨a5k,trivial⟩ (fun(x:List UInt8×List UInt8)=>(∀(y:Unit),True→True∧True∧True∧True)∧cA Kf [.str x.1,.str x.2] fun x_1 y=>rA LV x [.bool (List.take (List.length x_1.2) x_1.1==x_1.2),.top,.top]) (fun x=>by kernel_rfl) fun(x:List UInt8×List UInt8) (hx:x.2.length<2^62∧x.1.length<2^63)=>(by
 dsimp only[cA,rA,LV,Kf,Av,AA,mvL,lnL,mvE,lnE]
 obtain⟨h1,h2⟩:=hx
 (repeat' first|(with_reducible first|rfl|exact True.intro|apply AL|apply And.intro|((first|apply AB|apply AJ|apply AC|apply AK)<;>intro _))|(apply Az<;>intro _)|apply AI|refine Ag () ?_ ?_|((first|apply AP|apply AO|apply AN|apply AM|apply AH|apply AG|apply AF|apply AE|apply AD)<;>try dsimp only)|apply Ag|(refine Prod.forall.2 ?_;intro _;try dsimp only)|(intro _;try dsimp only))<;>(try dsimp only at*)<;>(try simp only[AR,List.length_cons,List.length_nil])<;>(try omega))
end Go.My
end
section
set_option linter.unusedVariables false
set_option linter.unusedSimpArgs false
namespace Go.My
open Go.Eng Go.Proofs
variable {G:GInv}
def EP:Sig:= {X:=Int×Int×Int,args:=fun x=>[.int .i64 x.1,.int .i64 x.2.1,.int .i64 x.2.2],pre:=fun x=>True,Y:=Unit,post:=fun x y=>True,res:=fun x y=> .bool (inn x.1 x.2.1 x.2.2),outs:=fun x y=>[.top,.top,.top],keep:=false}
theorem PY:Al G Tryz.prog 57 EP:=
 vcFun_okP [] [] false (fun x=>[]) Tryz.func57 rfl (by decide) trivial (fun(x:Int×Int×Int)=>(∀(y:Unit),True→True∧True∧True∧True∧True)∧Aa (decide (x.1≥x.2.1)) (rA EP x [.bool (decide (x.1≤x.2.2)),.top,.top,.top]) (rA EP x [.bool false,.top,.top,.top])) (fun x=>by kernel_rfl) fun(x:Int×Int×Int) (hx:True)=>(by
 dsimp only[rA,EP,Av,AA]
 (repeat' first|(with_reducible first|rfl|exact True.intro|apply AL|apply And.intro|((first|apply AB|apply AJ|apply AC|apply AK)<;>intro _))|(apply Az<;>intro _)|apply AI|refine Ag () ?_ ?_|((first|apply AP|apply AO|apply AN|apply AM|apply AH|apply AG|apply AF|apply AE|apply AD)<;>try dsimp only)|apply Ag|(refine Prod.forall.2 ?_;intro _;try dsimp only)|(intro _;try dsimp only))<;>(try dsimp only at*)<;>(try simp only[AR,List.length_cons,List.length_nil])<;>(try omega)
 all_goals simp [inn, *])
def CB:Sig:= {X:=Int×Int×Int,args:=fun x=>[.int .i64 x.1,.int .i64 x.2.1,.int .i64 x.2.2],pre:=fun x=>True,Y:=Unit,post:=fun x y=>True,res:=fun x y=> .bool (inn x.1 x.2.1 x.2.2),outs:=fun x y=>[.top,.top,.top],keep:=false}
theorem Kg:Al G Tryz.prog 64 CB:=
 vcFun_okP [] [] false (fun x=>[]) Tryz.func64 rfl (by decide) trivial (fun(x:Int×Int×Int)=>(∀(y:Unit),True→True∧True∧True∧True∧True)∧Aa (decide (x.1≥x.2.1)) (rA CB x [.bool (decide (x.1≤x.2.2)),.top,.top,.top]) (rA CB x [.bool false,.top,.top,.top])) (fun x=>by kernel_rfl) fun(x:Int×Int×Int) (hx:True)=>(by
 dsimp only[rA,CB,Av,AA]
 (repeat' first|(with_reducible first|rfl|exact True.intro|apply AL|apply And.intro|((first|apply AB|apply AJ|apply AC|apply AK)<;>intro _))|(apply Az<;>intro _)|apply AI|refine Ag () ?_ ?_|((first|apply AP|apply AO|apply AN|apply AM|apply AH|apply AG|apply AF|apply AE|apply AD)<;>try dsimp only)|apply Ag|(refine Prod.forall.2 ?_;intro _;try dsimp only)|(intro _;try dsimp only))<;>(try dsimp only at*)<;>(try simp only[AR,List.length_cons,List.length_nil])<;>(try omega)
 all_goals simp [inn, *])
def FX:Sig:= {X:=UInt8,args:=fun x=>[.int .u8 x.toNat],pre:=fun x=>True,Y:=Unit,post:=fun x y=>True,res:=fun x y=> .bool (Bn x),outs:=fun x y=>[.top],keep:=false}
theorem TP:Al G Tryz.prog 162 FX:=
 vcFun_okP [] [] false (fun x=>[]) Tryz.func162 rfl (by decide) trivial (fun(x:UInt8)=>(∀(y:Unit),True→True∧True∧True)∧Aa (decide ((↑(UInt8.toNat x):Int)≥(48:Int))) (rA FX x [.bool (decide ((↑(UInt8.toNat x):Int)≤(57:Int))),.top]) (rA FX x [.bool false,.top])) (fun x=>by kernel_rfl) fun(x:UInt8) (hx:True)=>(by
 dsimp only[rA,FX,Av,AA]
 (repeat' first|(with_reducible first|rfl|exact True.intro|apply AL|apply And.intro|((first|apply AB|apply AJ|apply AC|apply AK)<;>intro _))|(apply Az<;>intro _)|apply AI|refine Ag () ?_ ?_|((first|apply AP|apply AO|apply AN|apply AM|apply AH|apply AG|apply AF|apply AE|apply AD)<;>try dsimp only)|apply Ag|(refine Prod.forall.2 ?_;intro _;try dsimp only)|(intro _;try dsimp only))<;>(try dsimp only at*)<;>(try simp only[AR,List.length_cons,List.length_nil])<;>(try omega)
 all_goals(rw[Bool.eq_iff_iff];simp only[Bn,Bool.and_eq_true,Bool.or_eq_true,decide_eq_true_eq,Bool.not_eq_true',decide_eq_false_iff_not,bne_iff_ne,ne_eq,beq_iff_eq,Bool.not_not,reduceCtorEq,Bool.false_eq_true,true_iff,false_iff,iff_true,iff_false,not_true,not_false_eq_true]<;>omega))
def Fe:Sig:= {X:=UInt8,args:=fun x=>[.int .u8 x.toNat],pre:=fun x=>True,Y:=Unit,post:=fun x y=>True,res:=fun x y=> .bool (Bn x),outs:=fun x y=>[.top],keep:=false}
theorem TQ:Al G Tryz.prog 126 Fe:=
 vcFun_okP [] [] false (fun x=>[]) Tryz.func126 rfl (by decide) trivial (fun(x:UInt8)=>(∀(y:Unit),True→True∧True∧True)∧Aa (decide ((↑(UInt8.toNat x):Int)≥(48:Int))) (rA Fe x [.bool (decide ((↑(UInt8.toNat x):Int)≤(57:Int))),.top]) (rA Fe x [.bool false,.top])) (fun x=>by kernel_rfl) fun(x:UInt8) (hx:True)=>(by
 dsimp only[rA,Fe,Av,AA]
 (repeat' first|(with_reducible first|rfl|exact True.intro|apply AL|apply And.intro|((first|apply AB|apply AJ|apply AC|apply AK)<;>intro _))|(apply Az<;>intro _)|apply AI|refine Ag () ?_ ?_|((first|apply AP|apply AO|apply AN|apply AM|apply AH|apply AG|apply AF|apply AE|apply AD)<;>try dsimp only)|apply Ag|(refine Prod.forall.2 ?_;intro _;try dsimp only)|(intro _;try dsimp only))<;>(try dsimp only at*)<;>(try simp only[AR,List.length_cons,List.length_nil])<;>(try omega)
 all_goals(rw[Bool.eq_iff_iff];simp only[Bn,Bool.and_eq_true,Bool.or_eq_true,decide_eq_true_eq,Bool.not_eq_true',decide_eq_false_iff_not,bne_iff_ne,ne_eq,beq_iff_eq,Bool.not_not,reduceCtorEq,Bool.false_eq_true,true_iff,false_iff,iff_true,iff_false,not_true,not_false_eq_true]<;>omega))
def Ff:Sig:= {X:=UInt8,args:=fun x=>[.int .u8 x.toNat],pre:=fun x=>True,Y:=Unit,post:=fun x y=>True,res:=fun x y=> .bool (Cg x),outs:=fun x y=>[.top],keep:=false}
theorem XE:Al G Tryz.prog 159 Ff:=
 vcFun_okP [] [] false (fun x=>[]) Tryz.func159 rfl (by decide) trivial (fun(x:UInt8)=>(∀(y:Unit),True→True∧True∧True)∧Aa (decide ((↑(UInt8.toNat x):Int)≥(97:Int))) (Aa (decide ((↑(UInt8.toNat x):Int)≤(122:Int))) (rA Ff x [.bool true,.top]) (Aa (decide ((↑(UInt8.toNat x):Int)≥(65:Int))) (Aa (decide ((↑(UInt8.toNat x):Int)≤(90:Int))) (rA Ff x [.bool true,.top]) (rA Ff x [.bool ((↑(UInt8.toNat x):Int)==(95:Int)),.top])) (rA Ff x [.bool ((↑(UInt8.toNat x):Int)==(95:Int)),.top]))) (Aa (decide ((↑(UInt8.toNat x):Int)≥(65:Int))) (Aa (decide ((↑(UInt8.toNat x):Int)≤(90:Int))) (rA Ff x [.bool true,.top]) (rA Ff x [.bool ((↑(UInt8.toNat x):Int)==(95:Int)),.top])) (rA Ff x [.bool ((↑(UInt8.toNat x):Int)==(95:Int)),.top]))) (fun x=>by kernel_rfl) fun(x:UInt8) (hx:True)=>(by
 dsimp only[rA,Ff,Av,AA]
 (repeat' first|(with_reducible first|rfl|exact True.intro|apply AL|apply And.intro|((first|apply AB|apply AJ|apply AC|apply AK)<;>intro _))|(apply Az<;>intro _)|apply AI|refine Ag () ?_ ?_|((first|apply AP|apply AO|apply AN|apply AM|apply AH|apply AG|apply AF|apply AE|apply AD)<;>try dsimp only)|apply Ag|(refine Prod.forall.2 ?_;intro _;try dsimp only)|(intro _;try dsimp only))<;>(try dsimp only at*)<;>(try simp only[AR,List.length_cons,List.length_nil])<;>(try omega)
 all_goals(rw[Bool.eq_iff_iff];simp only[Cg,Bool.and_eq_true,Bool.or_eq_true,decide_eq_true_eq,Bool.not_eq_true',decide_eq_false_iff_not,bne_iff_ne,ne_eq,beq_iff_eq,Bool.not_not,reduceCtorEq,Bool.false_eq_true,true_iff,false_iff,iff_true,iff_false,not_true,not_false_eq_true]<;>omega))
def ED:Sig:= {X:=UInt8,args:=fun x=>[.int .u8 x.toNat],pre:=fun x=>True,Y:=Unit,post:=fun x y=>True,res:=fun x y=> .bool (Cg x),outs:=fun x y=>[.top],keep:=false}
theorem XF:Al G Tryz.prog 124 ED:=
 vcFun_okP [] [] false (fun x=>[]) Tryz.func124 rfl (by decide) trivial (fun(x:UInt8)=>(∀(y:Unit),True→True∧True∧True)∧Aa (decide ((↑(UInt8.toNat x):Int)≥(97:Int))) (Aa (decide ((↑(UInt8.toNat x):Int)≤(122:Int))) (rA ED x [.bool true,.top]) (Aa (decide ((↑(UInt8.toNat x):Int)≥(65:Int))) (Aa (decide ((↑(UInt8.toNat x):Int)≤(90:Int))) (rA ED x [.bool true,.top]) (rA ED x [.bool ((↑(UInt8.toNat x):Int)==(95:Int)),.top])) (rA ED x [.bool ((↑(UInt8.toNat x):Int)==(95:Int)),.top]))) (Aa (decide ((↑(UInt8.toNat x):Int)≥(65:Int))) (Aa (decide ((↑(UInt8.toNat x):Int)≤(90:Int))) (rA ED x [.bool true,.top]) (rA ED x [.bool ((↑(UInt8.toNat x):Int)==(95:Int)),.top])) (rA ED x [.bool ((↑(UInt8.toNat x):Int)==(95:Int)),.top]))) (fun x=>by kernel_rfl) fun(x:UInt8) (hx:True)=>(by
 dsimp only[rA,ED,Av,AA]
 (repeat' first|(with_reducible first|rfl|exact True.intro|apply AL|apply And.intro|((first|apply AB|apply AJ|apply AC|apply AK)<;>intro _))|(apply Az<;>intro _)|apply AI|refine Ag () ?_ ?_|((first|apply AP|apply AO|apply AN|apply AM|apply AH|apply AG|apply AF|apply AE|apply AD)<;>try dsimp only)|apply Ag|(refine Prod.forall.2 ?_;intro _;try dsimp only)|(intro _;try dsimp only))<;>(try dsimp only at*)<;>(try simp only[AR,List.length_cons,List.length_nil])<;>(try omega)
 all_goals(rw[Bool.eq_iff_iff];simp only[Cg,Bool.and_eq_true,Bool.or_eq_true,decide_eq_true_eq,Bool.not_eq_true',decide_eq_false_iff_not,bne_iff_ne,ne_eq,beq_iff_eq,Bool.not_not,reduceCtorEq,Bool.false_eq_true,true_iff,false_iff,iff_true,iff_false,not_true,not_false_eq_true]<;>omega))
def Kh:Sig:= {X:=UInt8,args:=fun x=>[.int .u8 x.toNat],pre:=fun x=>True,Y:=Unit,post:=fun x y=>True,res:=fun x y=> .bool (BB x),outs:=fun x y=>[.top],keep:=false}
theorem a5m:Al G Tryz.prog 161 Kh:=
 vcFun_okP [(159,0,Ff),(162,0,FX)] [] false (fun x=>[]) Tryz.func161 rfl (by decide) ⟨XE,TP,trivial⟩ (fun(x:UInt8)=>(∀(y:Unit),True→True∧True∧True)∧cA Ff [AV.int IntKind.u8 (↑(UInt8.toNat x):Int)] fun x_1 y=>Aa (Cg x_1) (rA Kh x [.bool true,.top]) (cA FX [AV.int IntKind.u8 (↑(UInt8.toNat x):Int)] fun x_2 y=>rA Kh x [.bool (Bn x_2),.top])) (fun x=>by kernel_rfl) fun(x:UInt8) (hx:True)=>(by
 dsimp only[cA,rA,FX,Ff,Kh,Av,AA,mvL,lnL,mvE,lnE]
 (repeat' first|(with_reducible first|rfl|exact True.intro|apply AL|apply And.intro|((first|apply AB|apply AJ|apply AC|apply AK)<;>intro _))|(apply Az<;>intro _)|apply AI|refine Ag () ?_ ?_|((first|apply AP|apply AO|apply AN|apply AM|apply AH|apply AG|apply AF|apply AE|apply AD)<;>try dsimp only)|apply Ag|(refine Prod.forall.2 ?_;intro _;try dsimp only)|(intro _;try dsimp only))<;>(try dsimp only at*)<;>(try simp only[AR,List.length_cons,List.length_nil])<;>(try omega)
 all_goals simp [BB, *])
def HN:Sig:= {X:=UInt8,args:=fun x=>[.int .u8 x.toNat],pre:=fun x=>True,Y:=Unit,post:=fun x y=>True,res:=fun x y=> .bool (BW x),outs:=fun x y=>[.top],keep:=false}
theorem XG:Al G Tryz.prog 169 HN:=
 vcFun_okP [] [] false (fun x=>[]) Tryz.func169 rfl (by decide) trivial (fun(x:UInt8)=>(∀(y:Unit),True→True∧True∧True)∧Aa (decide ((↑(UInt8.toNat x):Int)≥(32:Int))) (rA HN x [.bool (decide ((↑(UInt8.toNat x):Int)≤(126:Int))),.top]) (rA HN x [.bool false,.top])) (fun x=>by kernel_rfl) fun(x:UInt8) (hx:True)=>(by
 dsimp only[rA,HN,Av,AA]
 (repeat' first|(with_reducible first|rfl|exact True.intro|apply AL|apply And.intro|((first|apply AB|apply AJ|apply AC|apply AK)<;>intro _))|(apply Az<;>intro _)|apply AI|refine Ag () ?_ ?_|((first|apply AP|apply AO|apply AN|apply AM|apply AH|apply AG|apply AF|apply AE|apply AD)<;>try dsimp only)|apply Ag|(refine Prod.forall.2 ?_;intro _;try dsimp only)|(intro _;try dsimp only))<;>(try dsimp only at*)<;>(try simp only[AR,List.length_cons,List.length_nil])<;>(try omega)
 all_goals(rw[Bool.eq_iff_iff];simp only[BW,Bool.and_eq_true,Bool.or_eq_true,decide_eq_true_eq,Bool.not_eq_true',decide_eq_false_iff_not,bne_iff_ne,ne_eq,beq_iff_eq,Bool.not_not,reduceCtorEq,Bool.false_eq_true,true_iff,false_iff,iff_true,iff_false,not_true,not_false_eq_true]<;>omega))
def LW:Sig:= {X:=UInt8,args:=fun x=>[.int .u8 x.toNat],pre:=fun x=>True,Y:=Unit,post:=fun x y=>True,res:=fun x y=> .bool (BU x),outs:=fun x y=>[.top],keep:=false}
theorem a5n:Al G Tryz.prog 165 LW:=
 vcFun_okP [] [] false (fun x=>[]) Tryz.func165 rfl (by decide) trivial (fun(x:UInt8)=>(∀(y:Unit),True→True∧True∧True)∧rA LW x [.bool ((↑(UInt8.toNat x):Int) != (10:Int)),.top]) (fun x=>by kernel_rfl) fun(x:UInt8) (hx:True)=>(by
 dsimp only[rA,LW,Av,AA]
 (repeat' first|(with_reducible first|rfl|exact True.intro|apply AL|apply And.intro|((first|apply AB|apply AJ|apply AC|apply AK)<;>intro _))|(apply Az<;>intro _)|apply AI|refine Ag () ?_ ?_|((first|apply AP|apply AO|apply AN|apply AM|apply AH|apply AG|apply AF|apply AE|apply AD)<;>try dsimp only)|apply Ag|(refine Prod.forall.2 ?_;intro _;try dsimp only)|(intro _;try dsimp only))<;>(try dsimp only at*)<;>(try simp only[AR,List.length_cons,List.length_nil])<;>(try omega)
 all_goals(rw[Bool.eq_iff_iff];simp only[BU,Bool.and_eq_true,Bool.or_eq_true,decide_eq_true_eq,Bool.not_eq_true',decide_eq_false_iff_not,bne_iff_ne,ne_eq,beq_iff_eq,Bool.not_not,reduceCtorEq,Bool.false_eq_true,true_iff,false_iff,iff_true,iff_false,not_true,not_false_eq_true]<;>omega))
def DM(p:UInt8→Bool)(x:List UInt8)(rs:Int→List (Nat×AV)):LS:= {
 ι:=Int,inv:=fun i=>0≤i∧i≤x.length∧∀e∈x.take i.toNat,p e=true,regs:=rs,als:=[],meas:=fun i=>x.length-i.toNat}
def Hl:Sig:= {X:=List UInt8,args:=fun x=>[.str x],pre:=fun x=>x.length<2^63,Y:=Unit,post:=fun x y=>True,res:=fun x y=> .bool (x.all BW),outs:=fun x y=>[.top],keep:=false}
theorem XH:Al G Tryz.prog 167 Hl:=
 vcFun_okP [] [] false (fun x=>[(2,DM BW x fun i=>[(0,.str x),(3,.int .i64 i)])]) Tryz.func167 rfl (by decide) trivial (fun(x:List UInt8)=>(∀(y:Unit),True→True∧True∧True)∧eA (DM BW x fun(i:Int)=>[((0:Nat),.str x),((3:Nat),.int .i64 i)]) [.str x,.int .i64 (0:Int)]∧∀(i:Int),((0:Int)≤i∧i≤(↑(List.length x):Int)∧∀(e:UInt8),e∈List.take (Int.toNat i) x→BW e=true)→Aa (decide (i<(↑(List.length x):Int))) (((0:Int)≤i∧i<(↑(List.length x):Int))∧∀(c:UInt8),x[Int.toNat i]? =some c→Aa (decide ((↑(UInt8.toNat c):Int)<(32:Int))) (rA Hl x [.bool false,.top]) (((0:Int)≤i∧i<(↑(List.length x):Int))∧∀(c:UInt8),x[Int.toNat i]? =some c→Aa (decide ((↑(UInt8.toNat c):Int)>(126:Int))) (rA Hl x [.bool false,.top]) (inR IntKind.i64 (i+(1:Int))∧eN (DM BW x fun(i:Int)=>[((0:Nat),.str x),((3:Nat),.int .i64 i)]) i [.str x,.int .i64 (i+(1:Int))]))) (rA Hl x [.bool true,.top])) (fun x=>by kernel_rfl) fun(x:List UInt8) (hx:x.length<2^63)=>(by
 dsimp only[eA,eN,DM,rA,Hl,Av,AA,Bi]
 (repeat' first|(with_reducible first|rfl|exact True.intro|apply AL|apply And.intro|((first|apply AB|apply AJ|apply AC|apply AK)<;>intro _))|(apply Az<;>intro _)|apply AI|refine Ag () ?_ ?_|((first|apply AP|apply AO|apply AN|apply AM|apply AH|apply AG|apply AF|apply AE|apply AD)<;>try dsimp only)|apply Ag|(refine Prod.forall.2 ?_;intro _;try dsimp only)|(intro _;try dsimp only))<;>(try dsimp only at*)<;>(try simp only[AR,List.length_cons,List.length_nil])<;>(try omega)
 ·rename_i h;simp at h
 ·rename_i i hi hl c hc h;exact(PS hc (by(rw[Bool.eq_iff_iff];simp only[BW,Bool.and_eq_true,Bool.or_eq_true,decide_eq_true_eq,Bool.not_eq_true',decide_eq_false_iff_not,bne_iff_ne,ne_eq,beq_iff_eq,Bool.not_not,reduceCtorEq,Bool.false_eq_true,true_iff,false_iff,iff_true,iff_false,not_true,not_false_eq_true]<;>omega))).symm
 ·rename_i i hi hl c hc h d hd h2;exact(PS hd (by(rw[Bool.eq_iff_iff];simp only[BW,Bool.and_eq_true,Bool.or_eq_true,decide_eq_true_eq,Bool.not_eq_true',decide_eq_false_iff_not,bne_iff_ne,ne_eq,beq_iff_eq,Bool.not_not,reduceCtorEq,Bool.false_eq_true,true_iff,false_iff,iff_true,iff_false,not_true,not_false_eq_true]<;>omega))).symm
 ·rename_i i hi hl c hc h d hd h2 e he
  rw[hc] at hd;cases hd
  rw[Dv hi.1] at he;exact NQ hi.2.2 hc (by(rw[Bool.eq_iff_iff];simp only[BW,Bool.and_eq_true,Bool.or_eq_true,decide_eq_true_eq,Bool.not_eq_true',decide_eq_false_iff_not,bne_iff_ne,ne_eq,beq_iff_eq,Bool.not_not,reduceCtorEq,Bool.false_eq_true,true_iff,false_iff,iff_true,iff_false,not_true,not_false_eq_true]<;>omega)) e he
 ·rename_i i hi hl;exact(TH hi.2.2 (by omega)).symm)
def Ki:Sig:= {X:=List UInt8,args:=fun x=>[.str x,.clo (.func 161) []],pre:=fun x=>x.length<2^63,Y:=Unit,post:=fun x y=>True,res:=fun x y=> .str (x.takeWhile BB),outs:=fun x y=>[.top,.top],keep:=false}
theorem a5o:Al G Tryz.prog 160 Ki:=
 vcFun_okP [(161,0,Kh)] [] false (fun x=>[(2,DM BB x fun i=>[(0,.str x),(1,.clo (.func 161) []),(5,.int .i64 i)])]) Tryz.func160 rfl (by decide) ⟨a5m,trivial⟩ (fun(x:List UInt8)=>(∀(y:Unit),True→True∧True∧True∧True)∧eA (DM BB x fun(i:Int)=>[((0:Nat),.str x),((1:Nat),AV.clo (Fn.func (84:FuncId)) []),((5:Nat),.int .i64 i)]) [.str x,AV.clo (Fn.func (84:FuncId)) [],.int .i64 (0:Int)]∧∀(i:Int),((0:Int)≤i∧i≤(↑(List.length x):Int)∧∀(e:UInt8),e∈List.take (Int.toNat i) x→BB e=true)→Aa (decide (i<(↑(List.length x):Int))) (((0:Int)≤i∧i<(↑(List.length x):Int))∧∀(c:UInt8),x[Int.toNat i]? =some c→cA Kh [AV.int IntKind.u8 (↑(UInt8.toNat c):Int)] fun x_1 y=>Aa (BB x_1) (inR IntKind.i64 (i+(1:Int))∧eN (DM BB x fun(i:Int)=>[((0:Nat),.str x),((1:Nat),AV.clo (Fn.func (84:FuncId)) []),((5:Nat),.int .i64 i)]) i [.str x,AV.clo (Fn.func (84:FuncId)) [],.int .i64 (i+(1:Int))]) (((0:Int)≤(0:Int)∧(0:Int)≤i∧i≤(↑(List.length x):Int))∧rA Ki x [.str (List.take (Int.toNat i) x),.top,.top])) (((0:Int)≤(0:Int)∧(0:Int)≤i∧i≤(↑(List.length x):Int))∧rA Ki x [.str (List.take (Int.toNat i) x),.top,.top])) (fun x=>by kernel_rfl) fun(x:List UInt8) (hx:x.length<2^63)=>(by
 dsimp only[cA,eA,eN,DM,rA,Kh,Ki,Av,AA,mvL,lnL,mvE,lnE,Bi]
 (repeat' first|(with_reducible first|rfl|exact True.intro|apply AL|apply And.intro|((first|apply AB|apply AJ|apply AC|apply AK)<;>intro _))|(apply Az<;>intro _)|apply AI|refine Ag () ?_ ?_|((first|apply AP|apply AO|apply AN|apply AM|apply AH|apply AG|apply AF|apply AE|apply AD)<;>try dsimp only)|apply Ag|(refine Prod.forall.2 ?_;intro _;try dsimp only)|(intro _;try dsimp only))<;>(try dsimp only at*)<;>(try simp only[AR,List.length_cons,List.length_nil])<;>(try omega)
 ·rename_i h;simp at h
 ·rename_i i hi hl c hc y _ hp e he
  rw[Dv hi.1] at he;exact NQ hi.2.2 hc hp e he
 ·rename_i i hi hl c hc y _ hp
  exact Iq hi.2.2 (.inr ⟨c,hc,hp⟩)
 ·rename_i i hi hl
  exact Iq hi.2.2 (.inl (by omega)))
def Kj:Sig:= {X:=List UInt8,args:=fun x=>[.str x,.clo (.func 162) []],pre:=fun x=>x.length<2^63,Y:=Unit,post:=fun x y=>True,res:=fun x y=> .str (x.takeWhile Bn),outs:=fun x y=>[.top,.top],keep:=false}
theorem a5p:Al G Tryz.prog 160 Kj:=
 vcFun_okP [(162,0,FX)] [] false (fun x=>[(2,DM Bn x fun i=>[(0,.str x),(1,.clo (.func 162) []),(5,.int .i64 i)])]) Tryz.func160 rfl (by decide) ⟨TP,trivial⟩ (fun(x:List UInt8)=>(∀(y:Unit),True→True∧True∧True∧True)∧eA (DM Bn x fun(i:Int)=>[((0:Nat),.str x),((1:Nat),AV.clo (Fn.func (85:FuncId)) []),((5:Nat),.int .i64 i)]) [.str x,AV.clo (Fn.func (85:FuncId)) [],.int .i64 (0:Int)]∧∀(i:Int),((0:Int)≤i∧i≤(↑(List.length x):Int)∧∀(e:UInt8),e∈List.take (Int.toNat i) x→Bn e=true)→Aa (decide (i<(↑(List.length x):Int))) (((0:Int)≤i∧i<(↑(List.length x):Int))∧∀(c:UInt8),x[Int.toNat i]? =some c→cA FX [AV.int IntKind.u8 (↑(UInt8.toNat c):Int)] fun x_1 y=>Aa (Bn x_1) (inR IntKind.i64 (i+(1:Int))∧eN (DM Bn x fun(i:Int)=>[((0:Nat),.str x),((1:Nat),AV.clo (Fn.func (85:FuncId)) []),((5:Nat),.int .i64 i)]) i [.str x,AV.clo (Fn.func (85:FuncId)) [],.int .i64 (i+(1:Int))]) (((0:Int)≤(0:Int)∧(0:Int)≤i∧i≤(↑(List.length x):Int))∧rA Kj x [.str (List.take (Int.toNat i) x),.top,.top])) (((0:Int)≤(0:Int)∧(0:Int)≤i∧i≤(↑(List.length x):Int))∧rA Kj x [.str (List.take (Int.toNat i) x),.top,.top])) (fun x=>by kernel_rfl) fun(x:List UInt8) (hx:x.length<2^63)=>(by
 dsimp only[cA,eA,eN,DM,rA,FX,Kj,Av,AA,mvL,lnL,mvE,lnE,Bi]
 (repeat' first|(with_reducible first|rfl|exact True.intro|apply AL|apply And.intro|((first|apply AB|apply AJ|apply AC|apply AK)<;>intro _))|(apply Az<;>intro _)|apply AI|refine Ag () ?_ ?_|((first|apply AP|apply AO|apply AN|apply AM|apply AH|apply AG|apply AF|apply AE|apply AD)<;>try dsimp only)|apply Ag|(refine Prod.forall.2 ?_;intro _;try dsimp only)|(intro _;try dsimp only))<;>(try dsimp only at*)<;>(try simp only[AR,List.length_cons,List.length_nil])<;>(try omega)
 ·rename_i h;simp at h
 ·rename_i i hi hl c hc y _ hp e he
  rw[Dv hi.1] at he;exact NQ hi.2.2 hc hp e he
 ·rename_i i hi hl c hc y _ hp
  exact Iq hi.2.2 (.inr ⟨c,hc,hp⟩)
 ·rename_i i hi hl
  exact Iq hi.2.2 (.inl (by omega)))
def Kk:Sig:= {X:=List UInt8,args:=fun x=>[.str x,.clo (.func 165) []],pre:=fun x=>x.length<2^63,Y:=Unit,post:=fun x y=>True,res:=fun x y=> .str (x.takeWhile BU),outs:=fun x y=>[.top,.top],keep:=false}
theorem a5q:Al G Tryz.prog 160 Kk:=
 vcFun_okP [(165,0,LW)] [] false (fun x=>[(2,DM BU x fun i=>[(0,.str x),(1,.clo (.func 165) []),(5,.int .i64 i)])]) Tryz.func160 rfl (by decide) ⟨a5n,trivial⟩ (fun(x:List UInt8)=>(∀(y:Unit),True→True∧True∧True∧True)∧eA (DM BU x fun(i:Int)=>[((0:Nat),.str x),((1:Nat),AV.clo (Fn.func (88:FuncId)) []),((5:Nat),.int .i64 i)]) [.str x,AV.clo (Fn.func (88:FuncId)) [],.int .i64 (0:Int)]∧∀(i:Int),((0:Int)≤i∧i≤(↑(List.length x):Int)∧∀(e:UInt8),e∈List.take (Int.toNat i) x→BU e=true)→Aa (decide (i<(↑(List.length x):Int))) (((0:Int)≤i∧i<(↑(List.length x):Int))∧∀(c:UInt8),x[Int.toNat i]? =some c→cA LW [AV.int IntKind.u8 (↑(UInt8.toNat c):Int)] fun x_1 y=>Aa (BU x_1) (inR IntKind.i64 (i+(1:Int))∧eN (DM BU x fun(i:Int)=>[((0:Nat),.str x),((1:Nat),AV.clo (Fn.func (88:FuncId)) []),((5:Nat),.int .i64 i)]) i [.str x,AV.clo (Fn.func (88:FuncId)) [],.int .i64 (i+(1:Int))]) (((0:Int)≤(0:Int)∧(0:Int)≤i∧i≤(↑(List.length x):Int))∧rA Kk x [.str (List.take (Int.toNat i) x),.top,.top])) (((0:Int)≤(0:Int)∧(0:Int)≤i∧i≤(↑(List.length x):Int))∧rA Kk x [.str (List.take (Int.toNat i) x),.top,.top])) (fun x=>by kernel_rfl) fun(x:List UInt8) (hx:x.length<2^63)=>(by
 dsimp only[cA,eA,eN,DM,rA,Kk,LW,Av,AA,mvL,lnL,mvE,lnE,Bi]
 (repeat' first|(with_reducible first|rfl|exact True.intro|apply AL|apply And.intro|((first|apply AB|apply AJ|apply AC|apply AK)<;>intro _))|(apply Az<;>intro _)|apply AI|refine Ag () ?_ ?_|((first|apply AP|apply AO|apply AN|apply AM|apply AH|apply AG|apply AF|apply AE|apply AD)<;>try dsimp only)|apply Ag|(refine Prod.forall.2 ?_;intro _;try dsimp only)|(intro _;try dsimp only))<;>(try dsimp only at*)<;>(try simp only[AR,List.length_cons,List.length_nil])<;>(try omega)
 ·rename_i h;simp at h
 ·rename_i i hi hl c hc y _ hp e he
  rw[Dv hi.1] at he;exact NQ hi.2.2 hc hp e he
 ·rename_i i hi hl c hc y _ hp
  exact Iq hi.2.2 (.inr ⟨c,hc,hp⟩)
 ·rename_i i hi hl
  exact Iq hi.2.2 (.inl (by omega)))
end Go.My
end
section
set_option linter.unusedVariables false
set_option linter.unusedSimpArgs false
namespace Go.My
open Go.Eng
def LX(x:List UInt8):SgR:=if Co (x.take 2) then⟨4,x.take 2,(x.take 2).length,true⟩ else if Co (x.take 1) then⟨4,x.take 1,1,true⟩ else⟨0,[],0,false⟩
def Hm(x:List UInt8)(i:Int):Prop:=(0≤i∧i≤2∧i≤x.length)∧Be x=LX x∧∀j:Nat,i<j→j≤2→j≤x.length→Co (x.take j)=false
theorem a5r{x:List UInt8}{i:Int}(h:Hm x i)(hx:1≤x.length)(h0:i>0)(hm:Co (x.take i.toNat)=true):Be x=⟨4,x.take i.toNat,i,true⟩:=by
 obtain⟨⟨h1,h2,h3⟩,h4,h5⟩:=h
 rw[h4]
 have hi:i=1∨i=2:=by omega
 rcases hi with rfl|rfl
 ·by_cases hl:x.length=1
  ·have e:x.take 2=x.take 1:=by rw[List.take_of_length_le (by omega),List.take_of_length_le (by omega)]
   have hm':Co (x.take 1)=true:=hm
   simp only[LX,e,hm',if_true]
   have:(x.take 1).length=1:=by simp;omega
   rw[this];rfl
  ·have:=h5 2 (by omega) (by omega) (by omega)
   have hm':Co (x.take 1)=true:=hm
   simp only[LX,this,hm',Bool.false_eq_true,if_false,if_true];rfl
 ·have hm':Co (x.take 2)=true:=hm
  simp only[LX,hm',if_true]
  have:(x.take 2).length=2:=by simp;omega
  rw[this];rfl
theorem a5s{x:List UInt8}{i:Int}(h:Hm x i)(hx:1≤x.length)(h0:¬i>0):Be x=⟨0,[],0,false⟩:=by
 obtain⟨⟨h1,h2,h3⟩,h4,h5⟩:=h
 rw[h4]
 have a1:=h5 1 (by omega) (by omega) hx
 have a2:Co (x.take 2)=false:=by
  by_cases hl:x.length=1
  ·have e:x.take 2=x.take 1:=by rw[List.take_of_length_le (by omega),List.take_of_length_le (by omega)]
   rw[e];exact a1
  ·exact h5 2 (by omega) (by omega) (by omega)
 simp only[LX,a1,a2,Bool.false_eq_true,if_false]
theorem a5t{x:List UInt8}{i:Int}(h:Hm x i)(h0:i>0)(hm:Co (x.take i.toNat)=false):Hm x (i-1):=by
 obtain⟨⟨h1,h2,h3⟩,h4,h5⟩:=h
 refine⟨⟨by omega,by omega,by omega⟩,h4,fun j a b c=> ?_⟩
 by_cases e:(j:Int)=i
 ·have:j=i.toNat:=by omega
  rw[this];exact hm
 ·exact h5 j (by omega) b c
theorem a5u{b:UInt8}{t:List UInt8}(h1:Cg b=false)(h2:Bn b=false)(h3:¬b.toNat=39)(h4:(b::t).take 2≠[47,47]):Hm (b::t) (min 2 ((b::t).length:Int)):=by
 refine⟨⟨by omega,by omega,by omega⟩,?_,fun j a b c=>by omega⟩
 simp only[Be,h1,h2,h3,h4,Bool.false_eq_true,if_false,LX]
theorem a5v{b:UInt8}{t:List UInt8}(h:Cg b=true):Be (b::t)=⟨1,(b::t).takeWhile BB,((b::t).takeWhile BB).length,decide ((((b::t).takeWhile BB).length:Int)≤30)⟩:=by
 have:decide ((((b::t).takeWhile BB).length:Int)≤30)=decide (((b::t).takeWhile BB).length≤30):=decide_eq_decide.2 (by omega)
 rw[this];simp [Be,h]
theorem a5w{b:UInt8}{t:List UInt8}(h0:Cg b=false)(h:Bn b=true):Be (b::t)=⟨2,(b::t).takeWhile Bn,((b::t).takeWhile Bn).length,decide ((((b::t).takeWhile Bn).length:Int)≤12)⟩:=by
 have:decide ((((b::t).takeWhile Bn).length:Int)≤12)=decide (((b::t).takeWhile Bn).length≤12):=decide_eq_decide.2 (by omega)
 rw[this];simp [Be,h,h0]
theorem a5x{b:UInt8}{t:List UInt8}(h0:Cg b=false)(h1:Bn b=false)(h:(b.toNat:Int)=39):Be (b::t)=⟨3,(Da (b::t)).1,(Da (b::t)).1.length,(Da (b::t)).2⟩:=by
 have h:b.toNat=39:=by omega
 simp [Be,h0,h1,h]
theorem a5y{b:UInt8}{t:List UInt8}(h0:Cg b=false)(h1:Bn b=false)(h2:(b.toNat:Int)≠39)(h:(b::t).take 2=[47,47]):
 Be (b::t)=⟨5,Cp ((b::t).takeWhile BU),((b::t).takeWhile BU).length,((b::t).takeWhile BU).all BW⟩:=by
 have h2:¬b.toNat=39:=by omega
 simp only[Be,h0,h1,h2,h,Bool.false_eq_true,if_false,if_true]
theorem XI(s:List UInt8)(c:UInt8):Cp (s++[c])=if c.toNat=32 then Cp s else s++[c]:=by
 unfold Cp
 rw[List.reverse_append]
 simp only[List.reverse_cons,List.reverse_nil,List.nil_append,List.singleton_append,List.dropWhile_cons]
 by_cases h:c.toNat=32
 ·simp [h]
 ·simp [h]
theorem a5z{s:List UInt8}{c:UInt8}(h:s[s.length-1]? =some c):s=s.take (s.length-1)++[c]:=by
 have h1:=FV h
 have:s.length-1+1=s.length:=by
  have:=(List.getElem?_eq_some_iff.1 h).1;omega
 rw[this,List.take_length] at h1
 exact h1
theorem XJ{s:List UInt8}{c:UInt8}(h:s[s.length-1]? =some c):Cp s=if c.toNat=32 then Cp (s.take (s.length-1)) else s:=by
 have h1:=a5z h
 rw[h1,XI]
 split
 ·rw[List.length_append];simp
 ·rfl
theorem XK{s:List UInt8}{n:Nat}{c:UInt8}(h:s[n]? =some c):Cp (s.take (n+1))=if c.toNat=32 then Cp (s.take n) else s.take (n+1):=by
 rw[FV h,XI]
def isQ(c:UInt8):Bool:=decide (c.toNat=39)
def Ck(s:List UInt8):Nat:=match Dw isQ (s.drop 1) with
 |none=>0
 |some i=>if((s.drop 1).take i).all BW then i+2 else 0
def Cf(s:List UInt8):Nat:=if s.take 2=[47,47] then(if(s.takeWhile BU).all BW then(s.takeWhile BU).length else 0) else 0
theorem XL(s:List UInt8):Da s=match Dw isQ (s.drop 1) with
 |none=>([],false)
 |some i=>(s.take (i+2),(s.take (i+2)).all BW):=rfl
theorem XM{c:UInt8}(h:isQ c=true):BW c=true:=by
 simp [isQ] at h;simp [BW,h]
theorem TR{p:UInt8→Bool}{s:List UInt8}{i:Nat}(h:Dw p s=some i):i<s.length:=by
 obtain⟨_,e,he,_⟩:=Kd.1 h
 exact(List.getElem?_eq_some_iff.1 he).1
theorem PZ{c:UInt8}{s:List UInt8}(hc:isQ c=true):(Da (c::s)).2=true↔Ck (c::s)≠0:=by
 rw[XL];unfold Ck
 simp only[List.drop_succ_cons,List.drop_zero]
 cases h:Dw isQ s with
 |none=>simp
 |some i=>
  simp only[List.take_succ_cons,List.all_cons,XM hc,Bool.true_and]
  obtain⟨h1,e,he,hq⟩:=Kd.1 h
  rw[FV he,List.all_append]
  simp [XM hq]
theorem XN{c:UInt8}{s:List UInt8}(hc:isQ c=true)(h:Ck (c::s)≠0):(Da (c::s)).1=(c::s).take (Ck (c::s))∧Ck (c::s)≤(c::s).length:=by
 rw[XL];unfold Ck at h ⊢
 simp only[List.drop_succ_cons,List.drop_zero] at h ⊢
 cases hi:Dw isQ s with
 |none=>rw[hi] at h;simp at h
 |some i=>
  rw[hi] at h
  simp only at h ⊢
  split at h
  ·rename_i hp
   have:=TR hi
   rw[if_pos hp]
   exact⟨rfl,by simp;omega⟩
  ·exact(h rfl).elim
theorem a5A{c:UInt8}(h:Cg c=true):Bn c=false:=by
 simp [Cg,Bn] at h ⊢;omega
theorem a5B(s:List UInt8):Ch s 1=match s with
 |[]=>false
 |c::_=>Cg c&&(s.all BB&&decide (s.length≤30)):=by
 cases s with
 |nil=>rfl
 |cons c t=>
  by_cases hc:Cg c=true
  ·simp only[Ch,Be,hc,if_true,Bool.true_and]
   by_cases ha:(c::t).all BB=true
   ·have:=PT.2 ha
    rw[this,ha];simp
   ·have hn:¬(c::t).takeWhile BB=c::t:=fun e=>ha (PT.1 e)
    simp only[Bool.not_eq_true] at ha
    rw[ha]
    have:((c::t).takeWhile BB==c::t)=false:=by rw[beq_eq_false_iff_ne];exact hn
    rw[this];simp
  ·simp only[Bool.not_eq_true] at hc
   simp only[hc,Bool.false_and]
   rw[Bool.eq_false_iff]
   intro h
   simp only[Ch,Be,hc,Bool.false_eq_true,if_false,Bool.and_eq_true,decide_eq_true_eq] at h
   have h1:=h.2.2.1
   repeat' split at h1
   all_goals simp at h1
theorem XO(s:List UInt8):Ch s 2=(s.all Bn&&(decide (1≤s.length)&&decide (s.length≤12))):=by
 cases s with
 |nil=>rfl
 |cons c t=>
  by_cases hc:Cg c=true
  ·have hf:=a5A hc
   simp only[List.all_cons,hf,Bool.false_and]
   simp [Ch,Be,hc]
  ·simp only[Bool.not_eq_true] at hc
   by_cases hf:Bn c=true
   ·simp only[Ch,Be,hc,hf,Bool.false_eq_true,if_false,if_true]
    by_cases ha:(c::t).all Bn=true
    ·have:=PT.2 ha
     rw[this,ha];simp
    ·have hn:¬(c::t).takeWhile Bn=c::t:=fun e=>ha (PT.1 e)
     simp only[Bool.not_eq_true] at ha
     rw[ha]
     have:((c::t).takeWhile Bn==c::t)=false:=by rw[beq_eq_false_iff_ne];exact hn
     rw[this];simp
   ·simp only[Bool.not_eq_true] at hf
    simp only[List.all_cons,hf,Bool.false_and]
    rw[Bool.eq_false_iff]
    intro h
    simp only[Ch,Be,hc,hf,Bool.false_eq_true,if_false,Bool.and_eq_true,decide_eq_true_eq] at h
    have h1:=h.2.2.1
    repeat' split at h1
    all_goals simp at h1
theorem TS(s:List UInt8):Ch s 3=match s with
 |[]=>false
 |c::_=>isQ c&&(decide (1<s.length)&&decide (Ck s=s.length)):=by
 cases s with
 |nil=>rfl
 |cons c t=>
  by_cases hq:isQ c=true
  ·have h39:c.toNat=39:=by simpa [isQ] using hq
   have hc:Cg c=false:=by simp [Cg];omega
   have hf:Bn c=false:=by simp [Bn];omega
   simp only[hq,Bool.true_and]
   simp only[Ch,Be,hc,hf,h39,Bool.false_eq_true,if_false,if_true]
   by_cases h0:Ck (c::t)=0
   ·have h2:(Da (c::t)).2=false:=by
     rw[Bool.eq_false_iff];intro h;exact(PZ hq).1 h h0
    rw[h2,h0];simp
   ·have h2:=(PZ hq).2 h0
    obtain⟨h3,h4⟩:=XN hq h0
    have h5:1<Ck (c::t):=by
     unfold Ck at h0 ⊢
     split at h0
     ·exact(h0 rfl).elim
     ·split at h0
      ·rename_i hp;rw[if_pos hp];omega
      ·exact(h0 rfl).elim
    rw[h2,h3]
    rw[Bool.eq_iff_iff]
    simp only[Bool.and_eq_true,Bool.not_eq_true',decide_eq_true_eq,beq_iff_eq,List.length_take]
    constructor
    ·rintro⟨_,_,_,e,hl⟩
     have:=congrArg List.length e
     simp only[List.length_take] at this
     constructor<;>omega
    ·rintro⟨h6,h7⟩
     refine⟨by simp,trivial,trivial,?_,?_⟩
     ·rw[h7,List.take_length]
     ·omega
  ·simp only[Bool.not_eq_true] at hq
   have h39:¬c.toNat=39:=by simpa [isQ] using hq
   simp only[hq,Bool.false_and]
   rw[Bool.eq_false_iff]
   intro h
   simp only[Ch,Be,h39,if_false,Bool.and_eq_true,decide_eq_true_eq] at h
   have h1:=h.2.2.1
   repeat' split at h1
   all_goals simp at h1
theorem TT(s:List UInt8):Ch s 5=(decide (1<s.length)&&(decide (Cf s=s.length)&&(Cp s==s))):=by
 cases s with
 |nil=>rfl
 |cons c t=>
  by_cases hp:(c::t).take 2=[47,47]
  ·have h47:c=47:=by
    have:=congrArg (fun l:List UInt8=>l.head?) hp
    simpa using this
   subst h47
   have hl:1<(47::t).length:=by
    have:=congrArg List.length hp
    simp only[List.length_take,List.length_cons,List.length_nil] at this ⊢;omega
   have hc:Cg 47=false:=by decide
   have hf:Bn 47=false:=by decide
   have hq:¬(47:UInt8).toNat=39:=by decide
   simp only[Ch,Be,hc,hf,hq,hp,Bool.false_eq_true,if_false,if_true,Cf]
   rw[Bool.eq_iff_iff]
   simp only[Bool.and_eq_true,Bool.not_eq_true',decide_eq_true_eq,beq_iff_eq,beq_eq_false_iff_ne]
   constructor
   ·rintro⟨_,h1,_,h2,h3⟩
    rw[if_pos h1]
    have h3:((47::t).takeWhile BU).length=(47::t).length:=by omega
    refine⟨hl,h3,?_⟩
    have e:(47::t).takeWhile BU=47::t:=by
     have:=List.takeWhile_prefix (p:=BU) (l:=47::t)
     exact List.IsPrefix.eq_of_length this h3
    rw[e] at h2;exact h2
   ·rintro⟨_,h1,h2⟩
    split at h1
    ·rename_i h3
     have e:(47::t).takeWhile BU=47::t:=by
      have:=List.takeWhile_prefix (p:=BU) (l:=47::t)
      exact List.IsPrefix.eq_of_length this h1
     rw[e] at h3 ⊢
     exact⟨by simp,h3,trivial,h2,rfl⟩
    ·simp at h1
  ·have h0:Cf (c::t)=0:=by simp only[Cf,if_neg hp]
   rw[h0]
   have:decide (0=(c::t).length)=false:=by simp
   rw[this]
   simp only[Bool.false_and,Bool.and_false]
   rw[Bool.eq_false_iff]
   intro h
   simp only[Ch,Be,hp,if_false,Bool.and_eq_true,decide_eq_true_eq] at h
   have h1:=h.2.2.1
   repeat' split at h1
   all_goals simp at h1
theorem a5C{s:List UInt8}{m:Nat}{e:UInt8}(h:∀e∈(s.drop 1).take m,isQ e=false∧BW e=true)(he:(s.drop 1)[m]? =some e)(hq:isQ e=true):Ck s=m+2:=by
 unfold Ck
 rw[Kd.2 ⟨fun e he=>(h e he).1,e,he,hq⟩]
 simp only
 rw[if_pos (List.all_eq_true.2 fun e he=>(h e he).2)]
theorem a5D{s:List UInt8}{m:Nat}{e:UInt8}(h:∀e∈(s.drop 1).take m,isQ e=false∧BW e=true)(he:(s.drop 1)[m]? =some e)(hq:isQ e=false)(hp:BW e=false):Ck s=0:=by
 unfold Ck
 cases hi:Dw isQ (s.drop 1) with
 |none=>rfl
 |some i=>
  simp only
  obtain⟨h1,d,hd,hdq⟩:=Kd.1 hi
  rw[if_neg]
  intro hall
  have hmi:m<i:=by
   rcases Nat.lt_trichotomy m i with h'|h'|h'
   ·exact h'
   ·subst h';rw[he] at hd;cases hd;rw[hq] at hdq;cases hdq
   ·have:d∈(s.drop 1).take m:=by
     rw[List.mem_take_iff_getElem]
     obtain⟨a,b⟩:=List.getElem?_eq_some_iff.1 hd
     exact⟨i,by omega,b⟩
    rw[(h d this).1] at hdq;cases hdq
  have:e∈(s.drop 1).take i:=by
   rw[List.mem_take_iff_getElem]
   obtain⟨a,b⟩:=List.getElem?_eq_some_iff.1 he
   exact⟨m,by omega,b⟩
  rw[List.all_eq_true.1 hall e this] at hp;cases hp
theorem a5E{s:List UInt8}{m:Nat}(h:∀e∈(s.drop 1).take m,isQ e=false∧BW e=true)(hl:(s.drop 1).length≤m):Ck s=0:=by
 unfold Ck
 rw[List.take_of_length_le hl] at h
 rw[TI.2 fun e he=>(h e he).1]
theorem XP{s:List UInt8}{m:Nat}(hp:s.take 2=[47,47])(h:∀e∈s.take m,BU e=true∧BW e=true)(he:s.length≤m∨∃e,s[m]? =some e∧BU e=false)(hm:m≤s.length):Cf s=m:=by
 have h1:=Iq (fun e he=>(h e he).1) he
 unfold Cf
 rw[if_pos hp,←h1,if_pos (List.all_eq_true.2 fun e he=>(h e he).2),List.length_take];omega
theorem a5F{s:List UInt8}{m:Nat}{e:UInt8}(hp:s.take 2=[47,47])(h:∀e∈s.take m,BU e=true∧BW e=true)(he:s[m]? =some e)(hn:BU e=true)(hq:BW e=false):Cf s=0:=by
 unfold Cf
 rw[if_pos hp,if_neg]
 intro hall
 have:e∈s.takeWhile BU:=by
  have h2:s=s.take m++e::s.drop (m+1):=by rw[←HM he,List.take_append_drop]
  rw[h2,List.takeWhile_append_of_pos (fun e he=>(h e he).1),List.takeWhile_cons,if_pos hn]
  simp
 rw[List.all_eq_true.1 hall e this] at hq;cases hq
theorem XQ{s:List UInt8}(hp:s.take 2≠[47,47]):Cf s=0:=by
 unfold Cf;rw[if_neg hp]
theorem TU{s:List UInt8}{a n:Int}(h0:0≤a)(h:a+1≤n):((s.drop a.toNat).drop 1)[(n-a-1).toNat]? =s[n.toNat]? :=by
 rw[List.getElem?_drop,List.getElem?_drop];congr 1;omega
theorem NR{s:List UInt8}{a n:Int}(h0:0≤a)(h:a≤n):(s.drop a.toNat)[(n-a).toNat]? =s[n.toNat]? :=by
 rw[List.getElem?_drop];congr 1;omega
theorem Qa{p:UInt8→Prop}{s:List UInt8}{m k:Nat}{e:UInt8}(h:∀e∈s.take m,p e)(he:s[m]? =some e)(hp:p e)(hk:k=m+1):∀e∈s.take k,p e:=by
 subst hk
 rw[FV he];intro x hx
 rcases List.mem_append.1 hx with hx|hx
 ·exact h x hx
 ·simp at hx;subst hx;exact hp
def qI(x:List UInt8×Int)(i:Int):Prop:=x.2+1≤i∧(i≤x.1.length∨i=x.2+1)∧∀e∈((x.1.drop x.2.toNat).drop 1).take (i-x.2-1).toNat,isQ e=false∧BW e=true
theorem a5G{x:List UInt8×Int}:qI x (x.2+1):=by
 refine⟨by omega,.inr rfl,fun e he=> ?_⟩
 rw[show(x.2+1-x.2-1).toNat=0 by omega] at he;simp at he
theorem a5H{x:List UInt8×Int}{i:Int}(h:qI x i):x.2+1≤i∧(i≤x.1.length∨i=x.2+1):=⟨h.1,h.2.1⟩
theorem a5I{x:List UInt8×Int}{i:Int}{c:UInt8}(h0:0≤x.2)(h:qI x i)(hq:(c.toNat:Int)=39)(hc:x.1[i.toNat]? =some c):i+1-x.2=Ck (x.1.drop x.2.toNat):=by
 have:=h.1
 rw[a5C h.2.2 (by rw[TU h0 h.1];exact hc) (by simp [isQ];omega)];omega
theorem a5J{x:List UInt8×Int}{i:Int}{c d:UInt8}(h0:0≤x.2)(h:qI x i)(hq:(c.toNat:Int)≠39)(hc:x.1[i.toNat]? =some c)(hp:BW d=false)(hd:x.1[i.toNat]? =some d):0=(Ck (x.1.drop x.2.toNat):Int):=by
 rw[hc] at hd;cases hd
 rw[a5D h.2.2 (by rw[TU h0 h.1];exact hc) (by simp [isQ];omega) hp];rfl
theorem a5K{x:List UInt8×Int}{i:Int}{c d:UInt8}(h0:0≤x.2)(h:qI x i)(hl:i<x.1.length)(hq:(c.toNat:Int)≠39)(hc:x.1[i.toNat]? =some c)(hp:BW d=true)(hd:x.1[i.toNat]? =some d):qI x (i+1):=by
 rw[hc] at hd;cases hd
 have:=h.1
 exact⟨by omega,.inl (by omega),Qa (p:=fun e=>isQ e=false∧BW e=true) h.2.2 (by rw[TU h0 h.1];exact hc) ⟨by simp [isQ];omega,hp⟩ (by omega)⟩
theorem a5L{x:List UInt8×Int}{i:Int}(h0:0≤x.2)(h:qI x i)(hl:¬i<x.1.length):0=(Ck (x.1.drop x.2.toNat):Int):=by
 rw[a5E h.2.2 (by simp;omega)];rfl
def nI(x:List UInt8×Int)(i:Int):Prop:=(x.2≤i∧i≤x.1.length)∧(x.1.drop x.2.toNat).take 2=[47,47]∧∀e∈(x.1.drop x.2.toNat).take (i-x.2).toNat,BU e=true∧BW e=true
theorem XR{x:List UInt8×Int}(h0:0≤x.2):List.drop x.2.toNat (List.take (x.2+2).toNat x.1)=(x.1.drop x.2.toNat).take 2:=by
 rw[List.drop_take];congr 1;omega
theorem a5M{x:List UInt8×Int}(h0:0≤x.2)(hl:x.2≤x.1.length)(h:(List.drop x.2.toNat (List.take (x.2+2).toNat x.1)==[47,47])=true):nI x x.2:=by
 rw[XR h0] at h
 refine⟨⟨by omega,hl⟩,by simpa using h,fun e he=> ?_⟩
 rw[show(x.2-x.2).toNat=0 by omega] at he;simp at he
theorem a5N{x:List UInt8×Int}(h0:0≤x.2)(h:(List.drop x.2.toNat (List.take (x.2+2).toNat x.1)==[47,47])=false):0=(Cf (x.1.drop x.2.toNat):Int):=by
 rw[XR h0] at h
 rw[XQ (by simpa using h)];rfl
theorem a5O{x:List UInt8×Int}(h0:0≤x.2)(h:x.2+2>x.1.length):0=(Cf (x.1.drop x.2.toNat):Int):=by
 rw[XQ]
 ·rfl
 ·intro e;have:=congrArg List.length e;simp at this;omega
theorem a5P{x:List UInt8×Int}{i:Int}{c d:UInt8}(h0:0≤x.2)(h:nI x i)(hn:(c.toNat:Int)≠10)(hc:x.1[i.toNat]? =some c)(hp:BW d=false)(hd:x.1[i.toNat]? =some d):0=(Cf (x.1.drop x.2.toNat):Int):=by
 rw[hc] at hd;cases hd
 rw[a5F h.2.1 h.2.2 (by rw[NR h0 h.1.1];exact hc) (by simp [BU];omega) hp];rfl
theorem a5Q{x:List UInt8×Int}{i:Int}{c d:UInt8}(h0:0≤x.2)(h:nI x i)(hl:i<x.1.length)(hn:(c.toNat:Int)≠10)(hc:x.1[i.toNat]? =some c)(hp:BW d=true)(hd:x.1[i.toNat]? =some d):nI x (i+1):=by
 rw[hc] at hd;cases hd
 have:=h.1
 exact⟨by omega,h.2.1,Qa (p:=fun e=>BU e=true∧BW e=true) h.2.2 (by rw[NR h0 h.1.1];exact hc) ⟨by simp [BU];omega,hp⟩ (by omega)⟩
theorem a5R{x:List UInt8×Int}{i:Int}{c:UInt8}(h0:0≤x.2)(h:nI x i)(hn:(c.toNat:Int)=10)(hc:x.1[i.toNat]? =some c):i-x.2=(Cf (x.1.drop x.2.toNat):Int):=by
 have:=h.1
 have hl:=(List.getElem?_eq_some_iff.1 hc).1
 rw[XP h.2.1 h.2.2 (.inr ⟨c,by rw[NR h0 h.1.1];exact hc,by simp [BU];omega⟩) (by simp;omega)];omega
theorem a5S{x:List UInt8×Int}{i:Int}(h0:0≤x.2)(h:nI x i)(hl:¬i<x.1.length):i-x.2=(Cf (x.1.drop x.2.toNat):Int):=by
 have:=h.1
 rw[XP h.2.1 h.2.2 (.inl (by simp;omega)) (by simp;omega)];omega
def nmI(x:List UInt8)(i:Int):Prop:=(0≤i∧i≤x.length)∧(inn x.length 1 30=true∧Cg (x.headD 0)=true∧kw x=false)∧∀e∈x.take i.toNat,BB e=true
theorem NS{x:List UInt8}:BK x=true↔(inn x.length 1 30=true∧Cg (x.headD 0)=true∧kw x=false)∧x.all BB=true:=by
 unfold BK
 rw[a5B]
 cases x with
 |nil=>simp [inn]
 |cons c t=>
  simp only[inn,Bool.and_eq_true,decide_eq_true_eq,Bool.not_eq_true',List.headD_cons,List.length_cons]
  constructor
  ·rintro⟨⟨h1,h2,h3⟩,h4⟩;exact⟨⟨⟨by omega,by omega⟩,h1,h4⟩,h2⟩
  ·rintro⟨⟨⟨h1,h2⟩,h3,h4⟩,h5⟩;exact⟨⟨h3,h5,by omega⟩,h4⟩
theorem XS{x:List UInt8}{c:UInt8}(h:x[0]? =some c):x.headD 0=c:=by cases x<;>simp_all
theorem TV{x:List UInt8}(h:¬(inn x.length 1 30=true∧Cg (x.headD 0)=true∧kw x=false)):false=BK x:=by
 symm;rw[Bool.eq_false_iff];intro hn;exact h (NS.1 hn).1
theorem a5T{x:List UInt8}(h:inn x.length 1 30=true)(h1:Cg (x.headD 0)=true)(h2:kw x=false):nmI x 0:=⟨by omega,⟨h,h1,h2⟩,fun e he=>by simp at he⟩
theorem XT{x:List UInt8}{i:Int}{c:UInt8}(h:nmI x i)(hc:x[i.toNat]? =some c)(hl:i<x.length)(hp:BB c=true):nmI x (i+1):=by
 have:=h.1
 exact⟨by omega,h.2.1,Qa (p:=fun e=>BB e=true) h.2.2 hc hp (by omega)⟩
theorem a5U{x:List UInt8}{i:Int}{c:UInt8}(h:nmI x i)(hc:x[i.toNat]? =some c)(hp:BB c=false):false=BK x:=by
 symm;rw[Bool.eq_false_iff];intro hn
 have:=(NS.1 hn).2
 rw[PS hc hp] at this;cases this
theorem a5V{x:List UInt8}{i:Int}(h:nmI x i)(hl:¬i<x.length):true=BK x:=by
 symm;rw[NS];exact⟨h.2.1,TH h.2.2 (by omega)⟩
theorem a5W{x:List UInt8}{c:UInt8}(h1:(x.length:Int)>1)(hq:(c.toNat:Int)=39)(h:x[0]? =some c):((Ck x:Int)==(x.length:Int))=Ch x 3:=by
 cases x with
 |nil=>cases h
 |cons d t=>
  have:d=c:=by simpa using h
  subst this
  have e:isQ d=true:=by simp [isQ];omega
  rw[TS,Bool.eq_iff_iff]
  simp [e] at h1 ⊢;omega
theorem a5X{x:List UInt8}{c:UInt8}(hq:(c.toNat:Int)≠39)(h:x[0]? =some c):false=Ch x 3:=by
 cases x with
 |nil=>cases h
 |cons d t=>
  have:d=c:=by simpa using h
  subst this
  have e:isQ d=false:=by simp [isQ];omega
  rw[TS];simp [e]
theorem a5Y{x:List UInt8}(h1:¬(x.length:Int)>1):false=Ch x 3:=by
 rw[TS]
 cases x with
 |nil=>rfl
 |cons d t=>
  have:decide (1<(d::t).length)=false:=decide_eq_false (by omega)
  simp only[this,Bool.false_and,Bool.and_false]
theorem a5Z{x:List UInt8}(h1:(x.length:Int)>1)(h2:(Cf x:Int)=x.length):(Cp x==x)=Ch x 5:=by
 rw[TT]
 have e1:decide (1<x.length)=true:=decide_eq_true (by omega)
 have e2:decide (Cf x=x.length)=true:=decide_eq_true (by omega)
 simp [e1,e2]
theorem a6a{x:List UInt8}(h2:(Cf x:Int)≠x.length):false=Ch x 5:=by
 rw[TT]
 have e2:decide (Cf x=x.length)=false:=decide_eq_false (by omega)
 simp only[e2,Bool.false_and,Bool.and_false]
theorem a6b{x:List UInt8}(h1:¬(x.length:Int)>1):false=Ch x 5:=by
 rw[TT]
 have e2:decide (1<x.length)=false:=decide_eq_false (by omega)
 simp only[e2,Bool.false_and]
end Go.My
end
section
set_option linter.unusedVariables false
set_option linter.unusedSimpArgs false
namespace Go.My
open Go.Eng Go.Proofs
variable {G:GInv}
def GE:Sig:= {X:=List UInt8,args:=fun x=>[.str x],pre:=fun x=>True,Y:=Unit,post:=fun x y=>True,res:=fun x y=> .bool (kw x),outs:=fun x y=>[.top],keep:=false}
theorem a6c:Al G Tryz.prog 119 GE:=
 vcFun_okP [] [] false (fun x=>[]) Tryz.func119 rfl (by decide) trivial (fun(x:List UInt8)=>(∀(y:Unit),True→True∧True∧True)∧Aa (x== #[(99:UInt8),(108:UInt8),(97:UInt8),(115:UInt8),(115:UInt8)].toList) (rA GE x [.bool true,.top]) (Aa (x== #[(118:UInt8),(97:UInt8),(114:UInt8)].toList) (rA GE x [.bool true,.top]) (Aa (x== #[(105:UInt8),(102:UInt8)].toList) (rA GE x [.bool true,.top]) (Aa (x== #[(101:UInt8),(108:UInt8),(115:UInt8),(101:UInt8)].toList) (rA GE x [.bool true,.top]) (Aa (x== #[(119:UInt8),(104:UInt8),(105:UInt8),(108:UInt8),(101:UInt8)].toList) (rA GE x [.bool true,.top]) (Aa (x== #[(114:UInt8),(101:UInt8),(116:UInt8),(117:UInt8),(114:UInt8),(110:UInt8)].toList) (rA GE x [.bool true,.top]) (rA GE x [.bool false,.top]))))))) (fun x=>by kernel_rfl) fun(x:List UInt8) (hx:True)=>(by
 dsimp only[rA,GE,Av,AA]
 (repeat' first|(with_reducible first|rfl|exact True.intro|apply AL|apply And.intro|((first|apply AB|apply AJ|apply AC|apply AK)<;>intro _))|(apply Az<;>intro _)|apply AI|refine Ag () ?_ ?_|((first|apply AP|apply AO|apply AN|apply AM|apply AH|apply AG|apply AF|apply AE|apply AD)<;>try dsimp only)|apply Ag|(refine Prod.forall.2 ?_;intro _;try dsimp only)|(intro _;try dsimp only))<;>(try dsimp only at*)<;>(try simp only[AR,List.length_cons,List.length_nil])<;>(try omega)
 all_goals simp [kw, *])
def Fx:Sig:= {X:=List UInt8,args:=fun x=>[.str x],pre:=fun x=>True,Y:=Unit,post:=fun x y=>True,res:=fun x y=> .bool (kw x),outs:=fun x y=>[.top],keep:=false}
theorem TW:Al G Tryz.prog 125 Fx:=
 vcFun_okP [] [] false (fun x=>[]) Tryz.func125 rfl (by decide) trivial (fun(x:List UInt8)=>(∀(y:Unit),True→True∧True∧True)∧Aa (x== #[(99:UInt8),(108:UInt8),(97:UInt8),(115:UInt8),(115:UInt8)].toList) (rA Fx x [.bool true,.top]) (Aa (x== #[(118:UInt8),(97:UInt8),(114:UInt8)].toList) (rA Fx x [.bool true,.top]) (Aa (x== #[(105:UInt8),(102:UInt8)].toList) (rA Fx x [.bool true,.top]) (Aa (x== #[(101:UInt8),(108:UInt8),(115:UInt8),(101:UInt8)].toList) (rA Fx x [.bool true,.top]) (Aa (x== #[(119:UInt8),(104:UInt8),(105:UInt8),(108:UInt8),(101:UInt8)].toList) (rA Fx x [.bool true,.top]) (Aa (x== #[(114:UInt8),(101:UInt8),(116:UInt8),(117:UInt8),(114:UInt8),(110:UInt8)].toList) (rA Fx x [.bool true,.top]) (rA Fx x [.bool false,.top]))))))) (fun x=>by kernel_rfl) fun(x:List UInt8) (hx:True)=>(by
 dsimp only[rA,Fx,Av,AA]
 (repeat' first|(with_reducible first|rfl|exact True.intro|apply AL|apply And.intro|((first|apply AB|apply AJ|apply AC|apply AK)<;>intro _))|(apply Az<;>intro _)|apply AI|refine Ag () ?_ ?_|((first|apply AP|apply AO|apply AN|apply AM|apply AH|apply AG|apply AF|apply AE|apply AD)<;>try dsimp only)|apply Ag|(refine Prod.forall.2 ?_;intro _;try dsimp only)|(intro _;try dsimp only))<;>(try dsimp only at*)<;>(try simp only[AR,List.length_cons,List.length_nil])<;>(try omega)
 all_goals simp [kw, *])
theorem a6d{c:UInt8}:decide (Cq mk1 c≥0)=mk1.elem c:=by
 unfold Cq
 cases h:Dw (fun d=>decide (d.toNat=c.toNat)) mk1 with
 |none=>
  have:=TI.1 h
  symm
  simp only[Int.reduceNeg,ge_iff_le,Int.reduceLE,decide_false]
  rw[Bool.eq_false_iff]
  intro h2
  have h3:=this c (by simpa using h2)
  simp at h3
 |some i=>
  obtain⟨_,e,he,hq⟩:=Kd.1 h
  have h3:e=c:=by simpa [UInt8.toNat_inj] using hq
  subst h3
  have:=List.mem_of_getElem? he
  simp [this]
def GF:Sig:= {X:=List UInt8,args:=fun x=>[.str x],pre:=fun x=>x.length<2^63,Y:=Unit,post:=fun x y=>True,res:=fun x y=> .bool (Co x),outs:=fun x y=>[.top],keep:=false}
theorem a6e:Al G Tryz.prog 168 GF:=
 vcFun_okP [(185,0,LU)] [] false (fun x=>[]) Tryz.func168 rfl (by decide) ⟨a5j,trivial⟩ (fun(x:List UInt8)=>(∀(y:Unit),True→True∧True∧True)∧Aa (x== #[(38:UInt8),(38:UInt8)].toList) (rA GF x [.bool true,.top]) (Aa (x== #[(124:UInt8),(124:UInt8)].toList) (rA GF x [.bool true,.top]) (Aa (x== #[(61:UInt8),(61:UInt8)].toList) (rA GF x [.bool true,.top]) (Aa (x== #[(61:UInt8),(62:UInt8)].toList) (rA GF x [.bool true,.top]) (Aa (x== #[(46:UInt8),(46:UInt8)].toList) (rA GF x [.bool true,.top]) (Aa ((↑(List.length x):Int)==(1:Int)) (cA LU [.str #[(40:UInt8),(41:UInt8),(123:UInt8),(125:UInt8),(91:UInt8),(93:UInt8),(59:UInt8),(44:UInt8),(46:UInt8),(61:UInt8),(43:UInt8),(45:UInt8),(42:UInt8),(60:UInt8),(63:UInt8),(58:UInt8)].toList,.str x] fun x_1 y=>rA GF x [.bool (decide (Cq x_1.1 (List.headD x_1.2 (0:UInt8))≥(0:Int))),.top]) (rA GF x [.bool false,.top]))))))) (fun x=>by kernel_rfl) fun(x:List UInt8) (hx:x.length<2^63)=>(by
 dsimp only[cA,rA,GF,LU,Av,AA,mvL,lnL,mvE,lnE]
 (repeat' first|(with_reducible first|rfl|exact True.intro|apply AL|apply And.intro|((first|apply AB|apply AJ|apply AC|apply AK)<;>intro _))|(apply Az<;>intro _)|apply AI|refine Ag () ?_ ?_|((first|apply AP|apply AO|apply AN|apply AM|apply AH|apply AG|apply AF|apply AE|apply AD)<;>try dsimp only)|apply Ag|(refine Prod.forall.2 ?_;intro _;try dsimp only)|(intro _;try dsimp only))<;>(try dsimp only at*)<;>(try simp only[AR,List.length_cons,List.length_nil])<;>(try omega)
 ·rename_i h;simp [Co,mk2,h]
 ·rename_i h;simp [Co,mk2,h]
 ·rename_i h;simp [Co,mk2,h]
 ·rename_i h;simp [Co,mk2,h]
 ·rename_i h;simp [Co,mk2,h]
 ·rename_i h1 h2 h3 h4 h5 h _ _
  have h:x.length=1:=by omega
  match x,h with
  |[c],_=>exact a6d.trans (by simp [Co,mk2])
 ·rename_i h1 h2 h3 h4 h5 h
  symm;simp only[Co,mk2,Bool.or_eq_false_iff,beq_eq_false_iff_ne]
  refine⟨⟨h1,h2,h3,h4,h5⟩,?_⟩
  split
  ·simp at h
  ·rfl)
def Kl:Sig:= {X:=List UInt8,args:=fun x=>[.str x,.int .u8 32],pre:=fun x=>x.length<2^63,Y:=Unit,post:=fun x y=>True,res:=fun x y=> .str (Cp x),outs:=fun x y=>[.top,.top],keep:=false}
def Qb(x:List UInt8):LS:= {ι:=List UInt8,inv:=fun s=>s.length≤x.length∧Cp s=Cp x,regs:=fun s=>[(0,.str s),(1,.int .u8 32)],als:=[],meas:=fun s=>s.length}
theorem a6f:Al G Tryz.prog 197 Kl:=
 vcFun_okP [] [] false (fun x=>[(1,Qb x)]) Tryz.func197 rfl (by decide) trivial (fun(x:List UInt8)=>(∀(y:Unit),True→True∧True∧True∧True)∧eA (Qb x) [.str x,AV.int IntKind.u8 (32:Int)]∧∀(i:List UInt8),List.length i≤List.length x∧Cp i=Cp x→Aa (decide ((↑(List.length i):Int)>(0:Int))) (inR IntKind.i64 ((↑(List.length i):Int)-(1:Int))∧((0:Int)≤(↑(List.length i):Int)-(1:Int)∧(↑(List.length i):Int)-(1:Int)<(↑(List.length i):Int))∧∀(c:UInt8),i[Int.toNat ((↑(List.length i):Int)-(1:Int))]? =some c→Aa ((↑(UInt8.toNat c):Int)==(32:Int)) (inR IntKind.i64 ((↑(List.length i):Int)-(1:Int))∧((0:Int)≤(0:Int)∧(0:Int)≤(↑(List.length i):Int)-(1:Int)∧(↑(List.length i):Int)-(1:Int)≤(↑(List.length i):Int))∧eN (Qb x) i [.str (List.take (Int.toNat ((↑(List.length i):Int)-(1:Int))) i),AV.int IntKind.u8 (32:Int)]) (rA Kl x [.str i,.top,.top])) (rA Kl x [.str i,.top,.top])) (fun x=>by kernel_rfl) fun(x:List UInt8) (hx:x.length<2^63)=>(by
 dsimp only[eA,eN,Qb,rA,Kl,Av,AA,Bi]
 (repeat' first|(with_reducible first|rfl|exact True.intro|apply AL|apply And.intro|((first|apply AB|apply AJ|apply AC|apply AK)<;>intro _))|(apply Az<;>intro _)|apply AI|refine Ag () ?_ ?_|((first|apply AP|apply AO|apply AN|apply AM|apply AH|apply AG|apply AF|apply AE|apply AD)<;>try dsimp only)|apply Ag|(refine Prod.forall.2 ?_;intro _;try dsimp only)|(intro _;try dsimp only))<;>(try dsimp only at*)<;>(try simp only[AR,List.length_cons,List.length_nil])<;>(try omega)
 ·rename_i s hs h c hc h2;simp;omega
 ·rename_i s hs h c hc h2;simp;omega
 ·rename_i s hs h c hc h2
  have e:((s.length:Int)-1).toNat=s.length-1:=by omega
  rw[e] at hc ⊢
  rw[←hs.2,XJ hc,if_pos (by omega)]
 ·rename_i s hs h c hc h2
  have e:((s.length:Int)-1).toNat=s.length-1:=by omega
  rw[e] at hc
  rw[←hs.2,XJ hc,if_neg (by omega)]
 ·rename_i s hs h
  have:s=[]:=List.length_eq_zero_iff.1 (by omega)
  rw[←hs.2,this];rfl)
def Km:Sig:= {X:=List UInt8,args:=fun x=>[.str x,.str [32]],pre:=fun x=>x.length<2^63,Y:=Unit,post:=fun x y=>True,res:=fun x y=> .str (Cp x),outs:=fun x y=>[.top,.top],keep:=false}
theorem a6g:Al G Tryz.prog 184 Km:=
 vcFun_okP [(197,0,Kl)] [] false (fun x=>[]) Tryz.func184 rfl (by decide) ⟨a6f,trivial⟩ (fun(x:List UInt8)=>(∀(y:Unit),True→True∧True∧True∧True)∧Aa (x== #[].toList) (rA Km x [.str x,.top,.top]) (((0:Int)≤(0:Int)∧(0:Int)<(↑(1:Nat):Int))∧∀(c:UInt8),[(32:UInt8)][(0:Nat)]? =some c→Aa (decide ((↑(UInt8.toNat c):Int)<(128:Int))) (((0:Int)≤(0:Int)∧(0:Int)<(↑(1:Nat):Int))∧∀(c:UInt8),[(32:UInt8)][(0:Nat)]? =some c→cA Kl [.str x,AV.int IntKind.u8 (↑(UInt8.toNat c):Int)] fun x_1 y=>rA Km x [.str (Cp x_1),.top,.top]) False)) (fun x=>by kernel_rfl) fun(x:List UInt8) (hx:x.length<2^63)=>(by
 dsimp only[cA,rA,Kl,Km,Av,AA,mvL,lnL,mvE,lnE]
 refine⟨fun _ _=>⟨trivial,trivial,trivial,trivial⟩,AC (fun h=>⟨(),trivial,by rw[h];rfl,trivial⟩) (fun h=>⟨by omega,fun c hc=> ?_⟩)⟩
 have hc:32=c:=by simpa using hc
 subst hc
 refine AB (fun _=>⟨by omega,fun c hc=> ?_⟩) (fun h=>(h (by decide)).elim)
 have hc:32=c:=by simpa using hc
 subst hc
 exact⟨x,hx,rfl,rfl,fun _ _=>⟨(),trivial,rfl,trivial⟩⟩)
def LY:Sig:= {X:=List UInt8,args:=fun x=>[.str x],pre:=fun x=>x.length<2^63,Y:=Unit,post:=fun x y=>True,res:=fun x y=> .str (Cp x),outs:=fun x y=>[.top],keep:=false}
theorem a6h:Al G Tryz.prog 166 LY:=
 vcFun_okP [(184,0,Km)] [] false (fun x=>[]) Tryz.func166 rfl (by decide) ⟨a6g,trivial⟩ (fun(x:List UInt8)=>(∀(y:Unit),True→True∧True∧True)∧cA Km [.str x,.str #[(32:UInt8)].toList] fun x_1 y=>rA LY x [.str (Cp x_1),.top]) (fun x=>by kernel_rfl) fun(x:List UInt8) (hx:x.length<2^63)=>(by
 dsimp only[cA,rA,LY,Km,Av,AA,mvL,lnL,mvE,lnE]
 (repeat' first|(with_reducible first|rfl|exact True.intro|apply AL|apply And.intro|((first|apply AB|apply AJ|apply AC|apply AK)<;>intro _))|(apply Az<;>intro _)|apply AI|refine Ag () ?_ ?_|((first|apply AP|apply AO|apply AN|apply AM|apply AH|apply AG|apply AF|apply AE|apply AD)<;>try dsimp only)|apply Ag|(refine Prod.forall.2 ?_;intro _;try dsimp only)|(intro _;try dsimp only))<;>(try dsimp only at*)<;>(try simp only[AR,List.length_cons,List.length_nil])<;>(try omega))
def HO:Sig:= {X:=List UInt8,args:=fun x=>[.str x],pre:=fun x=>x.length<2^63,Y:=Unit,post:=fun x y=>True,res:=fun x y=> .str (Cp x),outs:=fun x y=>[.top],keep:=false}
def Qc(x:List UInt8):LS:= {ι:=Int,inv:=fun i=>0≤i∧i≤x.length∧Cp (x.take i.toNat)=Cp x,regs:=fun i=>[(0,.str x),(3,.int .i64 i)],als:=[],meas:=fun i=>i.toNat}
theorem XU:Al G Tryz.prog 135 HO:=
 vcFun_okP [] [] false (fun x=>[(2,Qc x)]) Tryz.func135 rfl (by decide) trivial (fun(x:List UInt8)=>(∀(y:Unit),True→True∧True∧True)∧eA (Qc x) [.str x,.int .i64 (↑(List.length x):Int)]∧∀(i:Int),(0:Int)≤i∧i≤(↑(List.length x):Int)∧Cp (List.take (Int.toNat i) x)=Cp x→Aa (decide (i>(0:Int))) (inR IntKind.i64 (i-(1:Int))∧((0:Int)≤i-(1:Int)∧i-(1:Int)<(↑(List.length x):Int))∧∀(c:UInt8),x[Int.toNat (i-(1:Int))]? =some c→Aa ((↑(UInt8.toNat c):Int)==(32:Int)) (inR IntKind.i64 (i-(1:Int))∧eN (Qc x) i [.str x,.int .i64 (i-(1:Int))]) (((0:Int)≤(0:Int)∧(0:Int)≤i∧i≤(↑(List.length x):Int))∧rA HO x [.str (List.take (Int.toNat i) x),.top])) (((0:Int)≤(0:Int)∧(0:Int)≤i∧i≤(↑(List.length x):Int))∧rA HO x [.str (List.take (Int.toNat i) x),.top])) (fun x=>by kernel_rfl) fun(x:List UInt8) (hx:x.length<2^63)=>(by
 dsimp only[eA,eN,Qc,rA,HO,Av,AA,Bi]
 (repeat' first|(with_reducible first|rfl|exact True.intro|apply AL|apply And.intro|((first|apply AB|apply AJ|apply AC|apply AK)<;>intro _))|(apply Az<;>intro _)|apply AI|refine Ag () ?_ ?_|((first|apply AP|apply AO|apply AN|apply AM|apply AH|apply AG|apply AF|apply AE|apply AD)<;>try dsimp only)|apply Ag|(refine Prod.forall.2 ?_;intro _;try dsimp only)|(intro _;try dsimp only))<;>(try dsimp only at*)<;>(try simp only[AR,List.length_cons,List.length_nil])<;>(try omega)
 ·simp
 ·rename_i i hi h c hc h2
  rw[←hi.2.2,show i.toNat=(i-1).toNat+1 by omega,XK hc,if_pos (by omega)]
 ·rename_i i hi h c hc h2
  have:=hi.2.2
  rw[show i.toNat=(i-1).toNat+1 by omega,XK hc,if_neg (by omega)] at this
  rw[←this,show i.toNat=(i-1).toNat+1 by omega]
 ·rename_i i hi h
  rw[←hi.2.2,show i.toNat=0 by omega];rfl)
theorem a6i(s:List UInt8)(c:UInt8):Cq s c= -1∨(0≤Cq s c∧Cq s c<s.length):=by
 unfold Cq
 split
 ·exact .inl rfl
 ·rename_i i h;have:=TR h;omega
theorem XV{s:List UInt8}:Da s=if Cq (s.drop 1) 39<0 then([],false) else(s.take (Cq (s.drop 1) 39+2).toNat,(s.take (Cq (s.drop 1) 39+2).toNat).all BW):=by
 unfold Da Cq
 have e:(fun c:UInt8=>decide (c.toNat=39))=fun d:UInt8=>decide (d.toNat=(39:UInt8).toNat):=rfl
 rw[e]
 cases Dw (fun d:UInt8=>decide (d.toNat=(39:UInt8).toNat)) (s.drop 1) with
 |none=>simp
 |some i=>
  have h1:¬(i:Int)<0:=by omega
  have h2:((i:Int)+2).toNat=i+2:=by omega
  simp only[if_neg h1,h2]
def Kn:Sig:= {X:=List UInt8,args:=fun x=>[.str x],pre:=fun x=>1≤x.length∧x.length<2^62,Y:=Unit,post:=fun x y=>True,res:=fun x y=> .tup [.str (Da x).1,.bool (Da x).2],outs:=fun x y=>[.top],keep:=false}
theorem a6j:Al G Tryz.prog 163 Kn:=
 vcFun_okP [(182,0,LR),(167,0,Hl)] [] false (fun x=>[]) Tryz.func163 rfl (by decide) ⟨a5g,XH,trivial⟩ (fun(x:List UInt8)=>(∀(y:Unit),True→(True∧True∧True)∧True∧True)∧((0:Int)≤(1:Int)∧(1:Int)≤(↑(List.length x):Int)∧(↑(List.length x):Int)≤(↑(List.length x):Int))∧cA LR [.str (List.drop (1:Nat) x),AV.int IntKind.u8 (39:Int)] fun x_1 y=>Aa (decide (Cq x_1 (39:UInt8)<(0:Int))) (rA Kn x [.tup [.str #[].toList,.bool false],.top]) (inR IntKind.i64 (Cq x_1 (39:UInt8)+(2:Int))∧((0:Int)≤(0:Int)∧(0:Int)≤Cq x_1 (39:UInt8)+(2:Int)∧Cq x_1 (39:UInt8)+(2:Int)≤(↑(List.length x):Int))∧cA Hl [.str (List.take (Int.toNat (Cq x_1 (39:UInt8)+(2:Int))) x)] fun x_2 y=>rA Kn x [.tup [.str (List.take (Int.toNat (Cq x_1 (39:UInt8)+(2:Int))) x),.bool (List.all x_2 BW)],.top])) (fun x=>by kernel_rfl) fun(x:List UInt8) (hx:1≤x.length∧x.length<2^62)=>(by
 dsimp only[cA,rA,Hl,Kn,LR,Av,AA,mvL,lnL,mvE,lnE]
 obtain⟨h1,h2⟩:=hx
 have hq:=a6i (x.drop 1) 39;have hl:(x.drop 1).length=x.length-1:=by simp
 (repeat' first|(with_reducible first|rfl|exact True.intro|apply AL|apply And.intro|((first|apply AB|apply AJ|apply AC|apply AK)<;>intro _))|(apply Az<;>intro _)|apply AI|refine Ag () ?_ ?_|((first|apply AP|apply AO|apply AN|apply AM|apply AH|apply AG|apply AF|apply AE|apply AD)<;>try dsimp only)|apply Ag|(refine Prod.forall.2 ?_;intro _;try dsimp only)|(intro _;try dsimp only))<;>(try dsimp only at*)<;>(try simp only[AR,List.length_cons,List.length_nil])<;>(try omega)
 all_goals first
  |omega
  |(rw[XV,if_neg ‹¬Cq _ 39<0›];done)
  |(rw[XV,if_pos ‹Cq _ 39<0›];done)
  |(simp;omega))
def Hn:Sig:= {X:=List UInt8,args:=fun x=>[.str x],pre:=fun x=>1≤x.length∧x.length<2^62,Y:=Unit,post:=fun x y=>True,res:=fun x y=> .tup [.int .i64 (Be x).kind,.str (Be x).text,.int .i64 (Be x).size,.bool (Be x).ok],outs:=fun x y=>[.top],keep:=false}
def Qd(x:List UInt8):LS:= {ι:=Int,inv:=fun i=>Hm x i,regs:=fun i=>[(0,.str x),(12,.int .i64 i)],als:=[],meas:=fun i=>i.toNat}
theorem a6k:Al G Tryz.prog 131 Hn:=
 vcFun_okP [(159,0,Ff),(160,161+1,Ki),(162,0,FX),(160,162+1,Kj),(163,0,Kn),(164,0,LV),(160,165+1,Kk),(166,0,LY),(167,0,Hl),(168,0,GF)] [] false (fun x=>[(15,Qd x)]) Tryz.func131 rfl (by decide) ⟨XE,a5o,TP,a5p,a6j,a5l,a5q,a6h,XH,a6e,trivial⟩ (fun(x:List UInt8)=>(∀(y:Unit),True→(True∧True∧True∧True∧True)∧True∧True)∧((0:Int)≤(0:Int)∧(0:Int)<(↑(List.length x):Int))∧∀(c:UInt8),x[(0:Nat)]? =some c→cA Ff [AV.int IntKind.u8 (↑(UInt8.toNat c):Int)] fun x_1 y=>Aa (Cg x_1) (cA Ki [.str x,AV.clo (Fn.func (84:Nat)) []] fun x_2 y=>rA Hn x [.tup [.int .i64 (1:Int),.str (List.takeWhile BB x_2),.int .i64 (↑(List.length (List.takeWhile BB x_2)):Int),.bool (decide ((↑(List.length (List.takeWhile BB x_2)):Int)≤(30:Int)))],.top]) (cA FX [AV.int IntKind.u8 (↑(UInt8.toNat c):Int)] fun x_2 y=>Aa (Bn x_2) (cA Kj [.str x,AV.clo (Fn.func (85:Nat)) []] fun x_3 y=>rA Hn x [.tup [.int .i64 (2:Int),.str (List.takeWhile Bn x_3),.int .i64 (↑(List.length (List.takeWhile Bn x_3)):Int),.bool (decide ((↑(List.length (List.takeWhile Bn x_3)):Int)≤(12:Int)))],.top]) (Aa ((↑(UInt8.toNat c):Int)==(39:Int)) (cA Kn [.str x] fun x_3 y=>rA Hn x [.tup [.int .i64 (3:Int),.str (Da x_3).1,.int .i64 (↑(List.length (Da x_3).1):Int),.bool (Da x_3).2],.top]) (cA LV [.str x,.str #[(47:UInt8),(47:UInt8)].toList] fun x_3 y=>Aa (List.take (List.length x_3.2) x_3.1==x_3.2) (cA Kk [.str x,AV.clo (Fn.func (88:Nat)) []] fun x_4 y=>cA LY [.str (List.takeWhile BU x_4)] fun x_5 y=>cA Hl [.str (List.takeWhile BU x_4)] fun x_6 y=>rA Hn x [.tup [.int .i64 (5:Int),.str (Cp x_5),.int .i64 (↑(List.length (List.takeWhile BU x_4)):Int),.bool (List.all x_6 BW)],.top]) (eA (Qd x) [.str x,.int .i64 (min (2:Int) (↑(List.length x):Int))]∧∀(i:Int),Hm x i→Aa (decide (i>(0:Int))) (((0:Int)≤(0:Int)∧(0:Int)≤i∧i≤(↑(List.length x):Int))∧cA GF [.str (List.take (Int.toNat i) x)] fun x_4 y=>Aa (Co x_4) (true=true∧true=true∧((0:Int)≤(0:Int)∧(0:Int)≤i∧i≤(↑(List.length x):Int))∧rA Hn x [.tup [.int .i64 (4:Int),.str (List.take (Int.toNat i) x),.int .i64 i,.bool true],.top]) (inR IntKind.i64 (i-(1:Int))∧eN (Qd x) i [.str x,.int .i64 (i-(1:Int))])) (rA Hn x [.tup [.int .i64 (0:Int),.str #[].toList,.int .i64 (0:Int),.bool false],.top])))))) (fun x=>by kernel_rfl) fun(x:List UInt8) (hx:1≤x.length∧x.length<2^62)=>(by
 dsimp only[cA,eA,eN,Qd,rA,LY,FX,Ff,Hl,GF,Kn,Kj,Ki,Kk,LV,Hn,Av,AA,mvL,lnL,mvE,lnE,Bi]
 obtain⟨h1,h2⟩:=hx
 have h3:x.length<9223372036854775808:=by omega
 match x,h1,h2,h3 with
 |b::t,h1,h2,h3=>
 (repeat' first|(with_reducible first|rfl|exact True.intro|apply AL|apply And.intro|((first|apply AB|apply AJ|apply AC|apply AK)<;>intro _))|(apply Az<;>intro _)|apply AI|refine Ag () ?_ ?_|((first|apply AP|apply AO|apply AN|apply AM|apply AH|apply AG|apply AF|apply AE|apply AD)<;>try dsimp only)|apply Ag|(refine Prod.forall.2 ?_;intro _;try dsimp only)|(intro _;try dsimp only))<;>(try dsimp only at*)<;>(try simp only[AR,List.length_cons,List.length_nil])<;>(try omega)
 all_goals(try simp only[List.getElem?_cons_zero,Option.some.injEq] at*)
 all_goals(try subst_vars)
 all_goals first
  |exact h3
  |(rw[a5v ‹_›];done)
  |(rw[a5w ‹_› ‹_›];done)
  |(rw[a5x ‹_› ‹_› ‹_›];done)
  |(rw[a5y ‹_› ‹_› ‹_› ‹_›];done)
  |(rw[a5r ‹_› h1 ‹_› ‹_›];done)
  |(rw[a5s ‹_› h1 ‹_›];done)
  |exact a5t ‹_› ‹_› ‹_›
  |exact a5u ‹_› ‹_› (by omega) ‹_›
  |exact Nat.lt_of_le_of_lt (List.takeWhile_prefix _).length_le h3
  |(have hI:=(‹Hm _ _› :Hm _ _).1;rw[List.length_cons] at hI;omega)
  |(have hI:=(‹Hm _ _› :Hm _ _).1;rw[List.length_take];omega)
  |trace_state)
def Fg:Sig:= {X:=List UInt8×Int,args:=fun x=>[.str x.1,.int .i64 x.2],pre:=fun x=>x.1.length<2^62,Y:=Unit,post:=fun x y=>True,res:=fun x y=> .bool (Ch x.1 x.2),outs:=fun x y=>[.top,.top],keep:=false}
theorem XW:Al G Tryz.prog 99 Fg:=
 vcFun_okP [(131,0,Hn)] [] false (fun x=>[]) Tryz.func99 rfl (by decide) ⟨a6k,trivial⟩ (fun(x:List UInt8×Int)=>(∀(y:Unit),True→True∧True∧True∧True)∧Aa (x.1== #[].toList) (rA Fg x [.bool false,.top,.top]) (cA Hn [.str x.1] fun x_1 y=>Aa (Be x_1).ok (Aa ((Be x_1).kind==x.2) (Aa ((Be x_1).text==x.1) (rA Fg x [.bool ((Be x_1).size==(↑(List.length x.1):Int)),.top,.top]) (rA Fg x [.bool false,.top,.top])) (rA Fg x [.bool false,.top,.top])) (rA Fg x [.bool false,.top,.top]))) (fun x=>by kernel_rfl) fun(x:List UInt8×Int) (hx:x.1.length<2^62)=>(by
 dsimp only[cA,rA,Fg,Hn,Av,AA,mvL,lnL,mvE,lnE]
 (repeat' first|(with_reducible first|rfl|exact True.intro|apply AL|apply And.intro|((first|apply AB|apply AJ|apply AC|apply AK)<;>intro _))|(apply Az<;>intro _)|apply AI|refine Ag () ?_ ?_|((first|apply AP|apply AO|apply AN|apply AM|apply AH|apply AG|apply AF|apply AE|apply AD)<;>try dsimp only)|apply Ag|(refine Prod.forall.2 ?_;intro _;try dsimp only)|(intro _;try dsimp only))<;>(try dsimp only at*)<;>(try simp only[AR,List.length_cons,List.length_nil])<;>(try omega)
 all_goals first
  |exact List.length_pos_iff.2 ‹_›
  |(simp [Ch, *];done)
  |(rw[Bool.eq_iff_iff];simp [Ch, *];done))
def Eo:Sig:= {X:=List UInt8,args:=fun x=>[.str x],pre:=fun x=>x.length<2^62,Y:=Unit,post:=fun x y=>True,res:=fun x y=> .bool (BK x),outs:=fun x y=>[.top],keep:=false}
theorem TX:Al G Tryz.prog 80 Eo:=
 vcFun_okP [(99,0,Fg),(119,0,GE)] [] false (fun x=>[]) Tryz.func80 rfl (by decide) ⟨XW,a6c,trivial⟩ (fun(x:List UInt8)=>(∀(y:Unit),True→True∧True∧True)∧cA Fg [.str x,.int .i64 (1:Int)] fun x_1 y=>Aa (Ch x_1.1 x_1.2) (cA GE [.str x] fun x_2 y=>rA Eo x [.bool !kw x_2,.top]) (rA Eo x [.bool false,.top])) (fun x=>by kernel_rfl) fun(x:List UInt8) (hx:x.length<2^62)=>(by
 dsimp only[cA,rA,GE,Eo,Fg,Av,AA,mvL,lnL,mvE,lnE]
 (repeat' first|(with_reducible first|rfl|exact True.intro|apply AL|apply And.intro|((first|apply AB|apply AJ|apply AC|apply AK)<;>intro _))|(apply Az<;>intro _)|apply AI|refine Ag () ?_ ?_|((first|apply AP|apply AO|apply AN|apply AM|apply AH|apply AG|apply AF|apply AE|apply AD)<;>try dsimp only)|apply Ag|(refine Prod.forall.2 ?_;intro _;try dsimp only)|(intro _;try dsimp only))<;>(try dsimp only at*)<;>(try simp only[AR,List.length_cons,List.length_nil])<;>(try omega)
 all_goals simp [BK, *])
def Dk:Sig:= {X:=Nd,args:=fun x=>[.agg (ndA false x)],pre:=fun x=>x.text.length<2^62,Y:=Unit,post:=fun x y=>True,res:=fun x y=> .bool (Dr x.kind x.text),outs:=fun x y=>[.top],keep:=false}
theorem a6l:Al G Tryz.prog 58 Dk:=
 vcFun_okP [(99,0,Fg),(80,0,Eo)] [] false (fun x=>[]) Tryz.func58 rfl (by decide) ⟨XW,TX,trivial⟩ (fun(x:Nd)=>(∀(y:Unit),True→True∧True∧True)∧Aa (x.kind==(1:Int)) (cA Eo [.str x.text] fun x_1 y=>rA Dk x [.bool (BK x_1),.top]) (Aa (x.kind==(6:Int)) (cA Eo [.str x.text] fun x_1 y=>rA Dk x [.bool (BK x_1),.top]) (Aa (x.kind==(12:Int)) (cA Eo [.str x.text] fun x_1 y=>rA Dk x [.bool (BK x_1),.top]) (Aa (x.kind==(13:Int)) (cA Eo [.str x.text] fun x_1 y=>rA Dk x [.bool (BK x_1),.top]) (Aa (x.kind==(20:Int)) (cA Eo [.str x.text] fun x_1 y=>rA Dk x [.bool (BK x_1),.top]) (Aa (x.kind==(21:Int)) (cA Eo [.str x.text] fun x_1 y=>rA Dk x [.bool (BK x_1),.top]) (Aa (x.kind==(2:Int)) (cA Fg [.str x.text,.int .i64 (2:Int)] fun x_1 y=>rA Dk x [.bool (Ch x_1.1 x_1.2),.top]) (Aa (x.kind==(3:Int)) (cA Fg [.str x.text,.int .i64 (3:Int)] fun x_1 y=>rA Dk x [.bool (Ch x_1.1 x_1.2),.top]) (Aa (x.kind==(19:Int)) (cA Fg [.str x.text,.int .i64 (5:Int)] fun x_1 y=>rA Dk x [.bool (Ch x_1.1 x_1.2),.top]) (Aa (x.kind==(7:Int)) (Aa (x.text== #[(38:UInt8),(38:UInt8)].toList) (rA Dk x [.bool true,.top]) (Aa (x.text== #[(124:UInt8),(124:UInt8)].toList) (rA Dk x [.bool true,.top]) (Aa (x.text== #[(61:UInt8),(61:UInt8)].toList) (rA Dk x [.bool true,.top]) (Aa (x.text== #[(60:UInt8)].toList) (rA Dk x [.bool true,.top]) (Aa (x.text== #[(43:UInt8)].toList) (rA Dk x [.bool true,.top]) (Aa (x.text== #[(45:UInt8)].toList) (rA Dk x [.bool true,.top]) (Aa (x.text== #[(42:UInt8)].toList) (rA Dk x [.bool true,.top]) (rA Dk x [.bool false,.top])))))))) (rA Dk x [.bool (x.text== #[].toList),.top]))))))))))) (fun x=>by kernel_rfl) fun(x:Nd) (hx:x.text.length<2^62)=>(by
 dsimp only[cA,Bt,rA,Eo,Fg,Dk,Av,AA,mvL,lnL,mvE,lnE]
 (repeat' first|(with_reducible first|rfl|exact True.intro|apply AL|apply And.intro|((first|apply AB|apply AJ|apply AC|apply AK)<;>intro _))|(apply Az<;>intro _)|apply AI|refine Ag () ?_ ?_|((first|apply AP|apply AO|apply AN|apply AM|apply AH|apply AG|apply AF|apply AE|apply AD)<;>try dsimp only)|apply Ag|(refine Prod.forall.2 ?_;intro _;try dsimp only)|(intro _;try dsimp only))<;>(try dsimp only at*)<;>(try simp only[AR,List.length_cons,List.length_nil])<;>(try omega)
 all_goals simp [Dr,NP, *])
def Ho:Sig:= {X:=List UInt8×Int,args:=fun x=>[.str x.1,.int .i64 x.2],pre:=fun x=>0≤x.2∧x.2≤x.1.length∧x.1.length<2^62,Y:=Unit,post:=fun x y=>True,res:=fun x y=> .int .i64 (Ck (x.1.drop x.2.toNat)),outs:=fun x y=>[.top,.top],keep:=false}
def Qe(x:List UInt8×Int):LS:= {ι:=Int,inv:=fun i=>qI x i,regs:=fun i=>[(0,.str x.1),(1,.int .i64 x.2),(5,.int .i64 i)],als:=[],meas:=fun i=>x.1.length-i.toNat}
theorem XX:Al G Tryz.prog 133 Ho:=
 vcFun_okP [(169,0,HN)] [] false (fun x=>[(2,Qe x)]) Tryz.func133 rfl (by decide) ⟨XG,trivial⟩ (fun(x:List UInt8×Int)=>(∀(y:Unit),True→True∧True∧True∧True)∧inR IntKind.i64 (x.2+(1:Int))∧eA (Qe x) [.str x.1,.int .i64 x.2,.int .i64 (x.2+(1:Int))]∧∀(i:Int),qI x i→Aa (decide (i<(↑(List.length x.1):Int))) (((0:Int)≤i∧i<(↑(List.length x.1):Int))∧∀(c:UInt8),x.1[Int.toNat i]? =some c→Aa ((↑(UInt8.toNat c):Int)==(39:Int)) (inR IntKind.i64 (i+(1:Int))∧inR IntKind.i64 (i+(1:Int)-x.2)∧rA Ho x [.int .i64 (i+(1:Int)-x.2),.top,.top]) (((0:Int)≤i∧i<(↑(List.length x.1):Int))∧∀(c:UInt8),x.1[Int.toNat i]? =some c→cA HN [AV.int IntKind.u8 (↑(UInt8.toNat c):Int)] fun x_1 y=>Aa (!BW x_1) (rA Ho x [.int .i64 (0:Int),.top,.top]) (inR IntKind.i64 (i+(1:Int))∧eN (Qe x) i [.str x.1,.int .i64 x.2,.int .i64 (i+(1:Int))]))) (rA Ho x [.int .i64 (0:Int),.top,.top])) (fun x=>by kernel_rfl) fun(x:List UInt8×Int) (hx:0≤x.2∧x.2≤x.1.length∧x.1.length<2^62)=>(by
 dsimp only[cA,eA,eN,Qe,rA,HN,Ho,Av,AA,mvL,lnL,mvE,lnE,Bi]
 obtain⟨h1,h2,h3⟩:=hx
 (repeat' first|(with_reducible first|rfl|exact True.intro|apply AL|apply And.intro|((first|apply AB|apply AJ|apply AC|apply AK)<;>intro _))|(apply Az<;>intro _)|apply AI|refine Ag () ?_ ?_|((first|apply AP|apply AO|apply AN|apply AM|apply AH|apply AG|apply AF|apply AE|apply AD)<;>try dsimp only)|apply Ag|(refine Prod.forall.2 ?_;intro _;try dsimp only)|(intro _;try dsimp only))<;>(try dsimp only at*)<;>(try simp only[AR,List.length_cons,List.length_nil])<;>(try omega)
 all_goals first
  |exact a5G
  |exact a5I h1 ‹_› ‹_› ‹_›
  |exact a5J h1 ‹_› ‹_› ‹_› ‹_› ‹_›
  |exact a5K h1 ‹_› ‹_› ‹_› ‹_› ‹_› ‹_›
  |exact a5L h1 ‹_› ‹_›
  |(have hI:=a5H ‹_›;omega))
def FY:Sig:= {X:=List UInt8×Int,args:=fun x=>[.str x.1,.int .i64 x.2],pre:=fun x=>0≤x.2∧x.2≤x.1.length∧x.1.length<2^62,Y:=Unit,post:=fun x y=>True,res:=fun x y=> .int .i64 (Cf (x.1.drop x.2.toNat)),outs:=fun x y=>[.top,.top],keep:=false}
def Qf(x:List UInt8×Int):LS:= {ι:=Int,inv:=fun i=>nI x i,regs:=fun i=>[(0,.str x.1),(1,.int .i64 x.2),(5,.int .i64 i)],als:=[],meas:=fun i=>x.1.length-i.toNat}
theorem XY:Al G Tryz.prog 134 FY:=
 vcFun_okP [(169,0,HN)] [] false (fun x=>[(4,Qf x)]) Tryz.func134 rfl (by decide) ⟨XG,trivial⟩ (fun(x:List UInt8×Int)=>(∀(y:Unit),True→True∧True∧True∧True)∧inR IntKind.i64 (x.2+(2:Int))∧Aa (decide (x.2+(2:Int)>(↑(List.length x.1):Int))) (rA FY x [.int .i64 (0:Int),.top,.top]) (inR IntKind.i64 (x.2+(2:Int))∧((0:Int)≤x.2∧x.2≤x.2+(2:Int)∧x.2+(2:Int)≤(↑(List.length x.1):Int))∧Aa (!List.drop (Int.toNat x.2) (List.take (Int.toNat (x.2+(2:Int))) x.1)== #[(47:UInt8),(47:UInt8)].toList) (rA FY x [.int .i64 (0:Int),.top,.top]) (eA (Qf x) [.str x.1,.int .i64 x.2,.int .i64 x.2]∧∀(i:Int),nI x i→Aa (decide (i<(↑(List.length x.1):Int))) (((0:Int)≤i∧i<(↑(List.length x.1):Int))∧∀(c:UInt8),x.1[Int.toNat i]? =some c→Aa ((↑(UInt8.toNat c):Int) != (10:Int)) (((0:Int)≤i∧i<(↑(List.length x.1):Int))∧∀(c:UInt8),x.1[Int.toNat i]? =some c→cA HN [AV.int IntKind.u8 (↑(UInt8.toNat c):Int)] fun x_1 y=>Aa (!BW x_1) (rA FY x [.int .i64 (0:Int),.top,.top]) (inR IntKind.i64 (i+(1:Int))∧eN (Qf x) i [.str x.1,.int .i64 x.2,.int .i64 (i+(1:Int))])) (inR IntKind.i64 (i-x.2)∧rA FY x [.int .i64 (i-x.2),.top,.top])) (inR IntKind.i64 (i-x.2)∧rA FY x [.int .i64 (i-x.2),.top,.top])))) (fun x=>by kernel_rfl) fun(x:List UInt8×Int) (hx:0≤x.2∧x.2≤x.1.length∧x.1.length<2^62)=>(by
 dsimp only[cA,eA,eN,Qf,rA,FY,HN,Av,AA,mvL,lnL,mvE,lnE,Bi]
 obtain⟨h1,h2,h3⟩:=hx
 (repeat' first|(with_reducible first|rfl|exact True.intro|apply AL|apply And.intro|((first|apply AB|apply AJ|apply AC|apply AK)<;>intro _))|(apply Az<;>intro _)|apply AI|refine Ag () ?_ ?_|((first|apply AP|apply AO|apply AN|apply AM|apply AH|apply AG|apply AF|apply AE|apply AD)<;>try dsimp only)|apply Ag|(refine Prod.forall.2 ?_;intro _;try dsimp only)|(intro _;try dsimp only))<;>(try dsimp only at*)<;>(try simp only[AR,List.length_cons,List.length_nil])<;>(try omega)
 all_goals first
  |exact a5O h1 ‹_›
  |exact a5N h1 ‹_›
  |exact a5M h1 h2 ‹_›
  |exact a5P h1 ‹_› ‹_› ‹_› ‹_› ‹_›
  |exact a5Q h1 ‹_› ‹_› ‹_› ‹_› ‹_› ‹_›
  |exact a5R h1 ‹_› ‹_› ‹_›
  |exact a5S h1 ‹_› ‹_›
  |(have hI:=(‹nI _ _› :nI _ _).1;omega))
def Fh:Sig:= {X:=List UInt8,args:=fun x=>[.str x],pre:=fun x=>x.length<2^62,Y:=Unit,post:=fun x y=>True,res:=fun x y=> .bool (BK x),outs:=fun x y=>[.top],keep:=false}
def NU(x:List UInt8):LS:= {ι:=Int,inv:=fun i=>nmI x i,regs:=fun i=>[(0,.str x),(3,.int .i64 i)],als:=[],meas:=fun i=>x.length-i.toNat}
theorem a6m:Al G Tryz.prog 92 Fh:=
 vcFun_okP [(64,0,CB),(124,0,ED),(125,0,Fx),(126,0,Fe)] [] false (fun x=>[(4,NU x)]) Tryz.func92 rfl (by decide) ⟨Kg,XF,TW,TQ,trivial⟩ (fun(x:List UInt8)=>(∀(y:Unit),True→True∧True∧True)∧cA CB [.int .i64 (↑(List.length x):Int),.int .i64 (1:Int),.int .i64 (30:Int)] fun x_1 y=>Aa (!inn x_1.1 x_1.2.1 x_1.2.2) (rA Fh x [.bool false,.top]) (((0:Int)≤(0:Int)∧(0:Int)<(↑(List.length x):Int))∧∀(c:UInt8),x[(0:Nat)]? =some c→cA ED [AV.int IntKind.u8 (↑(UInt8.toNat c):Int)] fun x_2 y=>Aa (!Cg x_2) (rA Fh x [.bool false,.top]) (cA Fx [.str x] fun x_3 y=>Aa (kw x_3) (rA Fh x [.bool false,.top]) (eA (NU x) [.str x,.int .i64 (0:Int)]∧∀(i:Int),nmI x i→Aa (decide (i<(↑(List.length x):Int))) (((0:Int)≤i∧i<(↑(List.length x):Int))∧∀(c:UInt8),x[Int.toNat i]? =some c→cA ED [AV.int IntKind.u8 (↑(UInt8.toNat c):Int)] fun x_4 y=>Aa (!Cg x_4) (((0:Int)≤i∧i<(↑(List.length x):Int))∧∀(c:UInt8),x[Int.toNat i]? =some c→cA Fe [AV.int IntKind.u8 (↑(UInt8.toNat c):Int)] fun x_5 y=>Aa (!Bn x_5) (rA Fh x [.bool false,.top]) (inR IntKind.i64 (i+(1:Int))∧eN (NU x) i [.str x,.int .i64 (i+(1:Int))])) (inR IntKind.i64 (i+(1:Int))∧eN (NU x) i [.str x,.int .i64 (i+(1:Int))])) (rA Fh x [.bool true,.top]))))) (fun x=>by kernel_rfl) fun(x:List UInt8) (hx:x.length<2^62)=>(by
 dsimp only[cA,eA,eN,NU,rA,CB,Fe,ED,Fh,Fx,Av,AA,mvL,lnL,mvE,lnE,Bi]
 have hp:∀h:inn x.length 1 30=true,1≤x.length:=fun h=>by simp [inn] at h;omega
 (repeat' first|(with_reducible first|rfl|exact True.intro|apply AL|apply And.intro|((first|apply AB|apply AJ|apply AC|apply AK)<;>intro _))|(apply Az<;>intro _)|apply AI|refine Ag () ?_ ?_|((first|apply AP|apply AO|apply AN|apply AM|apply AH|apply AG|apply AF|apply AE|apply AD)<;>try dsimp only)|apply Ag|(refine Prod.forall.2 ?_;intro _;try dsimp only)|(intro _;try dsimp only))<;>(try dsimp only at*)<;>(try simp only[AR,List.length_cons,List.length_nil])<;>(try omega)
 all_goals(try(have:=hp ‹_›;omega))
 all_goals(try(have hI:=(‹nmI _ _› :nmI _ _).1;omega))
 ·rename_i h;exact TV (fun hh=>by rw[hh.1] at h;cases h)
 ·rename_i c hc _ _ h;exact TV (fun hh=>by rw[XS hc,h] at hh;cases hh.2.1)
 ·rename_i h;exact TV (fun hh=>by rw[hh.2.2] at h;cases h)
 ·rename_i h1 c hc _ _ h2 _ _ h3;exact a5T h1 (by rw[XS hc];exact h2) h3
 ·rename_i i hi hl c hc _ _ h1 d hd _ _ h2
  rw[hc] at hd;cases hd
  exact a5U hi hc (by simp [BB,h1,h2])
 ·rename_i i hi hl c hc _ _ h1 d hd _ _ h2
  rw[hc] at hd;cases hd
  exact XT hi hc hl (by simp [BB,h2])
 ·rename_i i hi hl c hc _ _ h1
  exact XT hi hc hl (by simp [BB,h1])
 ·exact a5V ‹_› ‹_›)
def Ko:Sig:= {X:=List UInt8,args:=fun x=>[.str x],pre:=fun x=>x.length<2^62,Y:=Unit,post:=fun x y=>True,res:=fun x y=> .bool (Ch x 2),outs:=fun x y=>[.top],keep:=false}
theorem a6n:Al G Tryz.prog 108 Ko:=
 vcFun_okP [(64,0,CB),(126,0,Fe)] [] false (fun x=>[(2,DM Bn x fun i=>[(0,.str x),(3,.int .i64 i)])]) Tryz.func108 rfl (by decide) ⟨Kg,TQ,trivial⟩ (fun(x:List UInt8)=>(∀(y:Unit),True→True∧True∧True)∧eA (DM Bn x fun(i:Int)=>[((0:Nat),.str x),((3:Nat),.int .i64 i)]) [.str x,.int .i64 (0:Int)]∧∀(i:Int),((0:Int)≤i∧i≤(↑(List.length x):Int)∧∀(e:UInt8),e∈List.take (Int.toNat i) x→Bn e=true)→Aa (decide (i<(↑(List.length x):Int))) (((0:Int)≤i∧i<(↑(List.length x):Int))∧∀(c:UInt8),x[Int.toNat i]? =some c→cA Fe [AV.int IntKind.u8 (↑(UInt8.toNat c):Int)] fun x_1 y=>Aa (!Bn x_1) (rA Ko x [.bool false,.top]) (inR IntKind.i64 (i+(1:Int))∧eN (DM Bn x fun(i:Int)=>[((0:Nat),.str x),((3:Nat),.int .i64 i)]) i [.str x,.int .i64 (i+(1:Int))])) (cA CB [.int .i64 (↑(List.length x):Int),.int .i64 (1:Int),.int .i64 (12:Int)] fun x_1 y=>rA Ko x [.bool (inn x_1.1 x_1.2.1 x_1.2.2),.top])) (fun x=>by kernel_rfl) fun(x:List UInt8) (hx:x.length<2^62)=>(by
 dsimp only[cA,eA,eN,DM,rA,CB,Fe,Ko,Av,AA,mvL,lnL,mvE,lnE,Bi]
 (repeat' first|(with_reducible first|rfl|exact True.intro|apply AL|apply And.intro|((first|apply AB|apply AJ|apply AC|apply AK)<;>intro _))|(apply Az<;>intro _)|apply AI|refine Ag () ?_ ?_|((first|apply AP|apply AO|apply AN|apply AM|apply AH|apply AG|apply AF|apply AE|apply AD)<;>try dsimp only)|apply Ag|(refine Prod.forall.2 ?_;intro _;try dsimp only)|(intro _;try dsimp only))<;>(try dsimp only at*)<;>(try simp only[AR,List.length_cons,List.length_nil])<;>(try omega)
 ·rename_i h;simp at h
 ·rename_i i hi hl c hc _ _ h;rw[XO,PS hc h];rfl
 ·rename_i i hi hl c hc _ _ h e he
  rw[Dv hi.1] at he;exact NQ hi.2.2 hc h e he
 ·rename_i i hi hl _ _;rw[XO,TH hi.2.2 (by omega)];simp only[Bool.true_and,inn];rw[Bool.eq_iff_iff];simp;omega)
def Ju:Sig:= {X:=List UInt8,args:=fun x=>[.str x],pre:=fun x=>x.length<2^62,Y:=Unit,post:=fun x y=>True,res:=fun x y=> .bool (Ch x 3),outs:=fun x y=>[.top],keep:=false}
theorem a6o:Al G Tryz.prog 109 Ju:=
 vcFun_okP [(133,0,Ho)] [] false (fun x=>[]) Tryz.func109 rfl (by decide) ⟨XX,trivial⟩ (fun(x:List UInt8)=>(∀(y:Unit),True→True∧True∧True)∧Aa (decide ((↑(List.length x):Int)>(1:Int))) (((0:Int)≤(0:Int)∧(0:Int)<(↑(List.length x):Int))∧∀(c:UInt8),x[(0:Nat)]? =some c→Aa ((↑(UInt8.toNat c):Int)==(39:Int)) (cA Ho [.str x,.int .i64 (0:Int)] fun x_1 y=>rA Ju x [.bool ((↑(Ck (List.drop (Int.toNat x_1.2) x_1.1)):Int)==(↑(List.length x):Int)),.top]) (rA Ju x [.bool false,.top])) (rA Ju x [.bool false,.top])) (fun x=>by kernel_rfl) fun(x:List UInt8) (hx:x.length<2^62)=>(by
 dsimp only[cA,rA,Ho,Ju,Av,AA,mvL,lnL,mvE,lnE]
 (repeat' first|(with_reducible first|rfl|exact True.intro|apply AL|apply And.intro|((first|apply AB|apply AJ|apply AC|apply AK)<;>intro _))|(apply Az<;>intro _)|apply AI|refine Ag () ?_ ?_|((first|apply AP|apply AO|apply AN|apply AM|apply AH|apply AG|apply AF|apply AE|apply AD)<;>try dsimp only)|apply Ag|(refine Prod.forall.2 ?_;intro _;try dsimp only)|(intro _;try dsimp only))<;>(try dsimp only at*)<;>(try simp only[AR,List.length_cons,List.length_nil])<;>(try omega)
 ·exact a5W ‹_› ‹_› ‹_›
 ·exact a5X ‹_› ‹_›
 ·exact a5Y ‹_›)
def Jv:Sig:= {X:=List UInt8,args:=fun x=>[.str x],pre:=fun x=>x.length<2^62,Y:=Unit,post:=fun x y=>True,res:=fun x y=> .bool (Ch x 5),outs:=fun x y=>[.top],keep:=false}
theorem a6p:Al G Tryz.prog 110 Jv:=
 vcFun_okP [(134,0,FY),(135,0,HO)] [] false (fun x=>[]) Tryz.func110 rfl (by decide) ⟨XY,XU,trivial⟩ (fun(x:List UInt8)=>(∀(y:Unit),True→True∧True∧True)∧Aa (decide ((↑(List.length x):Int)>(1:Int))) (cA FY [.str x,.int .i64 (0:Int)] fun x_1 y=>Aa ((↑(Cf (List.drop (Int.toNat x_1.2) x_1.1)):Int)==(↑(List.length x):Int)) (cA HO [.str x] fun x_2 y=>rA Jv x [.bool (Cp x_2==x),.top]) (rA Jv x [.bool false,.top])) (rA Jv x [.bool false,.top])) (fun x=>by kernel_rfl) fun(x:List UInt8) (hx:x.length<2^62)=>(by
 dsimp only[cA,rA,FY,Jv,HO,Av,AA,mvL,lnL,mvE,lnE]
 (repeat' first|(with_reducible first|rfl|exact True.intro|apply AL|apply And.intro|((first|apply AB|apply AJ|apply AC|apply AK)<;>intro _))|(apply Az<;>intro _)|apply AI|refine Ag () ?_ ?_|((first|apply AP|apply AO|apply AN|apply AM|apply AH|apply AG|apply AF|apply AE|apply AD)<;>try dsimp only)|apply Ag|(refine Prod.forall.2 ?_;intro _;try dsimp only)|(intro _;try dsimp only))<;>(try dsimp only at*)<;>(try simp only[AR,List.length_cons,List.length_nil])<;>(try omega)
 ·exact a5Z ‹_› ‹_›
 ·exact a6a ‹_›
 ·exact a6b ‹_›)
def FZ:Sig:= {X:=List UInt8,args:=fun x=>[.str x],pre:=fun x=>x.length<2^62,Y:=Unit,post:=fun x y=>True,res:=fun x y=> .bool (NP x),outs:=fun x y=>[.top],keep:=false}
theorem a6q:Al G Tryz.prog 111 FZ:=
 vcFun_okP [] [] false (fun x=>[]) Tryz.func111 rfl (by decide) trivial (fun(x:List UInt8)=>(∀(y:Unit),True→True∧True∧True)∧Aa (x== #[(38:UInt8),(38:UInt8)].toList) (rA FZ x [.bool true,.top]) (Aa (x== #[(124:UInt8),(124:UInt8)].toList) (rA FZ x [.bool true,.top]) (Aa (x== #[(61:UInt8),(61:UInt8)].toList) (rA FZ x [.bool true,.top]) (Aa (x== #[(60:UInt8)].toList) (rA FZ x [.bool true,.top]) (Aa (x== #[(43:UInt8)].toList) (rA FZ x [.bool true,.top]) (Aa (x== #[(45:UInt8)].toList) (rA FZ x [.bool true,.top]) (Aa (x== #[(42:UInt8)].toList) (rA FZ x [.bool true,.top]) (rA FZ x [.bool false,.top])))))))) (fun x=>by kernel_rfl) fun(x:List UInt8) (hx:x.length<2^62)=>(by
 dsimp only[rA,FZ,Av,AA]
 (repeat' first|(with_reducible first|rfl|exact True.intro|apply AL|apply And.intro|((first|apply AB|apply AJ|apply AC|apply AK)<;>intro _))|(apply Az<;>intro _)|apply AI|refine Ag () ?_ ?_|((first|apply AP|apply AO|apply AN|apply AM|apply AH|apply AG|apply AF|apply AE|apply AD)<;>try dsimp only)|apply Ag|(refine Prod.forall.2 ?_;intro _;try dsimp only)|(intro _;try dsimp only))<;>(try dsimp only at*)<;>(try simp only[AR,List.length_cons,List.length_nil])<;>(try omega)
 all_goals simp [NP, *])
def EQ:Sig:= {X:=Int×List UInt8,args:=fun x=>[.int .i64 x.1,.str x.2],pre:=fun x=>x.2.length<2^62,Y:=Unit,post:=fun x y=>True,res:=fun x y=> .bool (Dr x.1 x.2),outs:=fun x y=>[.top,.top],keep:=false}
theorem a6r:Al G Tryz.prog 66 EQ:=
 vcFun_okP [(92,0,Fh),(108,0,Ko),(109,0,Ju),(110,0,Jv),(111,0,FZ)] [] false (fun x=>[]) Tryz.func66 rfl (by decide) ⟨a6m,a6n,a6o,a6p,a6q,trivial⟩ (fun(x:Int×List UInt8)=>(∀(y:Unit),True→True∧True∧True∧True)∧Aa (x.1==(1:Int)) (cA Fh [.str x.2] fun x_1 y=>rA EQ x [.bool (BK x_1),.top,.top]) (Aa (x.1==(6:Int)) (cA Fh [.str x.2] fun x_1 y=>rA EQ x [.bool (BK x_1),.top,.top]) (Aa (x.1==(12:Int)) (cA Fh [.str x.2] fun x_1 y=>rA EQ x [.bool (BK x_1),.top,.top]) (Aa (x.1==(13:Int)) (cA Fh [.str x.2] fun x_1 y=>rA EQ x [.bool (BK x_1),.top,.top]) (Aa (x.1==(20:Int)) (cA Fh [.str x.2] fun x_1 y=>rA EQ x [.bool (BK x_1),.top,.top]) (Aa (x.1==(21:Int)) (cA Fh [.str x.2] fun x_1 y=>rA EQ x [.bool (BK x_1),.top,.top]) (Aa (x.1==(2:Int)) (cA Ko [.str x.2] fun x_1 y=>rA EQ x [.bool (Ch x_1 (2:Int)),.top,.top]) (Aa (x.1==(3:Int)) (cA Ju [.str x.2] fun x_1 y=>rA EQ x [.bool (Ch x_1 (3:Int)),.top,.top]) (Aa (x.1==(19:Int)) (cA Jv [.str x.2] fun x_1 y=>rA EQ x [.bool (Ch x_1 (5:Int)),.top,.top]) (Aa (x.1==(7:Int)) (cA FZ [.str x.2] fun x_1 y=>rA EQ x [.bool (NP x_1),.top,.top]) (rA EQ x [.bool (x.2== #[].toList),.top,.top]))))))))))) (fun x=>by kernel_rfl) fun(x:Int×List UInt8) (hx:x.2.length<2^62)=>(by
 dsimp only[cA,rA,FZ,Fh,Jv,Ko,Ju,EQ,Av,AA,mvL,lnL,mvE,lnE]
 (repeat' first|(with_reducible first|rfl|exact True.intro|apply AL|apply And.intro|((first|apply AB|apply AJ|apply AC|apply AK)<;>intro _))|(apply Az<;>intro _)|apply AI|refine Ag () ?_ ?_|((first|apply AP|apply AO|apply AN|apply AM|apply AH|apply AG|apply AF|apply AE|apply AD)<;>try dsimp only)|apply Ag|(refine Prod.forall.2 ?_;intro _;try dsimp only)|(intro _;try dsimp only))<;>(try dsimp only at*)<;>(try simp only[AR,List.length_cons,List.length_nil])<;>(try omega)
 all_goals simp [Dr, *])
end Go.My
end
