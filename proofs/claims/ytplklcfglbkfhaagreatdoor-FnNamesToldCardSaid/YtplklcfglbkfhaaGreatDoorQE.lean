/- A part of the proof: the engine and the contracts, joined. -/
import Derived.Test.YtplklcfglbkfhaaGreatDoorQD
import Derived.Test.YtplklcfglbkfhaaGreatDoorProg
import Derived.WalkKit
import Derived.Lib.Bytealg
import Derived.Laws.Externs
section
set_option linter.unusedVariables false
set_option linter.unusedSimpArgs false
namespace Go.My
open Go.Eng
def inn(x a b:Int):Bool:=decide (a≤x)&&decide (x≤b)
def BK(l:List Nd)(k:Int):Bool:=decide (0≤k)&&decide (k<l.length)
def BH(k:Int):Bool:=inn k 1 11
def JG(k:Int):Bool:=inn k 12 17
def EH(k:Int):Bool:=decide (k=12)||(decide (k=20)||decide (k=19))
def DP(k:Int):Bool:=decide (k=18)
def Et(k:Int):Bool:=decide (k=1)
def FF(k:Int):Bool:=decide (k=5)
def EI(k:Int):Bool:=JG k||decide (k=19)
def GJ(k:Int):Bool:=EH k||decide (k=21)
def GK(p:Int→Bool)(ks:List Int):Bool:=match ks.getLast? with
 |some k=>p k&&ks.dropLast.all Et
 |none=>false
def DQ(k:Int)(ks:List Int):Bool:=
 if k=1∨k=2∨k=3∨k=19 then decide (ks.length=0)
 else if k=4 then ks.all BH
 else if k=5 then decide (1≤ks.length)&&ks.all BH
 else if k=7 then decide (2≤ks.length)&&ks.all BH
 else if k=8 then decide (ks.length=3)&&ks.all BH
 else if k=6∨k=11∨k=13∨k=14 then decide (ks.length=1)&&ks.all BH
 else if k=12∨k=15 then decide (ks.length≤1)&&ks.all BH
 else if k=9 then GK BH ks
 else if k=10 then decide (2≤ks.length)&&(BH (ks.headD 0)&&(ks.drop 1).all FF)
 else if k=16 then(decide (2≤ks.length)&&decide (ks.length≤3))&&(BH (ks.headD 0)&&(ks.drop 1).all DP)
 else if k=17 then decide (ks.length=2)&&(BH (ks.headD 0)&&DP (ks.getD 1 0))
 else if k=18 then ks.all EI
 else if k=20 then GK DP ks
 else if k=21 then ks.all EH
 else if k=22 then ks.all GJ
 else false
def Ai(ns:List Nd)(c:Int):Nd:=ns.getD c.toNat ⟨0,[],[],false⟩
def Bd(ns:List Nd)(c:Int):Int:=(Ai ns c).kind
def CG(ns:List Nd)(x:Nd)(i:Nat)(c:Int):Bool:=
 let y:=Ai ns c
 if y.kind=5 then match y.kids with
  |[]=>false
  |h::_=>BK ns h&& !(decide (x.kind=10)&&(decide (0<i)&& !decide (Bd ns h=1)))
 else true
def EV(ns:List Nd)(x:Nd):Bool:=(x.kids.zipIdx).all fun p=>CG ns x p.2 p.1
def DB(l:List Int)(k:Int):Bool:=l.all fun c=>decide (0≤c)&&decide (c<k)
def Hr(k:Int):Bool:=JG k||(EH k||decide (k=21))
def Ib(ns:List Nd)(k:Int)(x:Nd):Bool:=
 decide (x.kids.length≤12)&&(Fm x.kind x.text&&((DB x.kids k&&decide x.kids.Nodup)&&(DQ x.kind (x.kids.map (Bd ns))&&(EV ns x&&(Hr x.kind|| !x.blank)))))
def BT(ns:List Nd)(k:Int):Bool:=BK ns k&&Ib ns k (Ai ns k)
def mx(ds:List Int):List Int→Int→Int
 |[],d=>d
 |c::l,d=>mx ds l (max d (ds.getD c.toNat 0))
def Dn(ns:List Nd):Nat→Option (List Int)
 |0=>some []
 |n+1=>match Dn ns n with
  |none=>none
  |some ds=>if BT ns n then(if 14≤mx ds (Ai ns n).kids 0 then none else some (ds++[mx ds (Ai ns n).kids 0+1])) else none
def Ct(ns:List Nd)(k:Int):Int:=if BK ns k then match Dn ns (k.toNat+1) with
    |none=>0
    |some ds=>ds.getD k.toNat 0
 else 0
def BW(ns:List Nd):List Int:=ns.flatMap (·.kids)
def BC(ns:List Nd):Bool:=
 (decide (1≤ns.length)&&decide (ns.length≤300))&&(decide (Bd ns (ns.length-1)=22)&&(!decide (Ct ns (ns.length-1)=0)&&((List.range (ns.length-1)).all fun i=>decide ((BW ns).count (i:Int)=1))))
theorem Cu{l:List Nd}{k:Int}:BK l k=true↔0≤k∧k<l.length:=by simp [BK]
theorem Bg{ns:List Nd}{c:Int}{x:Nd}(h:ns[c.toNat]? =some x):Ai ns c=x:=by
 simp [Ai,List.getD,h]
theorem Ud(ds:List Int):∀(l:List Int) (d:Int),d≤mx ds l d
 |[],d=>Int.le_refl d
 |c::l,d=>by unfold mx;have:=Ud ds l (max d (ds.getD c.toNat 0));omega
theorem Ol{ns:List Nd}:∀ {n:Nat} {ds:List Int},Dn ns n=some ds→ds.length=n
 |0,ds,h=>by cases h;rfl
 |n+1,ds,h=>by
  unfold Dn at h
  split at h
  ·cases h
  ·rename_i ds' hd
   split at h
   ·split at h
    ·cases h
    ·simp at h;rw[←h];simp [Ol hd]
   ·cases h
theorem Ue{ns:List Nd}:∀ {n:Nat} {ds:List Int},Dn ns n=some ds→∀d∈ds,1≤d∧d≤14
 |0,ds,h=>by cases h;simp
 |n+1,ds,h=>by
  unfold Dn at h
  split at h
  ·cases h
  ·rename_i ds' hd
   split at h
   ·split at h
    ·cases h
    ·simp at h;rw[←h]
     intro d hdm
     rcases List.mem_append.1 hdm with hdm|hdm
     ·exact Ue hd d hdm
     ·simp at hdm
      have:=Ud ds' (Ai ns n).kids 0
      omega
   ·cases h
theorem XQ{ns:List Nd}:∀ {n:Nat} {ds:List Int},Dn ns n=some ds→∀i,i<n→BT ns i=true
 |0,ds,h,i,hi=>by omega
 |n+1,ds,h,i,hi=>by
  unfold Dn at h
  split at h
  ·cases h
  ·rename_i ds' hd
   split at h
   ·rename_i hok
    by_cases e:i=n
    ·subst e;exact hok
    ·exact XQ hd i (by omega)
   ·cases h
theorem XR{ns:List Nd}{n m:Nat}(h:Dn ns n=none)(hm:n≤m):Dn ns m=none:=by
 induction m with
 |zero=>obtain rfl:n=0:=by omega
        exact h
 |succ m ih=>
  by_cases e:n=m+1
  ·subst e;exact h
  ·unfold Dn;rw[ih (by omega)]
theorem Uf{ns:List Nd}{k:Int}(h:Ct ns k≠0):BK ns k=true∧(∃ds,Dn ns (k.toNat+1)=some ds)∧∀i:Nat,(i:Int)≤k→BT ns i=true:=by
 unfold Ct at h
 split at h
 ·rename_i hn
  split at h
  ·exact(h rfl).elim
  ·rename_i ds hd
   exact⟨hn,⟨ds,hd⟩,fun i hi=>XQ hd i (by have:=Cu.1 hn;omega)⟩
 ·exact(h rfl).elim
theorem DC{ns:List Nd}{k:Int}(h:BT ns k=true):(0≤k∧k<ns.length)∧(Ai ns k).kids.length≤12∧Fm (Ai ns k).kind (Ai ns k).text=true∧
 (∀c∈(Ai ns k).kids,0≤c∧c<k)∧(Ai ns k).kids.Nodup∧DQ (Ai ns k).kind ((Ai ns k).kids.map (Bd ns))=true∧EV ns (Ai ns k)=true:=by
 simp only[BT,Ib,Bool.and_eq_true,decide_eq_true_eq,DB,List.all_eq_true] at h
 exact⟨Cu.1 h.1,h.2.1,h.2.2.1,h.2.2.2.1.1,h.2.2.2.1.2,h.2.2.2.2.1,h.2.2.2.2.2.1⟩
end Go.My
end
section
set_option linter.unusedVariables false
set_option linter.unusedSimpArgs false
namespace Go.My
open Go.Eng
def EW(k:Int):Int×Int:=
 if k=4∨k=18∨k=21∨k=22 then(0,12)
 else if k=5∨k=9∨k=20 then(1,12)
 else if k=6∨k=11∨k=13∨k=14 then(1,1)
 else if k=7∨k=10 then(2,12)
 else if k=8 then(3,3)
 else if k=12∨k=15 then(0,1)
 else if k=16 then(2,3)
 else if k=17 then(2,2)
 else(0,0)
def Gd(k n i y:Int):Bool:=
 if k=9 then(if i+1<n then Et y else BH y)
 else if k=20 then(if i+1<n then Et y else DP y)
 else if k=10 then(if 0<i then FF y else BH y)
 else if k=16∨k=17 then(if 0<i then DP y else BH y)
 else if k=18 then EI y
 else if k=21 then EH y
 else if k=22 then GJ y
 else BH y
def Ku(ns:List Nd)(x:Nd)(i c:Int):Bool:=
 Gd x.kind x.kids.length i (Bd ns c)&&(if x.kind=10∧0<i then decide (Bd ns ((Ai ns c).kids.headD 0)=1) else true)
def DD(ns:List Nd)(x:Nd)(i c:Int):Bool:=
 (!(decide (Bd ns c=5)&&(decide ((Ai ns c).kids.length=0)|| !BK ns ((Ai ns c).kids.headD 0))))&&Ku ns x i c
def BQ(f:Int→Int→Bool):List Int→Int→Bool
 |[],_=>true
 |c::l,i=>f i c&&BQ f l (i+1)
theorem Ug{f g:Int→Int→Bool}:∀ {l:List Int} {i:Int},(∀j c,i≤j→j<i+l.length→c∈l→f j c=g j c)→BQ f l i=BQ g l i
 |[],i,h=>rfl
 |c::l,i,h=>by
  simp only[BQ]
  rw[h i c (Int.le_refl i) (by simp;omega) (by simp),Ug (fun j c hj hl hc=>h j c (by omega) (by simp;omega) (by simp [hc]))]
theorem XS{f g:Int→Int→Bool}:∀ {l:List Int} {i:Int},BQ (fun i c=>f i c&&g i c) l i=(BQ f l i&&BQ g l i)
 |[],i=>rfl
 |c::l,i=>by
  simp only[BQ];rw[XS]
  cases f i c<;>cases g i c<;>cases BQ f l (i+1)<;>cases BQ g l (i+1)<;>rfl
theorem Qr{f:Int→Bool}:∀ {l:List Int} {i:Int},BQ (fun _ c=>f c) l i=l.all f
 |[],i=>rfl
 |c::l,i=>by simp only[BQ,List.all_cons];rw[Qr]
theorem XT{f:Int→Int→Bool}{g:Int→Int}:∀ {l:List Int} {i:Int},BQ f (l.map g) i=BQ (fun i c=>f i (g c)) l i
 |[],i=>rfl
 |c::l,i=>by simp only[BQ,List.map_cons];rw[XT]
theorem XU{f:Int→Int→Bool}:∀ {l m:List Int} {i:Int},BQ f (l++m) i=(BQ f l i&&BQ f m (i+l.length))
 |[],m,i=>by simp [BQ]
 |c::l,m,i=>by
  simp only[List.cons_append,BQ];rw[XU,Bool.and_assoc]
  congr 2;congr 1;simp;omega
theorem Uh{f:Int→Int→Bool}:∀ {l:List Int} {i:Nat},((l.zipIdx i).all fun p=>f p.2 p.1)=BQ f l i
 |[],i=>rfl
 |c::l,i=>by
  simp only[List.zipIdx_cons,List.all_cons,BQ];rw[Uh];congr 2
theorem Ui{f:Int→Int→Bool}{l:List Int}:BQ f l 0=true↔∀(j:Nat) c,l[j]? =some c→f j c=true:=by
 have:∀(l:List Int) (i:Nat),BQ f l i=true↔∀(j:Nat) c,l[j]? =some c→f (i+j:Nat) c=true:=by
  intro l
  induction l with
  |nil=>intro i;simp [BQ]
  |cons c l ih=>
   intro i
   simp only[BQ,Bool.and_eq_true]
   have:=ih (i+1)
   rw[show((i:Int)+1)=((i+1:Nat):Int) from by omega,this]
   constructor
   ·rintro⟨h1,h2⟩ j d hd
    cases j with
    |zero=>simp at hd;subst hd;simpa using h1
    |succ j=>have:=h2 j d (by simpa using hd);rwa [show i+1+j=i+(j+1) by omega] at this
   ·intro h
    refine⟨by simpa using h 0 c rfl,fun j d hd=> ?_⟩
    have:=h (j+1) d (by simpa using hd)
    rwa [show i+(j+1)=i+1+j by omega] at this
 have:=this l 0
 simpa using this
theorem a5i{l:List Int}{k:Int}(h:l.getLast? =some k):l=l.dropLast++[k]:=by
 have hne:l≠[]:=by intro e;rw[e] at h;cases h
 rw[List.getLast?_eq_some_getLast hne] at h
 have:=List.dropLast_concat_getLast hne
 rw[Option.some.inj h] at this;exact this.symm
theorem XV{p:Int→Bool}{l:List Int}:(decide (1≤l.length)&&BQ (fun i y=>if i+1<(l.length:Int) then Et y else p y) l 0)=GK p l:=by
 unfold GK
 cases h:l.getLast? with
 |none=>have:l=[]:=by simpa using h
        subst this;rfl
 |some k=>
  have e:=a5i h
  generalize hd:l.dropLast=m at e ⊢
  subst e
  rw[XU]
  have h1:BQ (fun i y=>if i+1<((m++[k]).length:Int) then Et y else p y) m 0=m.all Et:=by
   rw[←Qr (i:=0)]
   exact Ug fun j c h0 hj hc=>if_pos (by simp;omega)
  rw[h1]
  simp only[BQ]
  have h2:¬((0:Int)+m.length+1<((m++[k]).length:Int)):=by simp
  rw[if_neg h2]
  have:decide (1≤(m++[k]).length)=true:=by simp
  rw[this];simp [Bool.and_comm]
theorem XW{p q:Int→Bool}{c:Int}{l:List Int}:BQ (fun i y=>if 0<i then q y else p y) (c::l) 0=(p c&&l.all q):=by
 simp only[BQ]
 have h1:¬((0:Int)<0):=by omega
 rw[if_neg h1]
 congr 1
 rw[←Qr (i:=0+1)]
 exact Ug fun j c h0 hj hc=>if_pos (by omega)
theorem a5j{k:Int}{l:List Int}(h1:1≤k)(h2:k≤22):(inn l.length (EW k).1 (EW k).2&&BQ (fun i y=>Gd k l.length i y) l 0)=(decide (l.length≤12)&&DQ k l):=by
 have hk:k=1∨k=2∨k=3∨k=4∨k=5∨k=6∨k=7∨k=8∨k=9∨k=10∨k=11∨k=12∨k=13∨k=14∨k=15∨k=16∨k=17∨k=18∨k=19∨k=20∨k=21∨k=22:=by omega
 have len0:∀ {b c:Bool},l.length=0→(l=[]):=fun h=>List.length_eq_zero_iff.1 h
 rcases hk with rfl|rfl|rfl|rfl|rfl|rfl|rfl|rfl|rfl|rfl|rfl|rfl|rfl|rfl|rfl|rfl|rfl|rfl|rfl|rfl|rfl|rfl
 all_goals simp only[EW,Gd,DQ,inn,Int.reduceEq,or_self,or_false,false_or,or_true,true_or,if_true,if_false,reduceIte]
 all_goals try(
  by_cases h:l.length=0
  ·have:=List.length_eq_zero_iff.1 h;subst this;rfl
  ·have e1:decide ((l.length:Int)≤0)=false:=decide_eq_false (by omega)
   have e2:decide (l.length=0)=false:=decide_eq_false h
   simp only[e1,e2,Bool.and_false,Bool.false_and];done)
 all_goals try rw[Qr]
 all_goals try(
  generalize l.all _=b
  rw[Bool.eq_iff_iff];cases b<;>simp only[Bool.and_eq_true,decide_eq_true_eq,Bool.false_eq_true,and_false,and_true]<;>omega)
 ·rw[show decide (1≤(l.length:Int))=decide (1≤l.length) from decide_eq_decide.2 (by omega),show decide ((l.length:Int)≤12)=decide (l.length≤12) from decide_eq_decide.2 (by omega),←XV (p:=BH)]
  generalize BQ _ l 0=b
  cases decide (1≤l.length)<;>cases decide (l.length≤12)<;>cases b<;>rfl
 ·cases l with
  |nil=>rfl
  |cons c l=>
   rw[XW]
   simp only[List.headD_cons,List.drop_succ_cons,List.drop_zero]
   generalize BH c=b;generalize l.all _=d
   rw[Bool.eq_iff_iff];cases b<;>cases d<;>simp only[Bool.and_eq_true,decide_eq_true_eq,Bool.false_eq_true,and_false,and_true]<;>omega
 ·cases l with
  |nil=>rfl
  |cons c l=>
   rw[XW]
   simp only[List.headD_cons,List.drop_succ_cons,List.drop_zero]
   generalize BH c=b;generalize l.all _=d
   rw[Bool.eq_iff_iff];cases b<;>cases d<;>simp only[Bool.and_eq_true,decide_eq_true_eq,Bool.false_eq_true,and_false,and_true]<;>omega
 ·match l with
  |[]=>rfl
  |[c]=>rfl
  |[c,d]=>simp [BQ]
  |c::d::e::l=>
   have e1:decide (((c::d::e::l).length:Int)≤2)=false:=decide_eq_false (by simp;omega)
   have e2:decide ((c::d::e::l).length=2)=false:=decide_eq_false (by simp)
   rw[e1,e2];simp
 ·rw[show decide (1≤(l.length:Int))=decide (1≤l.length) from decide_eq_decide.2 (by omega),show decide ((l.length:Int)≤12)=decide (l.length≤12) from decide_eq_decide.2 (by omega),←XV (p:=DP)]
  generalize BQ _ l 0=b
  cases decide (1≤l.length)<;>cases decide (l.length≤12)<;>cases b<;>rfl
theorem a5k{k:Int}{l:List Int}(h:inn k 1 22=false):DQ k l=false:=by
 have h:¬(1≤k∧k≤22):=by intro hh;simp [inn] at h;omega
 unfold DQ
 have e:∀j:Int,1≤j→j≤22→k≠j:=fun j h1 h2 e=>h (by omega)
 simp [e]
theorem a5l{ns:List Nd}{x:Nd}{i c:Int}:DD ns x i c=(Gd x.kind x.kids.length i (Bd ns c)&&CG ns x i.toNat c):=by
 unfold DD Ku CG Bd
 generalize hy:Ai ns c=y
 by_cases h5:y.kind=5
 ·simp only[h5,if_true,decide_true,Bool.true_and]
  cases hk:y.kids with
  |nil=>simp
  |cons h t=>
   simp only[List.length_cons,List.headD_cons]
   have e0:decide (t.length+1=0)=false:=by simp
   rw[e0]
   by_cases hx:x.kind=10∧0<i
   ·have hi:0<i.toNat:=by omega
    simp only[hx,and_self,if_true,decide_true,Bool.true_and,hi]
    generalize Gd 10 _ _ _=a;generalize BK ns h=b
    by_cases hd:(Ai ns h).kind=1<;>cases a<;>cases b<;>simp [hd]
   ·rw[if_neg hx]
    have:(decide (x.kind=10)&&(decide (0<i.toNat)&& !decide ((Ai ns h).kind=1)))=false:=by
     by_cases h1:x.kind=10
     ·have:¬0<i.toNat:=by omega
      simp [this]
     ·simp [h1]
    rw[this]
    generalize Gd _ _ _ _=a;generalize BK ns h=b
    cases a<;>cases b<;>rfl
 ·simp only[h5,if_false,decide_false,Bool.false_and,Bool.not_false,Bool.true_and,Bool.and_true]
  by_cases hx:x.kind=10∧0<i
  ·rw[if_pos hx]
   have:Gd x.kind x.kids.length i y.kind=false:=by
    simp [Gd,hx,FF,h5]
   rw[this];rfl
  ·rw[if_neg hx];simp
theorem a5m{ns:List Nd}{k:Int}{x:Nd}:Ib ns k x=
 (inn x.kind 1 22&&(inn x.kids.length (EW x.kind).1 (EW x.kind).2&&(Fm x.kind x.text&&((Hr x.kind|| !x.blank)&&((DB x.kids k&&decide x.kids.Nodup)&&BQ (DD ns x) x.kids 0))))):=by
 have e1:BQ (DD ns x) x.kids 0=(BQ (fun i y=>Gd x.kind (x.kids.map (Bd ns)).length i y) (x.kids.map (Bd ns)) 0&&EV ns x):=by
  have:(DD ns x)=fun i c=>(Gd x.kind x.kids.length i (Bd ns c)&&CG ns x i.toNat c):=by
   funext i c;exact a5l
  rw[this,XS,XT,List.length_map]
  congr 1
  unfold EV
  have:(fun p:Int×Nat=>CG ns x p.2 p.1)=fun p:Int×Nat=>(fun(i c:Int)=>CG ns x i.toNat c) p.2 p.1:=by
   funext p;simp
  rw[this]
  exact(Uh (f:=fun i c=>CG ns x i.toNat c) (i:=0)).symm
 unfold Ib
 by_cases h:inn x.kind 1 22=true
 ·have hb:= @a5j x.kind (x.kids.map (Bd ns)) (by simp [inn] at h;omega) (by simp [inn] at h;omega)
  rw[List.length_map] at hb
  rw[e1,List.length_map,h]
  generalize decide (x.kids.length≤12)=a at hb ⊢;generalize DQ x.kind _=b at hb ⊢;generalize inn _ _ _=c at hb ⊢
  generalize BQ _ _ 0=d at hb ⊢;generalize Fm _ _=e;generalize Hr _=f;generalize EV _ _=g;generalize DB _ _=h1;generalize decide x.kids.Nodup=h2
  cases a<;>cases b<;>cases c<;>cases d<;>simp at hb<;>cases e<;>cases f<;>cases g<;>cases h1<;>cases h2<;>simp
 ·simp only[Bool.not_eq_true] at h
  rw[a5k h,h];simp
end Go.My
end
section
set_option linter.unusedVariables false
set_option linter.unusedSimpArgs false
namespace Go.My
open Go.Eng Go.Proofs Go.RowKit
variable {G:GInv}
def Cv(s:List UInt8)(c:UInt8):Int:=match DA (fun d=>decide (d.toNat=c.toNat)) s with
 |none=> -1
 |some i=>i
theorem XX:∀(s:List UInt8) (c:UInt8),Lib.indexByte s c=Cv s c
 |[],c=>rfl
 |b::s,c=>by
  unfold Lib.indexByte Cv DA
  have e:(b==c)=decide (b.toNat=c.toNat):=by
   rw[Bool.eq_iff_iff];simp [UInt8.toNat_inj]
  rw[e]
  by_cases h:b.toNat=c.toNat
  ·simp [h]
  ·have ih:=XX s c
   unfold Cv at ih
   simp only[h,decide_false,Bool.false_eq_true,if_false]
   rw[ih]
   cases hh:DA (fun d=>decide (d.toNat=c.toNat)) s with
   |none=>simp
   |some i=>simp
set_option maxHeartbeats 1000000 in
set_option maxRecDepth 100000 in
theorem a5n(s:ByteArray)(c:Int)(w:World):
 Calls Tryz.prog 196 #[.string s,.int .u8 c] w fun e w'=>e= .returned (.int .i64 (Lib.indexByte s.data.toList c.toNat.toUInt8))∧w'=w:=by
 go_enter Tryz.func196,Tryz.ntmps196
 go_wp2
 rw[run_callFunc_extern Tryz.func207 (by kernel_rfl) (by kernel_rfl) (by kernel_rfl) (e:=Extern.BytealgIndexByte.indexByte) (by kernel_rfl),Lib.run_indexByteString]
 simp only[Result.andThen]
 rw[Oper.upon_value]
 go_wp2
 go_ret
 exact⟨rfl,rfl⟩
def Mg:Sig:= {X:=List UInt8×UInt8,args:=fun x=>[.str x.1,.int .u8 x.2.toNat],pre:=fun _=>True,Y:=Unit,post:=fun _ _=>True,res:=fun x _=> .int .i64 (Cv x.1 x.2),outs:=fun _ _=>[.top,.top],keep:=false}
theorem Uj:Am G Tryz.prog 196 Mg:=by
 refine⟨⟨⟨_,Tryz.func196,by kernel_rfl,by kernel_rfl⟩,fun x y _ _=>⟨trivial,trivial,trivial,trivial⟩⟩,?_⟩
 rintro⟨l,c⟩ _ Z w vals A _ h hA _
 simp only[Mg,AZ,Al] at h
 obtain⟨v,cs,A1,A2,rfl,_,⟨rfl,_⟩,v',cs',A3,A4,rfl,_,⟨rfl,_⟩,rfl,_⟩:=h
 refine(a5n ⟨l.toArray⟩ c.toNat w).mono ?_
 rintro e w' ⟨rfl,rfl⟩
 refine⟨(),_,Z,(fun _=>False),trivial,rfl,?_,⟨rfl,rfl,rfl,Nat.le_refl _,fun _ _ _=>⟨rfl,Iff.rfl⟩,fun _ h=>h.elim⟩⟩
 simp only[Mg,AZ,Al]
 refine⟨_,_,_,_,rfl,BG _,⟨?_,AS⟩,_,_,_,_,rfl,BG _,AS,_,_,_,_,rfl,BG _,AS,rfl,AS⟩
 rw[XX];simp
def Qs:Sig:= {X:=List UInt8,args:=fun x=>[.str x,.int .u8 39],pre:=fun _=>True,Y:=Unit,post:=fun _ _=>True,res:=fun x _=> .int .i64 (Cv x 39),outs:=fun _ _=>[.top,.top],keep:=false}
theorem a5o:Am G Tryz.prog 196 Qs:=⟨⟨(Uj (G:=G)).1.1,fun x y _ _=>⟨trivial,trivial,trivial,trivial⟩⟩,fun x hx=>(Uj (G:=G)).2 (x,39) trivial⟩
def Mh:Sig:= {X:=List UInt8,args:=fun x=>[.str x,.int .u8 39],pre:=fun x=>True,Y:=Unit,post:=fun x y=>True,res:=fun x y=> .int .i64 (Cv x 39),outs:=fun x y=>[.top,.top],keep:=false}
theorem a5p:Am G Tryz.prog 182 Mh:=
 vcFun_okP [(196,0,Qs)] [] false (fun x=>[]) Tryz.func182 rfl (by decide) ⟨a5o,trivial⟩ (fun(x:List UInt8)=>(∀(y:Unit),True→True∧True∧True∧True)∧cA Qs [.str x,AV.int IntKind.u8 (39:Int)] fun x_1 y=>rA Mh x [.int .i64 (Cv x_1 (39:UInt8)),.top,.top]) (fun x=>by kernel_rfl) fun(x:List UInt8) (hx:True)=>(by
 dsimp only[cA,rA,Qs,Mh,Au,Ax,mvL,lnL,mvE,lnE]
 (repeat' first|(with_reducible first|rfl|exact True.intro|apply AJ|apply And.intro|((first|apply Az|apply AH|apply AA|apply AI)<;>intro _))|(apply Av<;>intro _)|apply AG|refine Af () ?_ ?_|((first|apply AO|apply AN|apply AM|apply AL|apply AF|apply AE|apply AD|apply AC|apply AB)<;>try dsimp only)|apply Af|(refine Prod.forall.2 ?_;intro _;try dsimp only)|(intro _;try dsimp only))<;>(try dsimp only at*)<;>(try simp only[AR,List.length_cons,List.length_nil])<;>(try omega))
def IK:Sig:= {X:=List UInt8×List UInt8,args:=fun x=>[.str x.1,.str x.2],pre:=fun x=>x.2.length=1,Y:=Unit,post:=fun x y=>True,res:=fun x y=> .int .i64 (Cv x.1 (x.2.headD 0)),outs:=fun x y=>[.top,.top],keep:=false}
theorem a5q:Am G Tryz.prog 211 IK:=
 vcFun_okP [(196,0,Mg)] [] false (fun x=>[]) Tryz.func211 rfl (by decide) ⟨Uj,trivial⟩ (fun(x:List UInt8×List UInt8)=>(∀(y:Unit),True→True∧True∧True∧True)∧Aa ((↑(List.length x.2):Int)==(0:Int)) (rA IK x [.int .i64 (0:Int),.top,.top]) (Aa (x.2==x.1) (rA IK x [.int .i64 (0:Int),.top,.top]) (Aa ((↑(List.length x.2):Int)==(1:Int)) (((0:Int)≤(0:Int)∧(0:Int)<(↑(List.length x.2):Int))∧∀(c:UInt8),x.2[(0:Nat)]? =some c→cA Mg [.str x.1,AV.int IntKind.u8 (↑(UInt8.toNat c):Int)] fun x_1 y=>rA IK x [.int .i64 (Cv x_1.1 x_1.2),.top,.top]) (Aa (decide ((↑(List.length x.2):Int)≥(↑(List.length x.1):Int))) (rA IK x [.int .i64 (-1:Int),.top,.top]) False)))) (fun x=>by kernel_rfl) fun(x:List UInt8×List UInt8) (hx:x.2.length=1)=>(by
 dsimp only[cA,rA,Mg,IK,Au,Ax,mvL,lnL,mvE,lnE]
 (repeat' first|(with_reducible first|rfl|exact True.intro|apply AJ|apply And.intro|((first|apply Az|apply AH|apply AA|apply AI)<;>intro _))|(apply Av<;>intro _)|apply AG|refine Af () ?_ ?_|((first|apply AO|apply AN|apply AM|apply AL|apply AF|apply AE|apply AD|apply AC|apply AB)<;>try dsimp only)|apply Af|(refine Prod.forall.2 ?_;intro _;try dsimp only)|(intro _;try dsimp only))<;>(try dsimp only at*)<;>(try simp only[AR,List.length_cons,List.length_nil])<;>(try omega)
 ·rename_i _ h;rw[←h];match x.2,hx with
  |[c],_=>simp [Cv,DA]
 ·rename_i c hc _ _
  match x.2,hx,hc with
  |[d],_,hc=>simp at hc;rw[←hc];rfl)
def Mi:Sig:= {X:=List UInt8×List UInt8,args:=fun x=>[.str x.1,.str x.2],pre:=fun x=>x.2.length=1,Y:=Unit,post:=fun x y=>True,res:=fun x y=> .int .i64 (Cv x.1 (x.2.headD 0)),outs:=fun x y=>[.top,.top],keep:=false}
theorem a5r:Am G Tryz.prog 201 Mi:=
 vcFun_okP [(211,0,IK)] [] false (fun x=>[]) Tryz.func201 rfl (by decide) ⟨a5q,trivial⟩ (fun(x:List UInt8×List UInt8)=>(∀(y:Unit),True→True∧True∧True∧True)∧cA IK [.str x.1,.str x.2] fun x_1 y=>rA Mi x [.int .i64 (Cv x_1.1 (List.headD x_1.2 (0:UInt8))),.top,.top]) (fun x=>by kernel_rfl) fun(x:List UInt8×List UInt8) (hx:x.2.length=1)=>(by
 dsimp only[cA,rA,Mi,IK,Au,Ax,mvL,lnL,mvE,lnE]
 (repeat' first|(with_reducible first|rfl|exact True.intro|apply AJ|apply And.intro|((first|apply Az|apply AH|apply AA|apply AI)<;>intro _))|(apply Av<;>intro _)|apply AG|refine Af () ?_ ?_|((first|apply AO|apply AN|apply AM|apply AL|apply AF|apply AE|apply AD|apply AC|apply AB)<;>try dsimp only)|apply Af|(refine Prod.forall.2 ?_;intro _;try dsimp only)|(intro _;try dsimp only))<;>(try dsimp only at*)<;>(try simp only[AR,List.length_cons,List.length_nil])<;>(try omega))
def Mj:Sig:= {X:=List UInt8×List UInt8,args:=fun x=>[.str x.1,.str x.2],pre:=fun x=>x.2.length=1,Y:=Unit,post:=fun x y=>True,res:=fun x y=> .bool (decide (Cv x.1 (x.2.headD 0)≥0)),outs:=fun x y=>[.top,.top],keep:=false}
theorem a5s:Am G Tryz.prog 185 Mj:=
 vcFun_okP [(201,0,Mi)] [] false (fun x=>[]) Tryz.func185 rfl (by decide) ⟨a5r,trivial⟩ (fun(x:List UInt8×List UInt8)=>(∀(y:Unit),True→True∧True∧True∧True)∧cA Mi [.str x.1,.str x.2] fun x_1 y=>rA Mj x [.bool (decide (Cv x_1.1 (List.headD x_1.2 (0:UInt8))≥(0:Int))),.top,.top]) (fun x=>by kernel_rfl) fun(x:List UInt8×List UInt8) (hx:x.2.length=1)=>(by
 dsimp only[cA,rA,Mj,Mi,Au,Ax,mvL,lnL,mvE,lnE]
 (repeat' first|(with_reducible first|rfl|exact True.intro|apply AJ|apply And.intro|((first|apply Az|apply AH|apply AA|apply AI)<;>intro _))|(apply Av<;>intro _)|apply AG|refine Af () ?_ ?_|((first|apply AO|apply AN|apply AM|apply AL|apply AF|apply AE|apply AD|apply AC|apply AB)<;>try dsimp only)|apply Af|(refine Prod.forall.2 ?_;intro _;try dsimp only)|(intro _;try dsimp only))<;>(try dsimp only at*)<;>(try simp only[AR,List.length_cons,List.length_nil])<;>(try omega))
def Kv:Sig:= {X:=List UInt8×List UInt8,args:=fun x=>[.str x.1,.str x.2],pre:=fun x=>x.2.length<2^62∧x.1.length<2^63,Y:=Unit,post:=fun x y=>True,res:=fun x y=> .bool (x.1.take x.2.length==x.2),outs:=fun x y=>[.top,.top],keep:=false}
theorem a5t:Am G Tryz.prog 183 Kv:=
 vcFun_okP [] [] false (fun x=>[]) Tryz.func183 rfl (by decide) trivial (fun(x:List UInt8×List UInt8)=>(∀(y:Unit),True→True∧True∧True∧True)∧Aa (decide ((↑(List.length x.1):Int)≥(↑(List.length x.2):Int))) (((0:Int)≤(0:Int)∧(0:Int)≤(↑(List.length x.2):Int)∧(↑(List.length x.2):Int)≤(↑(List.length x.1):Int))∧rA Kv x [.bool (List.take (Int.toNat (↑(List.length x.2):Int)) x.1==x.2),.top,.top]) (rA Kv x [.bool false,.top,.top])) (fun x=>by kernel_rfl) fun(x:List UInt8×List UInt8) (hx:x.2.length<2^62∧x.1.length<2^63)=>(by
 dsimp only[rA,Kv,Au,Ax]
 obtain⟨h1,h2⟩:=hx
 (repeat' first|(with_reducible first|rfl|exact True.intro|apply AJ|apply And.intro|((first|apply Az|apply AH|apply AA|apply AI)<;>intro _))|(apply Av<;>intro _)|apply AG|refine Af () ?_ ?_|((first|apply AO|apply AN|apply AM|apply AL|apply AF|apply AE|apply AD|apply AC|apply AB)<;>try dsimp only)|apply Af|(refine Prod.forall.2 ?_;intro _;try dsimp only)|(intro _;try dsimp only))<;>(try dsimp only at*)<;>(try simp only[AR,List.length_cons,List.length_nil])<;>(try omega)
 ·simp
 ·rename_i h;rw[eq_comm,beq_eq_false_iff_ne];intro e;have:=congrArg List.length e;simp at this;omega)
def Mk:Sig:= {X:=List UInt8×List UInt8,args:=fun x=>[.str x.1,.str x.2],pre:=fun x=>x.2.length<2^62∧x.1.length<2^63,Y:=Unit,post:=fun x y=>True,res:=fun x y=> .bool (x.1.take x.2.length==x.2),outs:=fun x y=>[.top,.top],keep:=false}
theorem a5u:Am G Tryz.prog 164 Mk:=
 vcFun_okP [(183,0,Kv)] [] false (fun x=>[]) Tryz.func164 rfl (by decide) ⟨a5t,trivial⟩ (fun(x:List UInt8×List UInt8)=>(∀(y:Unit),True→True∧True∧True∧True)∧cA Kv [.str x.1,.str x.2] fun x_1 y=>rA Mk x [.bool (List.take (List.length x_1.2) x_1.1==x_1.2),.top,.top]) (fun x=>by kernel_rfl) fun(x:List UInt8×List UInt8) (hx:x.2.length<2^62∧x.1.length<2^63)=>(by
 dsimp only[cA,rA,Mk,Kv,Au,Ax,mvL,lnL,mvE,lnE]
 obtain⟨h1,h2⟩:=hx
 (repeat' first|(with_reducible first|rfl|exact True.intro|apply AJ|apply And.intro|((first|apply Az|apply AH|apply AA|apply AI)<;>intro _))|(apply Av<;>intro _)|apply AG|refine Af () ?_ ?_|((first|apply AO|apply AN|apply AM|apply AL|apply AF|apply AE|apply AD|apply AC|apply AB)<;>try dsimp only)|apply Af|(refine Prod.forall.2 ?_;intro _;try dsimp only)|(intro _;try dsimp only))<;>(try dsimp only at*)<;>(try simp only[AR,List.length_cons,List.length_nil])<;>(try omega))
end Go.My
end
section
set_option linter.unusedVariables false
set_option linter.unusedSimpArgs false
namespace Go.My
open Go.Eng Go.Proofs
variable {G:GInv}
def EX:Sig:= {X:=Int×Int×Int,args:=fun x=>[.int .i64 x.1,.int .i64 x.2.1,.int .i64 x.2.2],pre:=fun x=>True,Y:=Unit,post:=fun x y=>True,res:=fun x y=> .bool (inn x.1 x.2.1 x.2.2),outs:=fun x y=>[.top,.top,.top],keep:=false}
theorem Qt:Am G Tryz.prog 57 EX:=
 vcFun_okP [] [] false (fun x=>[]) Tryz.func57 rfl (by decide) trivial (fun(x:Int×Int×Int)=>(∀(y:Unit),True→True∧True∧True∧True∧True)∧Aa (decide (x.1≥x.2.1)) (rA EX x [.bool (decide (x.1≤x.2.2)),.top,.top,.top]) (rA EX x [.bool false,.top,.top,.top])) (fun x=>by kernel_rfl) fun(x:Int×Int×Int) (hx:True)=>(by
 dsimp only[rA,EX,Au,Ax]
 (repeat' first|(with_reducible first|rfl|exact True.intro|apply AJ|apply And.intro|((first|apply Az|apply AH|apply AA|apply AI)<;>intro _))|(apply Av<;>intro _)|apply AG|refine Af () ?_ ?_|((first|apply AO|apply AN|apply AM|apply AL|apply AF|apply AE|apply AD|apply AC|apply AB)<;>try dsimp only)|apply Af|(refine Prod.forall.2 ?_;intro _;try dsimp only)|(intro _;try dsimp only))<;>(try dsimp only at*)<;>(try simp only[AR,List.length_cons,List.length_nil])<;>(try omega)
 all_goals simp [inn, *])
def CH:Sig:= {X:=Int×Int×Int,args:=fun x=>[.int .i64 x.1,.int .i64 x.2.1,.int .i64 x.2.2],pre:=fun x=>True,Y:=Unit,post:=fun x y=>True,res:=fun x y=> .bool (inn x.1 x.2.1 x.2.2),outs:=fun x y=>[.top,.top,.top],keep:=false}
theorem Kw:Am G Tryz.prog 64 CH:=
 vcFun_okP [] [] false (fun x=>[]) Tryz.func64 rfl (by decide) trivial (fun(x:Int×Int×Int)=>(∀(y:Unit),True→True∧True∧True∧True∧True)∧Aa (decide (x.1≥x.2.1)) (rA CH x [.bool (decide (x.1≤x.2.2)),.top,.top,.top]) (rA CH x [.bool false,.top,.top,.top])) (fun x=>by kernel_rfl) fun(x:Int×Int×Int) (hx:True)=>(by
 dsimp only[rA,CH,Au,Ax]
 (repeat' first|(with_reducible first|rfl|exact True.intro|apply AJ|apply And.intro|((first|apply Az|apply AH|apply AA|apply AI)<;>intro _))|(apply Av<;>intro _)|apply AG|refine Af () ?_ ?_|((first|apply AO|apply AN|apply AM|apply AL|apply AF|apply AE|apply AD|apply AC|apply AB)<;>try dsimp only)|apply Af|(refine Prod.forall.2 ?_;intro _;try dsimp only)|(intro _;try dsimp only))<;>(try dsimp only at*)<;>(try simp only[AR,List.length_cons,List.length_nil])<;>(try omega)
 all_goals simp [inn, *])
def Ge:Sig:= {X:=UInt8,args:=fun x=>[.int .u8 x.toNat],pre:=fun x=>True,Y:=Unit,post:=fun x y=>True,res:=fun x y=> .bool (Bt x),outs:=fun x y=>[.top],keep:=false}
theorem Uk:Am G Tryz.prog 162 Ge:=
 vcFun_okP [] [] false (fun x=>[]) Tryz.func162 rfl (by decide) trivial (fun(x:UInt8)=>(∀(y:Unit),True→True∧True∧True)∧Aa (decide ((↑(UInt8.toNat x):Int)≥(48:Int))) (rA Ge x [.bool (decide ((↑(UInt8.toNat x):Int)≤(57:Int))),.top]) (rA Ge x [.bool false,.top])) (fun x=>by kernel_rfl) fun(x:UInt8) (hx:True)=>(by
 dsimp only[rA,Ge,Au,Ax]
 (repeat' first|(with_reducible first|rfl|exact True.intro|apply AJ|apply And.intro|((first|apply Az|apply AH|apply AA|apply AI)<;>intro _))|(apply Av<;>intro _)|apply AG|refine Af () ?_ ?_|((first|apply AO|apply AN|apply AM|apply AL|apply AF|apply AE|apply AD|apply AC|apply AB)<;>try dsimp only)|apply Af|(refine Prod.forall.2 ?_;intro _;try dsimp only)|(intro _;try dsimp only))<;>(try dsimp only at*)<;>(try simp only[AR,List.length_cons,List.length_nil])<;>(try omega)
 all_goals(rw[Bool.eq_iff_iff];simp only[Bt,Bool.and_eq_true,Bool.or_eq_true,decide_eq_true_eq,Bool.not_eq_true',decide_eq_false_iff_not,bne_iff_ne,ne_eq,beq_iff_eq,Bool.not_not,reduceCtorEq,Bool.false_eq_true,true_iff,false_iff,iff_true,iff_false,not_true,not_false_eq_true]<;>omega))
def Fo:Sig:= {X:=UInt8,args:=fun x=>[.int .u8 x.toNat],pre:=fun x=>True,Y:=Unit,post:=fun x y=>True,res:=fun x y=> .bool (Bt x),outs:=fun x y=>[.top],keep:=false}
theorem Ul:Am G Tryz.prog 126 Fo:=
 vcFun_okP [] [] false (fun x=>[]) Tryz.func126 rfl (by decide) trivial (fun(x:UInt8)=>(∀(y:Unit),True→True∧True∧True)∧Aa (decide ((↑(UInt8.toNat x):Int)≥(48:Int))) (rA Fo x [.bool (decide ((↑(UInt8.toNat x):Int)≤(57:Int))),.top]) (rA Fo x [.bool false,.top])) (fun x=>by kernel_rfl) fun(x:UInt8) (hx:True)=>(by
 dsimp only[rA,Fo,Au,Ax]
 (repeat' first|(with_reducible first|rfl|exact True.intro|apply AJ|apply And.intro|((first|apply Az|apply AH|apply AA|apply AI)<;>intro _))|(apply Av<;>intro _)|apply AG|refine Af () ?_ ?_|((first|apply AO|apply AN|apply AM|apply AL|apply AF|apply AE|apply AD|apply AC|apply AB)<;>try dsimp only)|apply Af|(refine Prod.forall.2 ?_;intro _;try dsimp only)|(intro _;try dsimp only))<;>(try dsimp only at*)<;>(try simp only[AR,List.length_cons,List.length_nil])<;>(try omega)
 all_goals(rw[Bool.eq_iff_iff];simp only[Bt,Bool.and_eq_true,Bool.or_eq_true,decide_eq_true_eq,Bool.not_eq_true',decide_eq_false_iff_not,bne_iff_ne,ne_eq,beq_iff_eq,Bool.not_not,reduceCtorEq,Bool.false_eq_true,true_iff,false_iff,iff_true,iff_false,not_true,not_false_eq_true]<;>omega))
def Fp:Sig:= {X:=UInt8,args:=fun x=>[.int .u8 x.toNat],pre:=fun x=>True,Y:=Unit,post:=fun x y=>True,res:=fun x y=> .bool (Cj x),outs:=fun x y=>[.top],keep:=false}
theorem XY:Am G Tryz.prog 159 Fp:=
 vcFun_okP [] [] false (fun x=>[]) Tryz.func159 rfl (by decide) trivial (fun(x:UInt8)=>(∀(y:Unit),True→True∧True∧True)∧Aa (decide ((↑(UInt8.toNat x):Int)≥(97:Int))) (Aa (decide ((↑(UInt8.toNat x):Int)≤(122:Int))) (rA Fp x [.bool true,.top]) (Aa (decide ((↑(UInt8.toNat x):Int)≥(65:Int))) (Aa (decide ((↑(UInt8.toNat x):Int)≤(90:Int))) (rA Fp x [.bool true,.top]) (rA Fp x [.bool ((↑(UInt8.toNat x):Int)==(95:Int)),.top])) (rA Fp x [.bool ((↑(UInt8.toNat x):Int)==(95:Int)),.top]))) (Aa (decide ((↑(UInt8.toNat x):Int)≥(65:Int))) (Aa (decide ((↑(UInt8.toNat x):Int)≤(90:Int))) (rA Fp x [.bool true,.top]) (rA Fp x [.bool ((↑(UInt8.toNat x):Int)==(95:Int)),.top])) (rA Fp x [.bool ((↑(UInt8.toNat x):Int)==(95:Int)),.top]))) (fun x=>by kernel_rfl) fun(x:UInt8) (hx:True)=>(by
 dsimp only[rA,Fp,Au,Ax]
 (repeat' first|(with_reducible first|rfl|exact True.intro|apply AJ|apply And.intro|((first|apply Az|apply AH|apply AA|apply AI)<;>intro _))|(apply Av<;>intro _)|apply AG|refine Af () ?_ ?_|((first|apply AO|apply AN|apply AM|apply AL|apply AF|apply AE|apply AD|apply AC|apply AB)<;>try dsimp only)|apply Af|(refine Prod.forall.2 ?_;intro _;try dsimp only)|(intro _;try dsimp only))<;>(try dsimp only at*)<;>(try simp only[AR,List.length_cons,List.length_nil])<;>(try omega)
 all_goals(rw[Bool.eq_iff_iff];simp only[Cj,Bool.and_eq_true,Bool.or_eq_true,decide_eq_true_eq,Bool.not_eq_true',decide_eq_false_iff_not,bne_iff_ne,ne_eq,beq_iff_eq,Bool.not_not,reduceCtorEq,Bool.false_eq_true,true_iff,false_iff,iff_true,iff_false,not_true,not_false_eq_true]<;>omega))
def EJ:Sig:= {X:=UInt8,args:=fun x=>[.int .u8 x.toNat],pre:=fun x=>True,Y:=Unit,post:=fun x y=>True,res:=fun x y=> .bool (Cj x),outs:=fun x y=>[.top],keep:=false}
theorem XZ:Am G Tryz.prog 124 EJ:=
 vcFun_okP [] [] false (fun x=>[]) Tryz.func124 rfl (by decide) trivial (fun(x:UInt8)=>(∀(y:Unit),True→True∧True∧True)∧Aa (decide ((↑(UInt8.toNat x):Int)≥(97:Int))) (Aa (decide ((↑(UInt8.toNat x):Int)≤(122:Int))) (rA EJ x [.bool true,.top]) (Aa (decide ((↑(UInt8.toNat x):Int)≥(65:Int))) (Aa (decide ((↑(UInt8.toNat x):Int)≤(90:Int))) (rA EJ x [.bool true,.top]) (rA EJ x [.bool ((↑(UInt8.toNat x):Int)==(95:Int)),.top])) (rA EJ x [.bool ((↑(UInt8.toNat x):Int)==(95:Int)),.top]))) (Aa (decide ((↑(UInt8.toNat x):Int)≥(65:Int))) (Aa (decide ((↑(UInt8.toNat x):Int)≤(90:Int))) (rA EJ x [.bool true,.top]) (rA EJ x [.bool ((↑(UInt8.toNat x):Int)==(95:Int)),.top])) (rA EJ x [.bool ((↑(UInt8.toNat x):Int)==(95:Int)),.top]))) (fun x=>by kernel_rfl) fun(x:UInt8) (hx:True)=>(by
 dsimp only[rA,EJ,Au,Ax]
 (repeat' first|(with_reducible first|rfl|exact True.intro|apply AJ|apply And.intro|((first|apply Az|apply AH|apply AA|apply AI)<;>intro _))|(apply Av<;>intro _)|apply AG|refine Af () ?_ ?_|((first|apply AO|apply AN|apply AM|apply AL|apply AF|apply AE|apply AD|apply AC|apply AB)<;>try dsimp only)|apply Af|(refine Prod.forall.2 ?_;intro _;try dsimp only)|(intro _;try dsimp only))<;>(try dsimp only at*)<;>(try simp only[AR,List.length_cons,List.length_nil])<;>(try omega)
 all_goals(rw[Bool.eq_iff_iff];simp only[Cj,Bool.and_eq_true,Bool.or_eq_true,decide_eq_true_eq,Bool.not_eq_true',decide_eq_false_iff_not,bne_iff_ne,ne_eq,beq_iff_eq,Bool.not_not,reduceCtorEq,Bool.false_eq_true,true_iff,false_iff,iff_true,iff_false,not_true,not_false_eq_true]<;>omega))
def Kx:Sig:= {X:=UInt8,args:=fun x=>[.int .u8 x.toNat],pre:=fun x=>True,Y:=Unit,post:=fun x y=>True,res:=fun x y=> .bool (BJ x),outs:=fun x y=>[.top],keep:=false}
theorem a5v:Am G Tryz.prog 161 Kx:=
 vcFun_okP [(159,0,Fp),(162,0,Ge)] [] false (fun x=>[]) Tryz.func161 rfl (by decide) ⟨XY,Uk,trivial⟩ (fun(x:UInt8)=>(∀(y:Unit),True→True∧True∧True)∧cA Fp [AV.int IntKind.u8 (↑(UInt8.toNat x):Int)] fun x_1 y=>Aa (Cj x_1) (rA Kx x [.bool true,.top]) (cA Ge [AV.int IntKind.u8 (↑(UInt8.toNat x):Int)] fun x_2 y=>rA Kx x [.bool (Bt x_2),.top])) (fun x=>by kernel_rfl) fun(x:UInt8) (hx:True)=>(by
 dsimp only[cA,rA,Ge,Fp,Kx,Au,Ax,mvL,lnL,mvE,lnE]
 (repeat' first|(with_reducible first|rfl|exact True.intro|apply AJ|apply And.intro|((first|apply Az|apply AH|apply AA|apply AI)<;>intro _))|(apply Av<;>intro _)|apply AG|refine Af () ?_ ?_|((first|apply AO|apply AN|apply AM|apply AL|apply AF|apply AE|apply AD|apply AC|apply AB)<;>try dsimp only)|apply Af|(refine Prod.forall.2 ?_;intro _;try dsimp only)|(intro _;try dsimp only))<;>(try dsimp only at*)<;>(try simp only[AR,List.length_cons,List.length_nil])<;>(try omega)
 all_goals simp [BJ, *])
def Ic:Sig:= {X:=UInt8,args:=fun x=>[.int .u8 x.toNat],pre:=fun x=>True,Y:=Unit,post:=fun x y=>True,res:=fun x y=> .bool (Cc x),outs:=fun x y=>[.top],keep:=false}
theorem Ya:Am G Tryz.prog 169 Ic:=
 vcFun_okP [] [] false (fun x=>[]) Tryz.func169 rfl (by decide) trivial (fun(x:UInt8)=>(∀(y:Unit),True→True∧True∧True)∧Aa (decide ((↑(UInt8.toNat x):Int)≥(32:Int))) (rA Ic x [.bool (decide ((↑(UInt8.toNat x):Int)≤(126:Int))),.top]) (rA Ic x [.bool false,.top])) (fun x=>by kernel_rfl) fun(x:UInt8) (hx:True)=>(by
 dsimp only[rA,Ic,Au,Ax]
 (repeat' first|(with_reducible first|rfl|exact True.intro|apply AJ|apply And.intro|((first|apply Az|apply AH|apply AA|apply AI)<;>intro _))|(apply Av<;>intro _)|apply AG|refine Af () ?_ ?_|((first|apply AO|apply AN|apply AM|apply AL|apply AF|apply AE|apply AD|apply AC|apply AB)<;>try dsimp only)|apply Af|(refine Prod.forall.2 ?_;intro _;try dsimp only)|(intro _;try dsimp only))<;>(try dsimp only at*)<;>(try simp only[AR,List.length_cons,List.length_nil])<;>(try omega)
 all_goals(rw[Bool.eq_iff_iff];simp only[Cc,Bool.and_eq_true,Bool.or_eq_true,decide_eq_true_eq,Bool.not_eq_true',decide_eq_false_iff_not,bne_iff_ne,ne_eq,beq_iff_eq,Bool.not_not,reduceCtorEq,Bool.false_eq_true,true_iff,false_iff,iff_true,iff_false,not_true,not_false_eq_true]<;>omega))
def Ml:Sig:= {X:=UInt8,args:=fun x=>[.int .u8 x.toNat],pre:=fun x=>True,Y:=Unit,post:=fun x y=>True,res:=fun x y=> .bool (Cb x),outs:=fun x y=>[.top],keep:=false}
theorem a5w:Am G Tryz.prog 165 Ml:=
 vcFun_okP [] [] false (fun x=>[]) Tryz.func165 rfl (by decide) trivial (fun(x:UInt8)=>(∀(y:Unit),True→True∧True∧True)∧rA Ml x [.bool ((↑(UInt8.toNat x):Int) != (10:Int)),.top]) (fun x=>by kernel_rfl) fun(x:UInt8) (hx:True)=>(by
 dsimp only[rA,Ml,Au,Ax]
 (repeat' first|(with_reducible first|rfl|exact True.intro|apply AJ|apply And.intro|((first|apply Az|apply AH|apply AA|apply AI)<;>intro _))|(apply Av<;>intro _)|apply AG|refine Af () ?_ ?_|((first|apply AO|apply AN|apply AM|apply AL|apply AF|apply AE|apply AD|apply AC|apply AB)<;>try dsimp only)|apply Af|(refine Prod.forall.2 ?_;intro _;try dsimp only)|(intro _;try dsimp only))<;>(try dsimp only at*)<;>(try simp only[AR,List.length_cons,List.length_nil])<;>(try omega)
 all_goals(rw[Bool.eq_iff_iff];simp only[Cb,Bool.and_eq_true,Bool.or_eq_true,decide_eq_true_eq,Bool.not_eq_true',decide_eq_false_iff_not,bne_iff_ne,ne_eq,beq_iff_eq,Bool.not_not,reduceCtorEq,Bool.false_eq_true,true_iff,false_iff,iff_true,iff_false,not_true,not_false_eq_true]<;>omega))
def DR(p:UInt8→Bool)(x:List UInt8)(rs:Int→List (Nat×AV)):LS:= {
 ι:=Int,inv:=fun i=>0≤i∧i≤x.length∧∀e∈x.take i.toNat,p e=true,regs:=rs,als:=[],meas:=fun i=>x.length-i.toNat}
def Hs:Sig:= {X:=List UInt8,args:=fun x=>[.str x],pre:=fun x=>x.length<2^63,Y:=Unit,post:=fun x y=>True,res:=fun x y=> .bool (x.all Cc),outs:=fun x y=>[.top],keep:=false}
theorem Yb:Am G Tryz.prog 167 Hs:=
 vcFun_okP [] [] false (fun x=>[(2,DR Cc x fun i=>[(0,.str x),(3,.int .i64 i)])]) Tryz.func167 rfl (by decide) trivial (fun(x:List UInt8)=>(∀(y:Unit),True→True∧True∧True)∧eA (DR Cc x fun(i:Int)=>[((0:Nat),.str x),((3:Nat),.int .i64 i)]) [.str x,.int .i64 (0:Int)]∧∀(i:Int),((0:Int)≤i∧i≤(↑(List.length x):Int)∧∀(e:UInt8),e∈List.take (Int.toNat i) x→Cc e=true)→Aa (decide (i<(↑(List.length x):Int))) (((0:Int)≤i∧i<(↑(List.length x):Int))∧∀(c:UInt8),x[Int.toNat i]? =some c→Aa (decide ((↑(UInt8.toNat c):Int)<(32:Int))) (rA Hs x [.bool false,.top]) (((0:Int)≤i∧i<(↑(List.length x):Int))∧∀(c:UInt8),x[Int.toNat i]? =some c→Aa (decide ((↑(UInt8.toNat c):Int)>(126:Int))) (rA Hs x [.bool false,.top]) (inR IntKind.i64 (i+(1:Int))∧eN (DR Cc x fun(i:Int)=>[((0:Nat),.str x),((3:Nat),.int .i64 i)]) i [.str x,.int .i64 (i+(1:Int))]))) (rA Hs x [.bool true,.top])) (fun x=>by kernel_rfl) fun(x:List UInt8) (hx:x.length<2^63)=>(by
 dsimp only[eA,eN,DR,rA,Hs,Au,Ax,Bm]
 (repeat' first|(with_reducible first|rfl|exact True.intro|apply AJ|apply And.intro|((first|apply Az|apply AH|apply AA|apply AI)<;>intro _))|(apply Av<;>intro _)|apply AG|refine Af () ?_ ?_|((first|apply AO|apply AN|apply AM|apply AL|apply AF|apply AE|apply AD|apply AC|apply AB)<;>try dsimp only)|apply Af|(refine Prod.forall.2 ?_;intro _;try dsimp only)|(intro _;try dsimp only))<;>(try dsimp only at*)<;>(try simp only[AR,List.length_cons,List.length_nil])<;>(try omega)
 ·rename_i h;simp at h
 ·rename_i i hi hl c hc h;exact(Qp hc (by(rw[Bool.eq_iff_iff];simp only[Cc,Bool.and_eq_true,Bool.or_eq_true,decide_eq_true_eq,Bool.not_eq_true',decide_eq_false_iff_not,bne_iff_ne,ne_eq,beq_iff_eq,Bool.not_not,reduceCtorEq,Bool.false_eq_true,true_iff,false_iff,iff_true,iff_false,not_true,not_false_eq_true]<;>omega))).symm
 ·rename_i i hi hl c hc h d hd h2;exact(Qp hd (by(rw[Bool.eq_iff_iff];simp only[Cc,Bool.and_eq_true,Bool.or_eq_true,decide_eq_true_eq,Bool.not_eq_true',decide_eq_false_iff_not,bne_iff_ne,ne_eq,beq_iff_eq,Bool.not_not,reduceCtorEq,Bool.false_eq_true,true_iff,false_iff,iff_true,iff_false,not_true,not_false_eq_true]<;>omega))).symm
 ·rename_i i hi hl c hc h d hd h2 e he
  rw[hc] at hd;cases hd
  rw[Dv hi.1] at he;exact Ok hi.2.2 hc (by(rw[Bool.eq_iff_iff];simp only[Cc,Bool.and_eq_true,Bool.or_eq_true,decide_eq_true_eq,Bool.not_eq_true',decide_eq_false_iff_not,bne_iff_ne,ne_eq,beq_iff_eq,Bool.not_not,reduceCtorEq,Bool.false_eq_true,true_iff,false_iff,iff_true,iff_false,not_true,not_false_eq_true]<;>omega)) e he
 ·rename_i i hi hl;exact(Ub hi.2.2 (by omega)).symm)
def Ky:Sig:= {X:=List UInt8,args:=fun x=>[.str x,.clo (.func 161) []],pre:=fun x=>x.length<2^63,Y:=Unit,post:=fun x y=>True,res:=fun x y=> .str (x.takeWhile BJ),outs:=fun x y=>[.top,.top],keep:=false}
theorem a5x:Am G Tryz.prog 160 Ky:=
 vcFun_okP [(161,0,Kx)] [] false (fun x=>[(2,DR BJ x fun i=>[(0,.str x),(1,.clo (.func 161) []),(5,.int .i64 i)])]) Tryz.func160 rfl (by decide) ⟨a5v,trivial⟩ (fun(x:List UInt8)=>(∀(y:Unit),True→True∧True∧True∧True)∧eA (DR BJ x fun(i:Int)=>[((0:Nat),.str x),((1:Nat),AV.clo (Fn.func (84:FuncId)) []),((5:Nat),.int .i64 i)]) [.str x,AV.clo (Fn.func (84:FuncId)) [],.int .i64 (0:Int)]∧∀(i:Int),((0:Int)≤i∧i≤(↑(List.length x):Int)∧∀(e:UInt8),e∈List.take (Int.toNat i) x→BJ e=true)→Aa (decide (i<(↑(List.length x):Int))) (((0:Int)≤i∧i<(↑(List.length x):Int))∧∀(c:UInt8),x[Int.toNat i]? =some c→cA Kx [AV.int IntKind.u8 (↑(UInt8.toNat c):Int)] fun x_1 y=>Aa (BJ x_1) (inR IntKind.i64 (i+(1:Int))∧eN (DR BJ x fun(i:Int)=>[((0:Nat),.str x),((1:Nat),AV.clo (Fn.func (84:FuncId)) []),((5:Nat),.int .i64 i)]) i [.str x,AV.clo (Fn.func (84:FuncId)) [],.int .i64 (i+(1:Int))]) (((0:Int)≤(0:Int)∧(0:Int)≤i∧i≤(↑(List.length x):Int))∧rA Ky x [.str (List.take (Int.toNat i) x),.top,.top])) (((0:Int)≤(0:Int)∧(0:Int)≤i∧i≤(↑(List.length x):Int))∧rA Ky x [.str (List.take (Int.toNat i) x),.top,.top])) (fun x=>by kernel_rfl) fun(x:List UInt8) (hx:x.length<2^63)=>(by
 dsimp only[cA,eA,eN,DR,rA,Kx,Ky,Au,Ax,mvL,lnL,mvE,lnE,Bm]
 (repeat' first|(with_reducible first|rfl|exact True.intro|apply AJ|apply And.intro|((first|apply Az|apply AH|apply AA|apply AI)<;>intro _))|(apply Av<;>intro _)|apply AG|refine Af () ?_ ?_|((first|apply AO|apply AN|apply AM|apply AL|apply AF|apply AE|apply AD|apply AC|apply AB)<;>try dsimp only)|apply Af|(refine Prod.forall.2 ?_;intro _;try dsimp only)|(intro _;try dsimp only))<;>(try dsimp only at*)<;>(try simp only[AR,List.length_cons,List.length_nil])<;>(try omega)
 ·rename_i h;simp at h
 ·rename_i i hi hl c hc y _ hp e he
  rw[Dv hi.1] at he;exact Ok hi.2.2 hc hp e he
 ·rename_i i hi hl c hc y _ hp
  exact IJ hi.2.2 (.inr ⟨c,hc,hp⟩)
 ·rename_i i hi hl
  exact IJ hi.2.2 (.inl (by omega)))
def Kz:Sig:= {X:=List UInt8,args:=fun x=>[.str x,.clo (.func 162) []],pre:=fun x=>x.length<2^63,Y:=Unit,post:=fun x y=>True,res:=fun x y=> .str (x.takeWhile Bt),outs:=fun x y=>[.top,.top],keep:=false}
theorem a5y:Am G Tryz.prog 160 Kz:=
 vcFun_okP [(162,0,Ge)] [] false (fun x=>[(2,DR Bt x fun i=>[(0,.str x),(1,.clo (.func 162) []),(5,.int .i64 i)])]) Tryz.func160 rfl (by decide) ⟨Uk,trivial⟩ (fun(x:List UInt8)=>(∀(y:Unit),True→True∧True∧True∧True)∧eA (DR Bt x fun(i:Int)=>[((0:Nat),.str x),((1:Nat),AV.clo (Fn.func (85:FuncId)) []),((5:Nat),.int .i64 i)]) [.str x,AV.clo (Fn.func (85:FuncId)) [],.int .i64 (0:Int)]∧∀(i:Int),((0:Int)≤i∧i≤(↑(List.length x):Int)∧∀(e:UInt8),e∈List.take (Int.toNat i) x→Bt e=true)→Aa (decide (i<(↑(List.length x):Int))) (((0:Int)≤i∧i<(↑(List.length x):Int))∧∀(c:UInt8),x[Int.toNat i]? =some c→cA Ge [AV.int IntKind.u8 (↑(UInt8.toNat c):Int)] fun x_1 y=>Aa (Bt x_1) (inR IntKind.i64 (i+(1:Int))∧eN (DR Bt x fun(i:Int)=>[((0:Nat),.str x),((1:Nat),AV.clo (Fn.func (85:FuncId)) []),((5:Nat),.int .i64 i)]) i [.str x,AV.clo (Fn.func (85:FuncId)) [],.int .i64 (i+(1:Int))]) (((0:Int)≤(0:Int)∧(0:Int)≤i∧i≤(↑(List.length x):Int))∧rA Kz x [.str (List.take (Int.toNat i) x),.top,.top])) (((0:Int)≤(0:Int)∧(0:Int)≤i∧i≤(↑(List.length x):Int))∧rA Kz x [.str (List.take (Int.toNat i) x),.top,.top])) (fun x=>by kernel_rfl) fun(x:List UInt8) (hx:x.length<2^63)=>(by
 dsimp only[cA,eA,eN,DR,rA,Ge,Kz,Au,Ax,mvL,lnL,mvE,lnE,Bm]
 (repeat' first|(with_reducible first|rfl|exact True.intro|apply AJ|apply And.intro|((first|apply Az|apply AH|apply AA|apply AI)<;>intro _))|(apply Av<;>intro _)|apply AG|refine Af () ?_ ?_|((first|apply AO|apply AN|apply AM|apply AL|apply AF|apply AE|apply AD|apply AC|apply AB)<;>try dsimp only)|apply Af|(refine Prod.forall.2 ?_;intro _;try dsimp only)|(intro _;try dsimp only))<;>(try dsimp only at*)<;>(try simp only[AR,List.length_cons,List.length_nil])<;>(try omega)
 ·rename_i h;simp at h
 ·rename_i i hi hl c hc y _ hp e he
  rw[Dv hi.1] at he;exact Ok hi.2.2 hc hp e he
 ·rename_i i hi hl c hc y _ hp
  exact IJ hi.2.2 (.inr ⟨c,hc,hp⟩)
 ·rename_i i hi hl
  exact IJ hi.2.2 (.inl (by omega)))
def KA:Sig:= {X:=List UInt8,args:=fun x=>[.str x,.clo (.func 165) []],pre:=fun x=>x.length<2^63,Y:=Unit,post:=fun x y=>True,res:=fun x y=> .str (x.takeWhile Cb),outs:=fun x y=>[.top,.top],keep:=false}
theorem a5z:Am G Tryz.prog 160 KA:=
 vcFun_okP [(165,0,Ml)] [] false (fun x=>[(2,DR Cb x fun i=>[(0,.str x),(1,.clo (.func 165) []),(5,.int .i64 i)])]) Tryz.func160 rfl (by decide) ⟨a5w,trivial⟩ (fun(x:List UInt8)=>(∀(y:Unit),True→True∧True∧True∧True)∧eA (DR Cb x fun(i:Int)=>[((0:Nat),.str x),((1:Nat),AV.clo (Fn.func (88:FuncId)) []),((5:Nat),.int .i64 i)]) [.str x,AV.clo (Fn.func (88:FuncId)) [],.int .i64 (0:Int)]∧∀(i:Int),((0:Int)≤i∧i≤(↑(List.length x):Int)∧∀(e:UInt8),e∈List.take (Int.toNat i) x→Cb e=true)→Aa (decide (i<(↑(List.length x):Int))) (((0:Int)≤i∧i<(↑(List.length x):Int))∧∀(c:UInt8),x[Int.toNat i]? =some c→cA Ml [AV.int IntKind.u8 (↑(UInt8.toNat c):Int)] fun x_1 y=>Aa (Cb x_1) (inR IntKind.i64 (i+(1:Int))∧eN (DR Cb x fun(i:Int)=>[((0:Nat),.str x),((1:Nat),AV.clo (Fn.func (88:FuncId)) []),((5:Nat),.int .i64 i)]) i [.str x,AV.clo (Fn.func (88:FuncId)) [],.int .i64 (i+(1:Int))]) (((0:Int)≤(0:Int)∧(0:Int)≤i∧i≤(↑(List.length x):Int))∧rA KA x [.str (List.take (Int.toNat i) x),.top,.top])) (((0:Int)≤(0:Int)∧(0:Int)≤i∧i≤(↑(List.length x):Int))∧rA KA x [.str (List.take (Int.toNat i) x),.top,.top])) (fun x=>by kernel_rfl) fun(x:List UInt8) (hx:x.length<2^63)=>(by
 dsimp only[cA,eA,eN,DR,rA,KA,Ml,Au,Ax,mvL,lnL,mvE,lnE,Bm]
 (repeat' first|(with_reducible first|rfl|exact True.intro|apply AJ|apply And.intro|((first|apply Az|apply AH|apply AA|apply AI)<;>intro _))|(apply Av<;>intro _)|apply AG|refine Af () ?_ ?_|((first|apply AO|apply AN|apply AM|apply AL|apply AF|apply AE|apply AD|apply AC|apply AB)<;>try dsimp only)|apply Af|(refine Prod.forall.2 ?_;intro _;try dsimp only)|(intro _;try dsimp only))<;>(try dsimp only at*)<;>(try simp only[AR,List.length_cons,List.length_nil])<;>(try omega)
 ·rename_i h;simp at h
 ·rename_i i hi hl c hc y _ hp e he
  rw[Dv hi.1] at he;exact Ok hi.2.2 hc hp e he
 ·rename_i i hi hl c hc y _ hp
  exact IJ hi.2.2 (.inr ⟨c,hc,hp⟩)
 ·rename_i i hi hl
  exact IJ hi.2.2 (.inl (by omega)))
end Go.My
end
section
set_option linter.unusedVariables false
set_option linter.unusedSimpArgs false
namespace Go.My
open Go.Eng
def Mm(x:List UInt8):SgR:=if Cr (x.take 2) then⟨4,x.take 2,(x.take 2).length,true⟩ else if Cr (x.take 1) then⟨4,x.take 1,1,true⟩ else⟨0,[],0,false⟩
def Ht(x:List UInt8)(i:Int):Prop:=(0≤i∧i≤2∧i≤x.length)∧Bf x=Mm x∧∀j:Nat,i<j→j≤2→j≤x.length→Cr (x.take j)=false
theorem a5A{x:List UInt8}{i:Int}(h:Ht x i)(hx:1≤x.length)(h0:i>0)(hm:Cr (x.take i.toNat)=true):Bf x=⟨4,x.take i.toNat,i,true⟩:=by
 obtain⟨⟨h1,h2,h3⟩,h4,h5⟩:=h
 rw[h4]
 have hi:i=1∨i=2:=by omega
 rcases hi with rfl|rfl
 ·by_cases hl:x.length=1
  ·have e:x.take 2=x.take 1:=by rw[List.take_of_length_le (by omega),List.take_of_length_le (by omega)]
   have hm':Cr (x.take 1)=true:=hm
   simp only[Mm,e,hm',if_true]
   have:(x.take 1).length=1:=by simp;omega
   rw[this];rfl
  ·have:=h5 2 (by omega) (by omega) (by omega)
   have hm':Cr (x.take 1)=true:=hm
   simp only[Mm,this,hm',Bool.false_eq_true,if_false,if_true];rfl
 ·have hm':Cr (x.take 2)=true:=hm
  simp only[Mm,hm',if_true]
  have:(x.take 2).length=2:=by simp;omega
  rw[this];rfl
theorem a5B{x:List UInt8}{i:Int}(h:Ht x i)(hx:1≤x.length)(h0:¬i>0):Bf x=⟨0,[],0,false⟩:=by
 obtain⟨⟨h1,h2,h3⟩,h4,h5⟩:=h
 rw[h4]
 have a1:=h5 1 (by omega) (by omega) hx
 have a2:Cr (x.take 2)=false:=by
  by_cases hl:x.length=1
  ·have e:x.take 2=x.take 1:=by rw[List.take_of_length_le (by omega),List.take_of_length_le (by omega)]
   rw[e];exact a1
  ·exact h5 2 (by omega) (by omega) (by omega)
 simp only[Mm,a1,a2,Bool.false_eq_true,if_false]
theorem a5C{x:List UInt8}{i:Int}(h:Ht x i)(h0:i>0)(hm:Cr (x.take i.toNat)=false):Ht x (i-1):=by
 obtain⟨⟨h1,h2,h3⟩,h4,h5⟩:=h
 refine⟨⟨by omega,by omega,by omega⟩,h4,fun j a b c=> ?_⟩
 by_cases e:(j:Int)=i
 ·have:j=i.toNat:=by omega
  rw[this];exact hm
 ·exact h5 j (by omega) b c
theorem a5D{b:UInt8}{t:List UInt8}(h1:Cj b=false)(h2:Bt b=false)(h3:¬b.toNat=39)(h4:(b::t).take 2≠[47,47]):Ht (b::t) (min 2 ((b::t).length:Int)):=by
 refine⟨⟨by omega,by omega,by omega⟩,?_,fun j a b c=>by omega⟩
 simp only[Bf,h1,h2,h3,h4,Bool.false_eq_true,if_false,Mm]
theorem a5E{b:UInt8}{t:List UInt8}(h:Cj b=true):Bf (b::t)=⟨1,(b::t).takeWhile BJ,((b::t).takeWhile BJ).length,decide ((((b::t).takeWhile BJ).length:Int)≤30)⟩:=by
 have:decide ((((b::t).takeWhile BJ).length:Int)≤30)=decide (((b::t).takeWhile BJ).length≤30):=decide_eq_decide.2 (by omega)
 rw[this];simp [Bf,h]
theorem a5F{b:UInt8}{t:List UInt8}(h0:Cj b=false)(h:Bt b=true):Bf (b::t)=⟨2,(b::t).takeWhile Bt,((b::t).takeWhile Bt).length,decide ((((b::t).takeWhile Bt).length:Int)≤12)⟩:=by
 have:decide ((((b::t).takeWhile Bt).length:Int)≤12)=decide (((b::t).takeWhile Bt).length≤12):=decide_eq_decide.2 (by omega)
 rw[this];simp [Bf,h,h0]
theorem a5G{b:UInt8}{t:List UInt8}(h0:Cj b=false)(h1:Bt b=false)(h:(b.toNat:Int)=39):Bf (b::t)=⟨3,(De (b::t)).1,(De (b::t)).1.length,(De (b::t)).2⟩:=by
 have h:b.toNat=39:=by omega
 simp [Bf,h0,h1,h]
theorem a5H{b:UInt8}{t:List UInt8}(h0:Cj b=false)(h1:Bt b=false)(h2:(b.toNat:Int)≠39)(h:(b::t).take 2=[47,47]):
 Bf (b::t)=⟨5,Cs ((b::t).takeWhile Cb),((b::t).takeWhile Cb).length,((b::t).takeWhile Cb).all Cc⟩:=by
 have h2:¬b.toNat=39:=by omega
 simp only[Bf,h0,h1,h2,h,Bool.false_eq_true,if_false,if_true]
theorem Yc(s:List UInt8)(c:UInt8):Cs (s++[c])=if c.toNat=32 then Cs s else s++[c]:=by
 unfold Cs
 rw[List.reverse_append]
 simp only[List.reverse_cons,List.reverse_nil,List.nil_append,List.singleton_append,List.dropWhile_cons]
 by_cases h:c.toNat=32
 ·simp [h]
 ·simp [h]
theorem a5I{s:List UInt8}{c:UInt8}(h:s[s.length-1]? =some c):s=s.take (s.length-1)++[c]:=by
 have h1:=FE h
 have:s.length-1+1=s.length:=by
  have:=(List.getElem?_eq_some_iff.1 h).1;omega
 rw[this,List.take_length] at h1
 exact h1
theorem Yd{s:List UInt8}{c:UInt8}(h:s[s.length-1]? =some c):Cs s=if c.toNat=32 then Cs (s.take (s.length-1)) else s:=by
 have h1:=a5I h
 rw[h1,Yc]
 split
 ·rw[List.length_append];simp
 ·rfl
theorem Ye{s:List UInt8}{n:Nat}{c:UInt8}(h:s[n]? =some c):Cs (s.take (n+1))=if c.toNat=32 then Cs (s.take n) else s.take (n+1):=by
 rw[FE h,Yc]
def isQ(c:UInt8):Bool:=decide (c.toNat=39)
def Cn(s:List UInt8):Nat:=match DA isQ (s.drop 1) with
 |none=>0
 |some i=>if((s.drop 1).take i).all Cc then i+2 else 0
def Ci(s:List UInt8):Nat:=if s.take 2=[47,47] then(if(s.takeWhile Cb).all Cc then(s.takeWhile Cb).length else 0) else 0
theorem Yf(s:List UInt8):De s=match DA isQ (s.drop 1) with
 |none=>([],false)
 |some i=>(s.take (i+2),(s.take (i+2)).all Cc):=rfl
theorem Yg{c:UInt8}(h:isQ c=true):Cc c=true:=by
 simp [isQ] at h;simp [Cc,h]
theorem Um{p:UInt8→Bool}{s:List UInt8}{i:Nat}(h:DA p s=some i):i<s.length:=by
 obtain⟨_,e,he,_⟩:=Kt.1 h
 exact(List.getElem?_eq_some_iff.1 he).1
theorem Qu{c:UInt8}{s:List UInt8}(hc:isQ c=true):(De (c::s)).2=true↔Cn (c::s)≠0:=by
 rw[Yf];unfold Cn
 simp only[List.drop_succ_cons,List.drop_zero]
 cases h:DA isQ s with
 |none=>simp
 |some i=>
  simp only[List.take_succ_cons,List.all_cons,Yg hc,Bool.true_and]
  obtain⟨h1,e,he,hq⟩:=Kt.1 h
  rw[FE he,List.all_append]
  simp [Yg hq]
theorem Yh{c:UInt8}{s:List UInt8}(hc:isQ c=true)(h:Cn (c::s)≠0):(De (c::s)).1=(c::s).take (Cn (c::s))∧Cn (c::s)≤(c::s).length:=by
 rw[Yf];unfold Cn at h ⊢
 simp only[List.drop_succ_cons,List.drop_zero] at h ⊢
 cases hi:DA isQ s with
 |none=>rw[hi] at h;simp at h
 |some i=>
  rw[hi] at h
  simp only at h ⊢
  split at h
  ·rename_i hp
   have:=Um hi
   rw[if_pos hp]
   exact⟨rfl,by simp;omega⟩
  ·exact(h rfl).elim
theorem a5J{c:UInt8}(h:Cj c=true):Bt c=false:=by
 simp [Cj,Bt] at h ⊢;omega
theorem a5K(s:List UInt8):Ck s 1=match s with
 |[]=>false
 |c::_=>Cj c&&(s.all BJ&&decide (s.length≤30)):=by
 cases s with
 |nil=>rfl
 |cons c t=>
  by_cases hc:Cj c=true
  ·simp only[Ck,Bf,hc,if_true,Bool.true_and]
   by_cases ha:(c::t).all BJ=true
   ·have:=Qq.2 ha
    rw[this,ha];simp
   ·have hn:¬(c::t).takeWhile BJ=c::t:=fun e=>ha (Qq.1 e)
    simp only[Bool.not_eq_true] at ha
    rw[ha]
    have:((c::t).takeWhile BJ==c::t)=false:=by rw[beq_eq_false_iff_ne];exact hn
    rw[this];simp
  ·simp only[Bool.not_eq_true] at hc
   simp only[hc,Bool.false_and]
   rw[Bool.eq_false_iff]
   intro h
   simp only[Ck,Bf,hc,Bool.false_eq_true,if_false,Bool.and_eq_true,decide_eq_true_eq] at h
   have h1:=h.2.2.1
   repeat' split at h1
   all_goals simp at h1
theorem Yi(s:List UInt8):Ck s 2=(s.all Bt&&(decide (1≤s.length)&&decide (s.length≤12))):=by
 cases s with
 |nil=>rfl
 |cons c t=>
  by_cases hc:Cj c=true
  ·have hf:=a5J hc
   simp only[List.all_cons,hf,Bool.false_and]
   simp [Ck,Bf,hc]
  ·simp only[Bool.not_eq_true] at hc
   by_cases hf:Bt c=true
   ·simp only[Ck,Bf,hc,hf,Bool.false_eq_true,if_false,if_true]
    by_cases ha:(c::t).all Bt=true
    ·have:=Qq.2 ha
     rw[this,ha];simp
    ·have hn:¬(c::t).takeWhile Bt=c::t:=fun e=>ha (Qq.1 e)
     simp only[Bool.not_eq_true] at ha
     rw[ha]
     have:((c::t).takeWhile Bt==c::t)=false:=by rw[beq_eq_false_iff_ne];exact hn
     rw[this];simp
   ·simp only[Bool.not_eq_true] at hf
    simp only[List.all_cons,hf,Bool.false_and]
    rw[Bool.eq_false_iff]
    intro h
    simp only[Ck,Bf,hc,hf,Bool.false_eq_true,if_false,Bool.and_eq_true,decide_eq_true_eq] at h
    have h1:=h.2.2.1
    repeat' split at h1
    all_goals simp at h1
theorem Un(s:List UInt8):Ck s 3=match s with
 |[]=>false
 |c::_=>isQ c&&(decide (1<s.length)&&decide (Cn s=s.length)):=by
 cases s with
 |nil=>rfl
 |cons c t=>
  by_cases hq:isQ c=true
  ·have h39:c.toNat=39:=by simpa [isQ] using hq
   have hc:Cj c=false:=by simp [Cj];omega
   have hf:Bt c=false:=by simp [Bt];omega
   simp only[hq,Bool.true_and]
   simp only[Ck,Bf,hc,hf,h39,Bool.false_eq_true,if_false,if_true]
   by_cases h0:Cn (c::t)=0
   ·have h2:(De (c::t)).2=false:=by
     rw[Bool.eq_false_iff];intro h;exact(Qu hq).1 h h0
    rw[h2,h0];simp
   ·have h2:=(Qu hq).2 h0
    obtain⟨h3,h4⟩:=Yh hq h0
    have h5:1<Cn (c::t):=by
     unfold Cn at h0 ⊢
     split at h0
     ·exact(h0 rfl).elim
     ·split at h0
      ·rename_i hp;rw[if_pos hp];omega
      ·exact(h0 rfl).elim
    rw[h2,h3]
    rw[Bool.eq_iff_iff]
    simp only[Bool.and_eq_true,Bool.not_eq_true',decide_eq_true_eq,beq_iff_eq,List.length_take]
    constructor
    ·rintro⟨_,_,_,e,hl⟩
     have:=congrArg List.length e
     simp only[List.length_take] at this
     constructor<;>omega
    ·rintro⟨h6,h7⟩
     refine⟨by simp,trivial,trivial,?_,?_⟩
     ·rw[h7,List.take_length]
     ·omega
  ·simp only[Bool.not_eq_true] at hq
   have h39:¬c.toNat=39:=by simpa [isQ] using hq
   simp only[hq,Bool.false_and]
   rw[Bool.eq_false_iff]
   intro h
   simp only[Ck,Bf,h39,if_false,Bool.and_eq_true,decide_eq_true_eq] at h
   have h1:=h.2.2.1
   repeat' split at h1
   all_goals simp at h1
theorem Uo(s:List UInt8):Ck s 5=(decide (1<s.length)&&(decide (Ci s=s.length)&&(Cs s==s))):=by
 cases s with
 |nil=>rfl
 |cons c t=>
  by_cases hp:(c::t).take 2=[47,47]
  ·have h47:c=47:=by
    have:=congrArg (fun l:List UInt8=>l.head?) hp
    simpa using this
   subst h47
   have hl:1<(47::t).length:=by
    have:=congrArg List.length hp
    simp only[List.length_take,List.length_cons,List.length_nil] at this ⊢;omega
   have hc:Cj 47=false:=by decide
   have hf:Bt 47=false:=by decide
   have hq:¬(47:UInt8).toNat=39:=by decide
   simp only[Ck,Bf,hc,hf,hq,hp,Bool.false_eq_true,if_false,if_true,Ci]
   rw[Bool.eq_iff_iff]
   simp only[Bool.and_eq_true,Bool.not_eq_true',decide_eq_true_eq,beq_iff_eq,beq_eq_false_iff_ne]
   constructor
   ·rintro⟨_,h1,_,h2,h3⟩
    rw[if_pos h1]
    have h3:((47::t).takeWhile Cb).length=(47::t).length:=by omega
    refine⟨hl,h3,?_⟩
    have e:(47::t).takeWhile Cb=47::t:=by
     have:=List.takeWhile_prefix (p:=Cb) (l:=47::t)
     exact List.IsPrefix.eq_of_length this h3
    rw[e] at h2;exact h2
   ·rintro⟨_,h1,h2⟩
    split at h1
    ·rename_i h3
     have e:(47::t).takeWhile Cb=47::t:=by
      have:=List.takeWhile_prefix (p:=Cb) (l:=47::t)
      exact List.IsPrefix.eq_of_length this h1
     rw[e] at h3 ⊢
     exact⟨by simp,h3,trivial,h2,rfl⟩
    ·simp at h1
  ·have h0:Ci (c::t)=0:=by simp only[Ci,if_neg hp]
   rw[h0]
   have:decide (0=(c::t).length)=false:=by simp
   rw[this]
   simp only[Bool.false_and,Bool.and_false]
   rw[Bool.eq_false_iff]
   intro h
   simp only[Ck,Bf,hp,if_false,Bool.and_eq_true,decide_eq_true_eq] at h
   have h1:=h.2.2.1
   repeat' split at h1
   all_goals simp at h1
theorem a5L{s:List UInt8}{m:Nat}{e:UInt8}(h:∀e∈(s.drop 1).take m,isQ e=false∧Cc e=true)(he:(s.drop 1)[m]? =some e)(hq:isQ e=true):Cn s=m+2:=by
 unfold Cn
 rw[Kt.2 ⟨fun e he=>(h e he).1,e,he,hq⟩]
 simp only
 rw[if_pos (List.all_eq_true.2 fun e he=>(h e he).2)]
theorem a5M{s:List UInt8}{m:Nat}{e:UInt8}(h:∀e∈(s.drop 1).take m,isQ e=false∧Cc e=true)(he:(s.drop 1)[m]? =some e)(hq:isQ e=false)(hp:Cc e=false):Cn s=0:=by
 unfold Cn
 cases hi:DA isQ (s.drop 1) with
 |none=>rfl
 |some i=>
  simp only
  obtain⟨h1,d,hd,hdq⟩:=Kt.1 hi
  rw[if_neg]
  intro hall
  have hmi:m<i:=by
   rcases Nat.lt_trichotomy m i with h'|h'|h'
   ·exact h'
   ·subst h';rw[he] at hd;cases hd;rw[hq] at hdq;cases hdq
   ·have:d∈(s.drop 1).take m:=by
     rw[List.mem_take_iff_getElem]
     obtain⟨a,b⟩:=List.getElem?_eq_some_iff.1 hd
     exact⟨i,by omega,b⟩
    rw[(h d this).1] at hdq;cases hdq
  have:e∈(s.drop 1).take i:=by
   rw[List.mem_take_iff_getElem]
   obtain⟨a,b⟩:=List.getElem?_eq_some_iff.1 he
   exact⟨m,by omega,b⟩
  rw[List.all_eq_true.1 hall e this] at hp;cases hp
theorem a5N{s:List UInt8}{m:Nat}(h:∀e∈(s.drop 1).take m,isQ e=false∧Cc e=true)(hl:(s.drop 1).length≤m):Cn s=0:=by
 unfold Cn
 rw[List.take_of_length_le hl] at h
 rw[Uc.2 fun e he=>(h e he).1]
theorem Yj{s:List UInt8}{m:Nat}(hp:s.take 2=[47,47])(h:∀e∈s.take m,Cb e=true∧Cc e=true)(he:s.length≤m∨∃e,s[m]? =some e∧Cb e=false)(hm:m≤s.length):Ci s=m:=by
 have h1:=IJ (fun e he=>(h e he).1) he
 unfold Ci
 rw[if_pos hp,←h1,if_pos (List.all_eq_true.2 fun e he=>(h e he).2),List.length_take];omega
theorem a5O{s:List UInt8}{m:Nat}{e:UInt8}(hp:s.take 2=[47,47])(h:∀e∈s.take m,Cb e=true∧Cc e=true)(he:s[m]? =some e)(hn:Cb e=true)(hq:Cc e=false):Ci s=0:=by
 unfold Ci
 rw[if_pos hp,if_neg]
 intro hall
 have:e∈s.takeWhile Cb:=by
  have h2:s=s.take m++e::s.drop (m+1):=by rw[←Ia he,List.take_append_drop]
  rw[h2,List.takeWhile_append_of_pos (fun e he=>(h e he).1),List.takeWhile_cons,if_pos hn]
  simp
 rw[List.all_eq_true.1 hall e this] at hq;cases hq
theorem Yk{s:List UInt8}(hp:s.take 2≠[47,47]):Ci s=0:=by
 unfold Ci;rw[if_neg hp]
theorem Up{s:List UInt8}{a n:Int}(h0:0≤a)(h:a+1≤n):((s.drop a.toNat).drop 1)[(n-a-1).toNat]? =s[n.toNat]? :=by
 rw[List.getElem?_drop,List.getElem?_drop];congr 1;omega
theorem Om{s:List UInt8}{a n:Int}(h0:0≤a)(h:a≤n):(s.drop a.toNat)[(n-a).toNat]? =s[n.toNat]? :=by
 rw[List.getElem?_drop];congr 1;omega
theorem Qv{p:UInt8→Prop}{s:List UInt8}{m k:Nat}{e:UInt8}(h:∀e∈s.take m,p e)(he:s[m]? =some e)(hp:p e)(hk:k=m+1):∀e∈s.take k,p e:=by
 subst hk
 rw[FE he];intro x hx
 rcases List.mem_append.1 hx with hx|hx
 ·exact h x hx
 ·simp at hx;subst hx;exact hp
def qI(x:List UInt8×Int)(i:Int):Prop:=x.2+1≤i∧(i≤x.1.length∨i=x.2+1)∧∀e∈((x.1.drop x.2.toNat).drop 1).take (i-x.2-1).toNat,isQ e=false∧Cc e=true
theorem a5P{x:List UInt8×Int}:qI x (x.2+1):=by
 refine⟨by omega,.inr rfl,fun e he=> ?_⟩
 rw[show(x.2+1-x.2-1).toNat=0 by omega] at he;simp at he
theorem a5Q{x:List UInt8×Int}{i:Int}(h:qI x i):x.2+1≤i∧(i≤x.1.length∨i=x.2+1):=⟨h.1,h.2.1⟩
theorem a5R{x:List UInt8×Int}{i:Int}{c:UInt8}(h0:0≤x.2)(h:qI x i)(hq:(c.toNat:Int)=39)(hc:x.1[i.toNat]? =some c):i+1-x.2=Cn (x.1.drop x.2.toNat):=by
 have:=h.1
 rw[a5L h.2.2 (by rw[Up h0 h.1];exact hc) (by simp [isQ];omega)];omega
theorem a5S{x:List UInt8×Int}{i:Int}{c d:UInt8}(h0:0≤x.2)(h:qI x i)(hq:(c.toNat:Int)≠39)(hc:x.1[i.toNat]? =some c)(hp:Cc d=false)(hd:x.1[i.toNat]? =some d):0=(Cn (x.1.drop x.2.toNat):Int):=by
 rw[hc] at hd;cases hd
 rw[a5M h.2.2 (by rw[Up h0 h.1];exact hc) (by simp [isQ];omega) hp];rfl
theorem a5T{x:List UInt8×Int}{i:Int}{c d:UInt8}(h0:0≤x.2)(h:qI x i)(hl:i<x.1.length)(hq:(c.toNat:Int)≠39)(hc:x.1[i.toNat]? =some c)(hp:Cc d=true)(hd:x.1[i.toNat]? =some d):qI x (i+1):=by
 rw[hc] at hd;cases hd
 have:=h.1
 exact⟨by omega,.inl (by omega),Qv (p:=fun e=>isQ e=false∧Cc e=true) h.2.2 (by rw[Up h0 h.1];exact hc) ⟨by simp [isQ];omega,hp⟩ (by omega)⟩
theorem a5U{x:List UInt8×Int}{i:Int}(h0:0≤x.2)(h:qI x i)(hl:¬i<x.1.length):0=(Cn (x.1.drop x.2.toNat):Int):=by
 rw[a5N h.2.2 (by simp;omega)];rfl
def nI(x:List UInt8×Int)(i:Int):Prop:=(x.2≤i∧i≤x.1.length)∧(x.1.drop x.2.toNat).take 2=[47,47]∧∀e∈(x.1.drop x.2.toNat).take (i-x.2).toNat,Cb e=true∧Cc e=true
theorem Yl{x:List UInt8×Int}(h0:0≤x.2):List.drop x.2.toNat (List.take (x.2+2).toNat x.1)=(x.1.drop x.2.toNat).take 2:=by
 rw[List.drop_take];congr 1;omega
theorem a5V{x:List UInt8×Int}(h0:0≤x.2)(hl:x.2≤x.1.length)(h:(List.drop x.2.toNat (List.take (x.2+2).toNat x.1)==[47,47])=true):nI x x.2:=by
 rw[Yl h0] at h
 refine⟨⟨by omega,hl⟩,by simpa using h,fun e he=> ?_⟩
 rw[show(x.2-x.2).toNat=0 by omega] at he;simp at he
theorem a5W{x:List UInt8×Int}(h0:0≤x.2)(h:(List.drop x.2.toNat (List.take (x.2+2).toNat x.1)==[47,47])=false):0=(Ci (x.1.drop x.2.toNat):Int):=by
 rw[Yl h0] at h
 rw[Yk (by simpa using h)];rfl
theorem a5X{x:List UInt8×Int}(h0:0≤x.2)(h:x.2+2>x.1.length):0=(Ci (x.1.drop x.2.toNat):Int):=by
 rw[Yk]
 ·rfl
 ·intro e;have:=congrArg List.length e;simp at this;omega
theorem a5Y{x:List UInt8×Int}{i:Int}{c d:UInt8}(h0:0≤x.2)(h:nI x i)(hn:(c.toNat:Int)≠10)(hc:x.1[i.toNat]? =some c)(hp:Cc d=false)(hd:x.1[i.toNat]? =some d):0=(Ci (x.1.drop x.2.toNat):Int):=by
 rw[hc] at hd;cases hd
 rw[a5O h.2.1 h.2.2 (by rw[Om h0 h.1.1];exact hc) (by simp [Cb];omega) hp];rfl
theorem a5Z{x:List UInt8×Int}{i:Int}{c d:UInt8}(h0:0≤x.2)(h:nI x i)(hl:i<x.1.length)(hn:(c.toNat:Int)≠10)(hc:x.1[i.toNat]? =some c)(hp:Cc d=true)(hd:x.1[i.toNat]? =some d):nI x (i+1):=by
 rw[hc] at hd;cases hd
 have:=h.1
 exact⟨by omega,h.2.1,Qv (p:=fun e=>Cb e=true∧Cc e=true) h.2.2 (by rw[Om h0 h.1.1];exact hc) ⟨by simp [Cb];omega,hp⟩ (by omega)⟩
theorem a6a{x:List UInt8×Int}{i:Int}{c:UInt8}(h0:0≤x.2)(h:nI x i)(hn:(c.toNat:Int)=10)(hc:x.1[i.toNat]? =some c):i-x.2=(Ci (x.1.drop x.2.toNat):Int):=by
 have:=h.1
 have hl:=(List.getElem?_eq_some_iff.1 hc).1
 rw[Yj h.2.1 h.2.2 (.inr ⟨c,by rw[Om h0 h.1.1];exact hc,by simp [Cb];omega⟩) (by simp;omega)];omega
theorem a6b{x:List UInt8×Int}{i:Int}(h0:0≤x.2)(h:nI x i)(hl:¬i<x.1.length):i-x.2=(Ci (x.1.drop x.2.toNat):Int):=by
 have:=h.1
 rw[Yj h.2.1 h.2.2 (.inl (by simp;omega)) (by simp;omega)];omega
def nmI(x:List UInt8)(i:Int):Prop:=(0≤i∧i≤x.length)∧(inn x.length 1 30=true∧Cj (x.headD 0)=true∧kw x=false)∧∀e∈x.take i.toNat,BJ e=true
theorem Uq{x:List UInt8}:Cm x=true↔(inn x.length 1 30=true∧Cj (x.headD 0)=true∧kw x=false)∧x.all BJ=true:=by
 unfold Cm
 rw[a5K]
 cases x with
 |nil=>simp [inn]
 |cons c t=>
  simp only[inn,Bool.and_eq_true,decide_eq_true_eq,Bool.not_eq_true',List.headD_cons,List.length_cons]
  constructor
  ·rintro⟨⟨h1,h2,h3⟩,h4⟩;exact⟨⟨⟨by omega,by omega⟩,h1,h4⟩,h2⟩
  ·rintro⟨⟨⟨h1,h2⟩,h3,h4⟩,h5⟩;exact⟨⟨h3,h5,by omega⟩,h4⟩
theorem Ym{x:List UInt8}{c:UInt8}(h:x[0]? =some c):x.headD 0=c:=by cases x<;>simp_all
theorem Ur{x:List UInt8}(h:¬(inn x.length 1 30=true∧Cj (x.headD 0)=true∧kw x=false)):false=Cm x:=by
 symm;rw[Bool.eq_false_iff];intro hn;exact h (Uq.1 hn).1
theorem a6c{x:List UInt8}(h:inn x.length 1 30=true)(h1:Cj (x.headD 0)=true)(h2:kw x=false):nmI x 0:=⟨by omega,⟨h,h1,h2⟩,fun e he=>by simp at he⟩
theorem Yn{x:List UInt8}{i:Int}{c:UInt8}(h:nmI x i)(hc:x[i.toNat]? =some c)(hl:i<x.length)(hp:BJ c=true):nmI x (i+1):=by
 have:=h.1
 exact⟨by omega,h.2.1,Qv (p:=fun e=>BJ e=true) h.2.2 hc hp (by omega)⟩
theorem a6d{x:List UInt8}{i:Int}{c:UInt8}(h:nmI x i)(hc:x[i.toNat]? =some c)(hp:BJ c=false):false=Cm x:=by
 symm;rw[Bool.eq_false_iff];intro hn
 have:=(Uq.1 hn).2
 rw[Qp hc hp] at this;cases this
theorem a6e{x:List UInt8}{i:Int}(h:nmI x i)(hl:¬i<x.length):true=Cm x:=by
 symm;rw[Uq];exact⟨h.2.1,Ub h.2.2 (by omega)⟩
theorem a6f{x:List UInt8}{c:UInt8}(h1:(x.length:Int)>1)(hq:(c.toNat:Int)=39)(h:x[0]? =some c):((Cn x:Int)==(x.length:Int))=Ck x 3:=by
 cases x with
 |nil=>cases h
 |cons d t=>
  have:d=c:=by simpa using h
  subst this
  have e:isQ d=true:=by simp [isQ];omega
  rw[Un,Bool.eq_iff_iff]
  simp [e] at h1 ⊢;omega
theorem a6g{x:List UInt8}{c:UInt8}(hq:(c.toNat:Int)≠39)(h:x[0]? =some c):false=Ck x 3:=by
 cases x with
 |nil=>cases h
 |cons d t=>
  have:d=c:=by simpa using h
  subst this
  have e:isQ d=false:=by simp [isQ];omega
  rw[Un];simp [e]
theorem a6h{x:List UInt8}(h1:¬(x.length:Int)>1):false=Ck x 3:=by
 rw[Un]
 cases x with
 |nil=>rfl
 |cons d t=>
  have:decide (1<(d::t).length)=false:=decide_eq_false (by omega)
  simp only[this,Bool.false_and,Bool.and_false]
theorem a6i{x:List UInt8}(h1:(x.length:Int)>1)(h2:(Ci x:Int)=x.length):(Cs x==x)=Ck x 5:=by
 rw[Uo]
 have e1:decide (1<x.length)=true:=decide_eq_true (by omega)
 have e2:decide (Ci x=x.length)=true:=decide_eq_true (by omega)
 simp [e1,e2]
theorem a6j{x:List UInt8}(h2:(Ci x:Int)≠x.length):false=Ck x 5:=by
 rw[Uo]
 have e2:decide (Ci x=x.length)=false:=decide_eq_false (by omega)
 simp only[e2,Bool.false_and,Bool.and_false]
theorem a6k{x:List UInt8}(h1:¬(x.length:Int)>1):false=Ck x 5:=by
 rw[Uo]
 have e2:decide (1<x.length)=false:=decide_eq_false (by omega)
 simp only[e2,Bool.false_and]
end Go.My
end
section
set_option linter.unusedVariables false
set_option linter.unusedSimpArgs false
namespace Go.My
open Go.Eng Go.Proofs
variable {G:GInv}
def GL:Sig:= {X:=List UInt8,args:=fun x=>[.str x],pre:=fun x=>True,Y:=Unit,post:=fun x y=>True,res:=fun x y=> .bool (kw x),outs:=fun x y=>[.top],keep:=false}
theorem a6l:Am G Tryz.prog 119 GL:=
 vcFun_okP [] [] false (fun x=>[]) Tryz.func119 rfl (by decide) trivial (fun(x:List UInt8)=>(∀(y:Unit),True→True∧True∧True)∧Aa (x== #[(99:UInt8),(108:UInt8),(97:UInt8),(115:UInt8),(115:UInt8)].toList) (rA GL x [.bool true,.top]) (Aa (x== #[(118:UInt8),(97:UInt8),(114:UInt8)].toList) (rA GL x [.bool true,.top]) (Aa (x== #[(105:UInt8),(102:UInt8)].toList) (rA GL x [.bool true,.top]) (Aa (x== #[(101:UInt8),(108:UInt8),(115:UInt8),(101:UInt8)].toList) (rA GL x [.bool true,.top]) (Aa (x== #[(119:UInt8),(104:UInt8),(105:UInt8),(108:UInt8),(101:UInt8)].toList) (rA GL x [.bool true,.top]) (Aa (x== #[(114:UInt8),(101:UInt8),(116:UInt8),(117:UInt8),(114:UInt8),(110:UInt8)].toList) (rA GL x [.bool true,.top]) (rA GL x [.bool false,.top]))))))) (fun x=>by kernel_rfl) fun(x:List UInt8) (hx:True)=>(by
 dsimp only[rA,GL,Au,Ax]
 (repeat' first|(with_reducible first|rfl|exact True.intro|apply AJ|apply And.intro|((first|apply Az|apply AH|apply AA|apply AI)<;>intro _))|(apply Av<;>intro _)|apply AG|refine Af () ?_ ?_|((first|apply AO|apply AN|apply AM|apply AL|apply AF|apply AE|apply AD|apply AC|apply AB)<;>try dsimp only)|apply Af|(refine Prod.forall.2 ?_;intro _;try dsimp only)|(intro _;try dsimp only))<;>(try dsimp only at*)<;>(try simp only[AR,List.length_cons,List.length_nil])<;>(try omega)
 all_goals simp [kw, *])
def FG:Sig:= {X:=List UInt8,args:=fun x=>[.str x],pre:=fun x=>True,Y:=Unit,post:=fun x y=>True,res:=fun x y=> .bool (kw x),outs:=fun x y=>[.top],keep:=false}
theorem Us:Am G Tryz.prog 125 FG:=
 vcFun_okP [] [] false (fun x=>[]) Tryz.func125 rfl (by decide) trivial (fun(x:List UInt8)=>(∀(y:Unit),True→True∧True∧True)∧Aa (x== #[(99:UInt8),(108:UInt8),(97:UInt8),(115:UInt8),(115:UInt8)].toList) (rA FG x [.bool true,.top]) (Aa (x== #[(118:UInt8),(97:UInt8),(114:UInt8)].toList) (rA FG x [.bool true,.top]) (Aa (x== #[(105:UInt8),(102:UInt8)].toList) (rA FG x [.bool true,.top]) (Aa (x== #[(101:UInt8),(108:UInt8),(115:UInt8),(101:UInt8)].toList) (rA FG x [.bool true,.top]) (Aa (x== #[(119:UInt8),(104:UInt8),(105:UInt8),(108:UInt8),(101:UInt8)].toList) (rA FG x [.bool true,.top]) (Aa (x== #[(114:UInt8),(101:UInt8),(116:UInt8),(117:UInt8),(114:UInt8),(110:UInt8)].toList) (rA FG x [.bool true,.top]) (rA FG x [.bool false,.top]))))))) (fun x=>by kernel_rfl) fun(x:List UInt8) (hx:True)=>(by
 dsimp only[rA,FG,Au,Ax]
 (repeat' first|(with_reducible first|rfl|exact True.intro|apply AJ|apply And.intro|((first|apply Az|apply AH|apply AA|apply AI)<;>intro _))|(apply Av<;>intro _)|apply AG|refine Af () ?_ ?_|((first|apply AO|apply AN|apply AM|apply AL|apply AF|apply AE|apply AD|apply AC|apply AB)<;>try dsimp only)|apply Af|(refine Prod.forall.2 ?_;intro _;try dsimp only)|(intro _;try dsimp only))<;>(try dsimp only at*)<;>(try simp only[AR,List.length_cons,List.length_nil])<;>(try omega)
 all_goals simp [kw, *])
theorem a6m{c:UInt8}:decide (Cv mk1 c≥0)=mk1.elem c:=by
 unfold Cv
 cases h:DA (fun d=>decide (d.toNat=c.toNat)) mk1 with
 |none=>
  have:=Uc.1 h
  symm
  simp only[Int.reduceNeg,ge_iff_le,Int.reduceLE,decide_false]
  rw[Bool.eq_false_iff]
  intro h2
  have h3:=this c (by simpa using h2)
  simp at h3
 |some i=>
  obtain⟨_,e,he,hq⟩:=Kt.1 h
  have h3:e=c:=by simpa [UInt8.toNat_inj] using hq
  subst h3
  have:=List.mem_of_getElem? he
  simp [this]
def GM:Sig:= {X:=List UInt8,args:=fun x=>[.str x],pre:=fun x=>x.length<2^63,Y:=Unit,post:=fun x y=>True,res:=fun x y=> .bool (Cr x),outs:=fun x y=>[.top],keep:=false}
theorem a6n:Am G Tryz.prog 168 GM:=
 vcFun_okP [(185,0,Mj)] [] false (fun x=>[]) Tryz.func168 rfl (by decide) ⟨a5s,trivial⟩ (fun(x:List UInt8)=>(∀(y:Unit),True→True∧True∧True)∧Aa (x== #[(38:UInt8),(38:UInt8)].toList) (rA GM x [.bool true,.top]) (Aa (x== #[(124:UInt8),(124:UInt8)].toList) (rA GM x [.bool true,.top]) (Aa (x== #[(61:UInt8),(61:UInt8)].toList) (rA GM x [.bool true,.top]) (Aa (x== #[(61:UInt8),(62:UInt8)].toList) (rA GM x [.bool true,.top]) (Aa (x== #[(46:UInt8),(46:UInt8)].toList) (rA GM x [.bool true,.top]) (Aa ((↑(List.length x):Int)==(1:Int)) (cA Mj [.str #[(40:UInt8),(41:UInt8),(123:UInt8),(125:UInt8),(91:UInt8),(93:UInt8),(59:UInt8),(44:UInt8),(46:UInt8),(61:UInt8),(43:UInt8),(45:UInt8),(42:UInt8),(60:UInt8),(63:UInt8),(58:UInt8)].toList,.str x] fun x_1 y=>rA GM x [.bool (decide (Cv x_1.1 (List.headD x_1.2 (0:UInt8))≥(0:Int))),.top]) (rA GM x [.bool false,.top]))))))) (fun x=>by kernel_rfl) fun(x:List UInt8) (hx:x.length<2^63)=>(by
 dsimp only[cA,rA,GM,Mj,Au,Ax,mvL,lnL,mvE,lnE]
 (repeat' first|(with_reducible first|rfl|exact True.intro|apply AJ|apply And.intro|((first|apply Az|apply AH|apply AA|apply AI)<;>intro _))|(apply Av<;>intro _)|apply AG|refine Af () ?_ ?_|((first|apply AO|apply AN|apply AM|apply AL|apply AF|apply AE|apply AD|apply AC|apply AB)<;>try dsimp only)|apply Af|(refine Prod.forall.2 ?_;intro _;try dsimp only)|(intro _;try dsimp only))<;>(try dsimp only at*)<;>(try simp only[AR,List.length_cons,List.length_nil])<;>(try omega)
 ·rename_i h;simp [Cr,mk2,h]
 ·rename_i h;simp [Cr,mk2,h]
 ·rename_i h;simp [Cr,mk2,h]
 ·rename_i h;simp [Cr,mk2,h]
 ·rename_i h;simp [Cr,mk2,h]
 ·rename_i h1 h2 h3 h4 h5 h _ _
  have h:x.length=1:=by omega
  match x,h with
  |[c],_=>exact a6m.trans (by simp [Cr,mk2])
 ·rename_i h1 h2 h3 h4 h5 h
  symm;simp only[Cr,mk2,Bool.or_eq_false_iff,beq_eq_false_iff_ne]
  refine⟨⟨h1,h2,h3,h4,h5⟩,?_⟩
  split
  ·simp at h
  ·rfl)
def KB:Sig:= {X:=List UInt8,args:=fun x=>[.str x,.int .u8 32],pre:=fun x=>x.length<2^63,Y:=Unit,post:=fun x y=>True,res:=fun x y=> .str (Cs x),outs:=fun x y=>[.top,.top],keep:=false}
def Qw(x:List UInt8):LS:= {ι:=List UInt8,inv:=fun s=>s.length≤x.length∧Cs s=Cs x,regs:=fun s=>[(0,.str s),(1,.int .u8 32)],als:=[],meas:=fun s=>s.length}
theorem a6o:Am G Tryz.prog 197 KB:=
 vcFun_okP [] [] false (fun x=>[(1,Qw x)]) Tryz.func197 rfl (by decide) trivial (fun(x:List UInt8)=>(∀(y:Unit),True→True∧True∧True∧True)∧eA (Qw x) [.str x,AV.int IntKind.u8 (32:Int)]∧∀(i:List UInt8),List.length i≤List.length x∧Cs i=Cs x→Aa (decide ((↑(List.length i):Int)>(0:Int))) (inR IntKind.i64 ((↑(List.length i):Int)-(1:Int))∧((0:Int)≤(↑(List.length i):Int)-(1:Int)∧(↑(List.length i):Int)-(1:Int)<(↑(List.length i):Int))∧∀(c:UInt8),i[Int.toNat ((↑(List.length i):Int)-(1:Int))]? =some c→Aa ((↑(UInt8.toNat c):Int)==(32:Int)) (inR IntKind.i64 ((↑(List.length i):Int)-(1:Int))∧((0:Int)≤(0:Int)∧(0:Int)≤(↑(List.length i):Int)-(1:Int)∧(↑(List.length i):Int)-(1:Int)≤(↑(List.length i):Int))∧eN (Qw x) i [.str (List.take (Int.toNat ((↑(List.length i):Int)-(1:Int))) i),AV.int IntKind.u8 (32:Int)]) (rA KB x [.str i,.top,.top])) (rA KB x [.str i,.top,.top])) (fun x=>by kernel_rfl) fun(x:List UInt8) (hx:x.length<2^63)=>(by
 dsimp only[eA,eN,Qw,rA,KB,Au,Ax,Bm]
 (repeat' first|(with_reducible first|rfl|exact True.intro|apply AJ|apply And.intro|((first|apply Az|apply AH|apply AA|apply AI)<;>intro _))|(apply Av<;>intro _)|apply AG|refine Af () ?_ ?_|((first|apply AO|apply AN|apply AM|apply AL|apply AF|apply AE|apply AD|apply AC|apply AB)<;>try dsimp only)|apply Af|(refine Prod.forall.2 ?_;intro _;try dsimp only)|(intro _;try dsimp only))<;>(try dsimp only at*)<;>(try simp only[AR,List.length_cons,List.length_nil])<;>(try omega)
 ·rename_i s hs h c hc h2;simp;omega
 ·rename_i s hs h c hc h2;simp;omega
 ·rename_i s hs h c hc h2
  have e:((s.length:Int)-1).toNat=s.length-1:=by omega
  rw[e] at hc ⊢
  rw[←hs.2,Yd hc,if_pos (by omega)]
 ·rename_i s hs h c hc h2
  have e:((s.length:Int)-1).toNat=s.length-1:=by omega
  rw[e] at hc
  rw[←hs.2,Yd hc,if_neg (by omega)]
 ·rename_i s hs h
  have:s=[]:=List.length_eq_zero_iff.1 (by omega)
  rw[←hs.2,this];rfl)
def KC:Sig:= {X:=List UInt8,args:=fun x=>[.str x,.str [32]],pre:=fun x=>x.length<2^63,Y:=Unit,post:=fun x y=>True,res:=fun x y=> .str (Cs x),outs:=fun x y=>[.top,.top],keep:=false}
theorem a6p:Am G Tryz.prog 184 KC:=
 vcFun_okP [(197,0,KB)] [] false (fun x=>[]) Tryz.func184 rfl (by decide) ⟨a6o,trivial⟩ (fun(x:List UInt8)=>(∀(y:Unit),True→True∧True∧True∧True)∧Aa (x== #[].toList) (rA KC x [.str x,.top,.top]) (((0:Int)≤(0:Int)∧(0:Int)<(↑(1:Nat):Int))∧∀(c:UInt8),[(32:UInt8)][(0:Nat)]? =some c→Aa (decide ((↑(UInt8.toNat c):Int)<(128:Int))) (((0:Int)≤(0:Int)∧(0:Int)<(↑(1:Nat):Int))∧∀(c:UInt8),[(32:UInt8)][(0:Nat)]? =some c→cA KB [.str x,AV.int IntKind.u8 (↑(UInt8.toNat c):Int)] fun x_1 y=>rA KC x [.str (Cs x_1),.top,.top]) False)) (fun x=>by kernel_rfl) fun(x:List UInt8) (hx:x.length<2^63)=>(by
 dsimp only[cA,rA,KB,KC,Au,Ax,mvL,lnL,mvE,lnE]
 refine⟨fun _ _=>⟨trivial,trivial,trivial,trivial⟩,AA (fun h=>⟨(),trivial,by rw[h];rfl,trivial⟩) (fun h=>⟨by omega,fun c hc=> ?_⟩)⟩
 have hc:32=c:=by simpa using hc
 subst hc
 refine Az (fun _=>⟨by omega,fun c hc=> ?_⟩) (fun h=>(h (by decide)).elim)
 have hc:32=c:=by simpa using hc
 subst hc
 exact⟨x,hx,rfl,rfl,fun _ _=>⟨(),trivial,rfl,trivial⟩⟩)
def Mn:Sig:= {X:=List UInt8,args:=fun x=>[.str x],pre:=fun x=>x.length<2^63,Y:=Unit,post:=fun x y=>True,res:=fun x y=> .str (Cs x),outs:=fun x y=>[.top],keep:=false}
theorem a6q:Am G Tryz.prog 166 Mn:=
 vcFun_okP [(184,0,KC)] [] false (fun x=>[]) Tryz.func166 rfl (by decide) ⟨a6p,trivial⟩ (fun(x:List UInt8)=>(∀(y:Unit),True→True∧True∧True)∧cA KC [.str x,.str #[(32:UInt8)].toList] fun x_1 y=>rA Mn x [.str (Cs x_1),.top]) (fun x=>by kernel_rfl) fun(x:List UInt8) (hx:x.length<2^63)=>(by
 dsimp only[cA,rA,Mn,KC,Au,Ax,mvL,lnL,mvE,lnE]
 (repeat' first|(with_reducible first|rfl|exact True.intro|apply AJ|apply And.intro|((first|apply Az|apply AH|apply AA|apply AI)<;>intro _))|(apply Av<;>intro _)|apply AG|refine Af () ?_ ?_|((first|apply AO|apply AN|apply AM|apply AL|apply AF|apply AE|apply AD|apply AC|apply AB)<;>try dsimp only)|apply Af|(refine Prod.forall.2 ?_;intro _;try dsimp only)|(intro _;try dsimp only))<;>(try dsimp only at*)<;>(try simp only[AR,List.length_cons,List.length_nil])<;>(try omega))
def Ie:Sig:= {X:=List UInt8,args:=fun x=>[.str x],pre:=fun x=>x.length<2^63,Y:=Unit,post:=fun x y=>True,res:=fun x y=> .str (Cs x),outs:=fun x y=>[.top],keep:=false}
def Qx(x:List UInt8):LS:= {ι:=Int,inv:=fun i=>0≤i∧i≤x.length∧Cs (x.take i.toNat)=Cs x,regs:=fun i=>[(0,.str x),(3,.int .i64 i)],als:=[],meas:=fun i=>i.toNat}
theorem Yo:Am G Tryz.prog 135 Ie:=
 vcFun_okP [] [] false (fun x=>[(2,Qx x)]) Tryz.func135 rfl (by decide) trivial (fun(x:List UInt8)=>(∀(y:Unit),True→True∧True∧True)∧eA (Qx x) [.str x,.int .i64 (↑(List.length x):Int)]∧∀(i:Int),(0:Int)≤i∧i≤(↑(List.length x):Int)∧Cs (List.take (Int.toNat i) x)=Cs x→Aa (decide (i>(0:Int))) (inR IntKind.i64 (i-(1:Int))∧((0:Int)≤i-(1:Int)∧i-(1:Int)<(↑(List.length x):Int))∧∀(c:UInt8),x[Int.toNat (i-(1:Int))]? =some c→Aa ((↑(UInt8.toNat c):Int)==(32:Int)) (inR IntKind.i64 (i-(1:Int))∧eN (Qx x) i [.str x,.int .i64 (i-(1:Int))]) (((0:Int)≤(0:Int)∧(0:Int)≤i∧i≤(↑(List.length x):Int))∧rA Ie x [.str (List.take (Int.toNat i) x),.top])) (((0:Int)≤(0:Int)∧(0:Int)≤i∧i≤(↑(List.length x):Int))∧rA Ie x [.str (List.take (Int.toNat i) x),.top])) (fun x=>by kernel_rfl) fun(x:List UInt8) (hx:x.length<2^63)=>(by
 dsimp only[eA,eN,Qx,rA,Ie,Au,Ax,Bm]
 (repeat' first|(with_reducible first|rfl|exact True.intro|apply AJ|apply And.intro|((first|apply Az|apply AH|apply AA|apply AI)<;>intro _))|(apply Av<;>intro _)|apply AG|refine Af () ?_ ?_|((first|apply AO|apply AN|apply AM|apply AL|apply AF|apply AE|apply AD|apply AC|apply AB)<;>try dsimp only)|apply Af|(refine Prod.forall.2 ?_;intro _;try dsimp only)|(intro _;try dsimp only))<;>(try dsimp only at*)<;>(try simp only[AR,List.length_cons,List.length_nil])<;>(try omega)
 ·simp
 ·rename_i i hi h c hc h2
  rw[←hi.2.2,show i.toNat=(i-1).toNat+1 by omega,Ye hc,if_pos (by omega)]
 ·rename_i i hi h c hc h2
  have:=hi.2.2
  rw[show i.toNat=(i-1).toNat+1 by omega,Ye hc,if_neg (by omega)] at this
  rw[←this,show i.toNat=(i-1).toNat+1 by omega]
 ·rename_i i hi h
  rw[←hi.2.2,show i.toNat=0 by omega];rfl)
theorem a6r(s:List UInt8)(c:UInt8):Cv s c= -1∨(0≤Cv s c∧Cv s c<s.length):=by
 unfold Cv
 split
 ·exact .inl rfl
 ·rename_i i h;have:=Um h;omega
theorem Yp{s:List UInt8}:De s=if Cv (s.drop 1) 39<0 then([],false) else(s.take (Cv (s.drop 1) 39+2).toNat,(s.take (Cv (s.drop 1) 39+2).toNat).all Cc):=by
 unfold De Cv
 have e:(fun c:UInt8=>decide (c.toNat=39))=fun d:UInt8=>decide (d.toNat=(39:UInt8).toNat):=rfl
 rw[e]
 cases DA (fun d:UInt8=>decide (d.toNat=(39:UInt8).toNat)) (s.drop 1) with
 |none=>simp
 |some i=>
  have h1:¬(i:Int)<0:=by omega
  have h2:((i:Int)+2).toNat=i+2:=by omega
  simp only[if_neg h1,h2]
def KD:Sig:= {X:=List UInt8,args:=fun x=>[.str x],pre:=fun x=>1≤x.length∧x.length<2^62,Y:=Unit,post:=fun x y=>True,res:=fun x y=> .tup [.str (De x).1,.bool (De x).2],outs:=fun x y=>[.top],keep:=false}
theorem a6s:Am G Tryz.prog 163 KD:=
 vcFun_okP [(182,0,Mh),(167,0,Hs)] [] false (fun x=>[]) Tryz.func163 rfl (by decide) ⟨a5p,Yb,trivial⟩ (fun(x:List UInt8)=>(∀(y:Unit),True→(True∧True∧True)∧True∧True)∧((0:Int)≤(1:Int)∧(1:Int)≤(↑(List.length x):Int)∧(↑(List.length x):Int)≤(↑(List.length x):Int))∧cA Mh [.str (List.drop (1:Nat) x),AV.int IntKind.u8 (39:Int)] fun x_1 y=>Aa (decide (Cv x_1 (39:UInt8)<(0:Int))) (rA KD x [.tup [.str #[].toList,.bool false],.top]) (inR IntKind.i64 (Cv x_1 (39:UInt8)+(2:Int))∧((0:Int)≤(0:Int)∧(0:Int)≤Cv x_1 (39:UInt8)+(2:Int)∧Cv x_1 (39:UInt8)+(2:Int)≤(↑(List.length x):Int))∧cA Hs [.str (List.take (Int.toNat (Cv x_1 (39:UInt8)+(2:Int))) x)] fun x_2 y=>rA KD x [.tup [.str (List.take (Int.toNat (Cv x_1 (39:UInt8)+(2:Int))) x),.bool (List.all x_2 Cc)],.top])) (fun x=>by kernel_rfl) fun(x:List UInt8) (hx:1≤x.length∧x.length<2^62)=>(by
 dsimp only[cA,rA,Hs,KD,Mh,Au,Ax,mvL,lnL,mvE,lnE]
 obtain⟨h1,h2⟩:=hx
 have hq:=a6r (x.drop 1) 39;have hl:(x.drop 1).length=x.length-1:=by simp
 (repeat' first|(with_reducible first|rfl|exact True.intro|apply AJ|apply And.intro|((first|apply Az|apply AH|apply AA|apply AI)<;>intro _))|(apply Av<;>intro _)|apply AG|refine Af () ?_ ?_|((first|apply AO|apply AN|apply AM|apply AL|apply AF|apply AE|apply AD|apply AC|apply AB)<;>try dsimp only)|apply Af|(refine Prod.forall.2 ?_;intro _;try dsimp only)|(intro _;try dsimp only))<;>(try dsimp only at*)<;>(try simp only[AR,List.length_cons,List.length_nil])<;>(try omega)
 all_goals first
  |omega
  |(rw[Yp,if_neg ‹¬Cv _ 39<0›];done)
  |(rw[Yp,if_pos ‹Cv _ 39<0›];done)
  |(simp;omega))
def Hu:Sig:= {X:=List UInt8,args:=fun x=>[.str x],pre:=fun x=>1≤x.length∧x.length<2^62,Y:=Unit,post:=fun x y=>True,res:=fun x y=> .tup [.int .i64 (Bf x).kind,.str (Bf x).text,.int .i64 (Bf x).size,.bool (Bf x).ok],outs:=fun x y=>[.top],keep:=false}
def Qy(x:List UInt8):LS:= {ι:=Int,inv:=fun i=>Ht x i,regs:=fun i=>[(0,.str x),(12,.int .i64 i)],als:=[],meas:=fun i=>i.toNat}
theorem a6t:Am G Tryz.prog 131 Hu:=
 vcFun_okP [(159,0,Fp),(160,161+1,Ky),(162,0,Ge),(160,162+1,Kz),(163,0,KD),(164,0,Mk),(160,165+1,KA),(166,0,Mn),(167,0,Hs),(168,0,GM)] [] false (fun x=>[(15,Qy x)]) Tryz.func131 rfl (by decide) ⟨XY,a5x,Uk,a5y,a6s,a5u,a5z,a6q,Yb,a6n,trivial⟩ (fun(x:List UInt8)=>(∀(y:Unit),True→(True∧True∧True∧True∧True)∧True∧True)∧((0:Int)≤(0:Int)∧(0:Int)<(↑(List.length x):Int))∧∀(c:UInt8),x[(0:Nat)]? =some c→cA Fp [AV.int IntKind.u8 (↑(UInt8.toNat c):Int)] fun x_1 y=>Aa (Cj x_1) (cA Ky [.str x,AV.clo (Fn.func (84:Nat)) []] fun x_2 y=>rA Hu x [.tup [.int .i64 (1:Int),.str (List.takeWhile BJ x_2),.int .i64 (↑(List.length (List.takeWhile BJ x_2)):Int),.bool (decide ((↑(List.length (List.takeWhile BJ x_2)):Int)≤(30:Int)))],.top]) (cA Ge [AV.int IntKind.u8 (↑(UInt8.toNat c):Int)] fun x_2 y=>Aa (Bt x_2) (cA Kz [.str x,AV.clo (Fn.func (85:Nat)) []] fun x_3 y=>rA Hu x [.tup [.int .i64 (2:Int),.str (List.takeWhile Bt x_3),.int .i64 (↑(List.length (List.takeWhile Bt x_3)):Int),.bool (decide ((↑(List.length (List.takeWhile Bt x_3)):Int)≤(12:Int)))],.top]) (Aa ((↑(UInt8.toNat c):Int)==(39:Int)) (cA KD [.str x] fun x_3 y=>rA Hu x [.tup [.int .i64 (3:Int),.str (De x_3).1,.int .i64 (↑(List.length (De x_3).1):Int),.bool (De x_3).2],.top]) (cA Mk [.str x,.str #[(47:UInt8),(47:UInt8)].toList] fun x_3 y=>Aa (List.take (List.length x_3.2) x_3.1==x_3.2) (cA KA [.str x,AV.clo (Fn.func (88:Nat)) []] fun x_4 y=>cA Mn [.str (List.takeWhile Cb x_4)] fun x_5 y=>cA Hs [.str (List.takeWhile Cb x_4)] fun x_6 y=>rA Hu x [.tup [.int .i64 (5:Int),.str (Cs x_5),.int .i64 (↑(List.length (List.takeWhile Cb x_4)):Int),.bool (List.all x_6 Cc)],.top]) (eA (Qy x) [.str x,.int .i64 (min (2:Int) (↑(List.length x):Int))]∧∀(i:Int),Ht x i→Aa (decide (i>(0:Int))) (((0:Int)≤(0:Int)∧(0:Int)≤i∧i≤(↑(List.length x):Int))∧cA GM [.str (List.take (Int.toNat i) x)] fun x_4 y=>Aa (Cr x_4) (true=true∧true=true∧((0:Int)≤(0:Int)∧(0:Int)≤i∧i≤(↑(List.length x):Int))∧rA Hu x [.tup [.int .i64 (4:Int),.str (List.take (Int.toNat i) x),.int .i64 i,.bool true],.top]) (inR IntKind.i64 (i-(1:Int))∧eN (Qy x) i [.str x,.int .i64 (i-(1:Int))])) (rA Hu x [.tup [.int .i64 (0:Int),.str #[].toList,.int .i64 (0:Int),.bool false],.top])))))) (fun x=>by kernel_rfl) fun(x:List UInt8) (hx:1≤x.length∧x.length<2^62)=>(by
 dsimp only[cA,eA,eN,Qy,rA,Mn,Ge,Fp,Hs,GM,KD,Kz,Ky,KA,Mk,Hu,Au,Ax,mvL,lnL,mvE,lnE,Bm]
 obtain⟨h1,h2⟩:=hx
 have h3:x.length<9223372036854775808:=by omega
 match x,h1,h2,h3 with
 |b::t,h1,h2,h3=>
 (repeat' first|(with_reducible first|rfl|exact True.intro|apply AJ|apply And.intro|((first|apply Az|apply AH|apply AA|apply AI)<;>intro _))|(apply Av<;>intro _)|apply AG|refine Af () ?_ ?_|((first|apply AO|apply AN|apply AM|apply AL|apply AF|apply AE|apply AD|apply AC|apply AB)<;>try dsimp only)|apply Af|(refine Prod.forall.2 ?_;intro _;try dsimp only)|(intro _;try dsimp only))<;>(try dsimp only at*)<;>(try simp only[AR,List.length_cons,List.length_nil])<;>(try omega)
 all_goals(try simp only[List.getElem?_cons_zero,Option.some.injEq] at*)
 all_goals(try subst_vars)
 all_goals first
  |exact h3
  |(rw[a5E ‹_›];done)
  |(rw[a5F ‹_› ‹_›];done)
  |(rw[a5G ‹_› ‹_› ‹_›];done)
  |(rw[a5H ‹_› ‹_› ‹_› ‹_›];done)
  |(rw[a5A ‹_› h1 ‹_› ‹_›];done)
  |(rw[a5B ‹_› h1 ‹_›];done)
  |exact a5C ‹_› ‹_› ‹_›
  |exact a5D ‹_› ‹_› (by omega) ‹_›
  |exact Nat.lt_of_le_of_lt (List.takeWhile_prefix _).length_le h3
  |(have hI:=(‹Ht _ _› :Ht _ _).1;rw[List.length_cons] at hI;omega)
  |(have hI:=(‹Ht _ _› :Ht _ _).1;rw[List.length_take];omega)
  |trace_state)
def Fq:Sig:= {X:=List UInt8×Int,args:=fun x=>[.str x.1,.int .i64 x.2],pre:=fun x=>x.1.length<2^62,Y:=Unit,post:=fun x y=>True,res:=fun x y=> .bool (Ck x.1 x.2),outs:=fun x y=>[.top,.top],keep:=false}
theorem Yq:Am G Tryz.prog 99 Fq:=
 vcFun_okP [(131,0,Hu)] [] false (fun x=>[]) Tryz.func99 rfl (by decide) ⟨a6t,trivial⟩ (fun(x:List UInt8×Int)=>(∀(y:Unit),True→True∧True∧True∧True)∧Aa (x.1== #[].toList) (rA Fq x [.bool false,.top,.top]) (cA Hu [.str x.1] fun x_1 y=>Aa (Bf x_1).ok (Aa ((Bf x_1).kind==x.2) (Aa ((Bf x_1).text==x.1) (rA Fq x [.bool ((Bf x_1).size==(↑(List.length x.1):Int)),.top,.top]) (rA Fq x [.bool false,.top,.top])) (rA Fq x [.bool false,.top,.top])) (rA Fq x [.bool false,.top,.top]))) (fun x=>by kernel_rfl) fun(x:List UInt8×Int) (hx:x.1.length<2^62)=>(by
 dsimp only[cA,rA,Fq,Hu,Au,Ax,mvL,lnL,mvE,lnE]
 (repeat' first|(with_reducible first|rfl|exact True.intro|apply AJ|apply And.intro|((first|apply Az|apply AH|apply AA|apply AI)<;>intro _))|(apply Av<;>intro _)|apply AG|refine Af () ?_ ?_|((first|apply AO|apply AN|apply AM|apply AL|apply AF|apply AE|apply AD|apply AC|apply AB)<;>try dsimp only)|apply Af|(refine Prod.forall.2 ?_;intro _;try dsimp only)|(intro _;try dsimp only))<;>(try dsimp only at*)<;>(try simp only[AR,List.length_cons,List.length_nil])<;>(try omega)
 all_goals first
  |exact List.length_pos_iff.2 ‹_›
  |(simp [Ck, *];done)
  |(rw[Bool.eq_iff_iff];simp [Ck, *];done))
def Eu:Sig:= {X:=List UInt8,args:=fun x=>[.str x],pre:=fun x=>x.length<2^62,Y:=Unit,post:=fun x y=>True,res:=fun x y=> .bool (Cm x),outs:=fun x y=>[.top],keep:=false}
theorem Ut:Am G Tryz.prog 80 Eu:=
 vcFun_okP [(99,0,Fq),(119,0,GL)] [] false (fun x=>[]) Tryz.func80 rfl (by decide) ⟨Yq,a6l,trivial⟩ (fun(x:List UInt8)=>(∀(y:Unit),True→True∧True∧True)∧cA Fq [.str x,.int .i64 (1:Int)] fun x_1 y=>Aa (Ck x_1.1 x_1.2) (cA GL [.str x] fun x_2 y=>rA Eu x [.bool !kw x_2,.top]) (rA Eu x [.bool false,.top])) (fun x=>by kernel_rfl) fun(x:List UInt8) (hx:x.length<2^62)=>(by
 dsimp only[cA,rA,GL,Eu,Fq,Au,Ax,mvL,lnL,mvE,lnE]
 (repeat' first|(with_reducible first|rfl|exact True.intro|apply AJ|apply And.intro|((first|apply Az|apply AH|apply AA|apply AI)<;>intro _))|(apply Av<;>intro _)|apply AG|refine Af () ?_ ?_|((first|apply AO|apply AN|apply AM|apply AL|apply AF|apply AE|apply AD|apply AC|apply AB)<;>try dsimp only)|apply Af|(refine Prod.forall.2 ?_;intro _;try dsimp only)|(intro _;try dsimp only))<;>(try dsimp only at*)<;>(try simp only[AR,List.length_cons,List.length_nil])<;>(try omega)
 all_goals simp [Cm, *])
def Dp:Sig:= {X:=Nd,args:=fun x=>[.agg (ndA false x)],pre:=fun x=>x.text.length<2^62,Y:=Unit,post:=fun x y=>True,res:=fun x y=> .bool (Fm x.kind x.text),outs:=fun x y=>[.top],keep:=false}
theorem a6u:Am G Tryz.prog 58 Dp:=
 vcFun_okP [(99,0,Fq),(80,0,Eu)] [] false (fun x=>[]) Tryz.func58 rfl (by decide) ⟨Yq,Ut,trivial⟩ (fun(x:Nd)=>(∀(y:Unit),True→True∧True∧True)∧Aa (x.kind==(1:Int)) (cA Eu [.str x.text] fun x_1 y=>rA Dp x [.bool (Cm x_1),.top]) (Aa (x.kind==(6:Int)) (cA Eu [.str x.text] fun x_1 y=>rA Dp x [.bool (Cm x_1),.top]) (Aa (x.kind==(12:Int)) (cA Eu [.str x.text] fun x_1 y=>rA Dp x [.bool (Cm x_1),.top]) (Aa (x.kind==(13:Int)) (cA Eu [.str x.text] fun x_1 y=>rA Dp x [.bool (Cm x_1),.top]) (Aa (x.kind==(20:Int)) (cA Eu [.str x.text] fun x_1 y=>rA Dp x [.bool (Cm x_1),.top]) (Aa (x.kind==(21:Int)) (cA Eu [.str x.text] fun x_1 y=>rA Dp x [.bool (Cm x_1),.top]) (Aa (x.kind==(2:Int)) (cA Fq [.str x.text,.int .i64 (2:Int)] fun x_1 y=>rA Dp x [.bool (Ck x_1.1 x_1.2),.top]) (Aa (x.kind==(3:Int)) (cA Fq [.str x.text,.int .i64 (3:Int)] fun x_1 y=>rA Dp x [.bool (Ck x_1.1 x_1.2),.top]) (Aa (x.kind==(19:Int)) (cA Fq [.str x.text,.int .i64 (5:Int)] fun x_1 y=>rA Dp x [.bool (Ck x_1.1 x_1.2),.top]) (Aa (x.kind==(7:Int)) (Aa (x.text== #[(38:UInt8),(38:UInt8)].toList) (rA Dp x [.bool true,.top]) (Aa (x.text== #[(124:UInt8),(124:UInt8)].toList) (rA Dp x [.bool true,.top]) (Aa (x.text== #[(61:UInt8),(61:UInt8)].toList) (rA Dp x [.bool true,.top]) (Aa (x.text== #[(60:UInt8)].toList) (rA Dp x [.bool true,.top]) (Aa (x.text== #[(43:UInt8)].toList) (rA Dp x [.bool true,.top]) (Aa (x.text== #[(45:UInt8)].toList) (rA Dp x [.bool true,.top]) (Aa (x.text== #[(42:UInt8)].toList) (rA Dp x [.bool true,.top]) (rA Dp x [.bool false,.top])))))))) (rA Dp x [.bool (x.text== #[].toList),.top]))))))))))) (fun x=>by kernel_rfl) fun(x:Nd) (hx:x.text.length<2^62)=>(by
 dsimp only[cA,Bn,rA,Eu,Fq,Dp,Au,Ax,mvL,lnL,mvE,lnE]
 (repeat' first|(with_reducible first|rfl|exact True.intro|apply AJ|apply And.intro|((first|apply Az|apply AH|apply AA|apply AI)<;>intro _))|(apply Av<;>intro _)|apply AG|refine Af () ?_ ?_|((first|apply AO|apply AN|apply AM|apply AL|apply AF|apply AE|apply AD|apply AC|apply AB)<;>try dsimp only)|apply Af|(refine Prod.forall.2 ?_;intro _;try dsimp only)|(intro _;try dsimp only))<;>(try dsimp only at*)<;>(try simp only[AR,List.length_cons,List.length_nil])<;>(try omega)
 all_goals simp [Fm,Oj, *])
def Hv:Sig:= {X:=List UInt8×Int,args:=fun x=>[.str x.1,.int .i64 x.2],pre:=fun x=>0≤x.2∧x.2≤x.1.length∧x.1.length<2^62,Y:=Unit,post:=fun x y=>True,res:=fun x y=> .int .i64 (Cn (x.1.drop x.2.toNat)),outs:=fun x y=>[.top,.top],keep:=false}
def Qz(x:List UInt8×Int):LS:= {ι:=Int,inv:=fun i=>qI x i,regs:=fun i=>[(0,.str x.1),(1,.int .i64 x.2),(5,.int .i64 i)],als:=[],meas:=fun i=>x.1.length-i.toNat}
theorem Yr:Am G Tryz.prog 133 Hv:=
 vcFun_okP [(169,0,Ic)] [] false (fun x=>[(2,Qz x)]) Tryz.func133 rfl (by decide) ⟨Ya,trivial⟩ (fun(x:List UInt8×Int)=>(∀(y:Unit),True→True∧True∧True∧True)∧inR IntKind.i64 (x.2+(1:Int))∧eA (Qz x) [.str x.1,.int .i64 x.2,.int .i64 (x.2+(1:Int))]∧∀(i:Int),qI x i→Aa (decide (i<(↑(List.length x.1):Int))) (((0:Int)≤i∧i<(↑(List.length x.1):Int))∧∀(c:UInt8),x.1[Int.toNat i]? =some c→Aa ((↑(UInt8.toNat c):Int)==(39:Int)) (inR IntKind.i64 (i+(1:Int))∧inR IntKind.i64 (i+(1:Int)-x.2)∧rA Hv x [.int .i64 (i+(1:Int)-x.2),.top,.top]) (((0:Int)≤i∧i<(↑(List.length x.1):Int))∧∀(c:UInt8),x.1[Int.toNat i]? =some c→cA Ic [AV.int IntKind.u8 (↑(UInt8.toNat c):Int)] fun x_1 y=>Aa (!Cc x_1) (rA Hv x [.int .i64 (0:Int),.top,.top]) (inR IntKind.i64 (i+(1:Int))∧eN (Qz x) i [.str x.1,.int .i64 x.2,.int .i64 (i+(1:Int))]))) (rA Hv x [.int .i64 (0:Int),.top,.top])) (fun x=>by kernel_rfl) fun(x:List UInt8×Int) (hx:0≤x.2∧x.2≤x.1.length∧x.1.length<2^62)=>(by
 dsimp only[cA,eA,eN,Qz,rA,Ic,Hv,Au,Ax,mvL,lnL,mvE,lnE,Bm]
 obtain⟨h1,h2,h3⟩:=hx
 (repeat' first|(with_reducible first|rfl|exact True.intro|apply AJ|apply And.intro|((first|apply Az|apply AH|apply AA|apply AI)<;>intro _))|(apply Av<;>intro _)|apply AG|refine Af () ?_ ?_|((first|apply AO|apply AN|apply AM|apply AL|apply AF|apply AE|apply AD|apply AC|apply AB)<;>try dsimp only)|apply Af|(refine Prod.forall.2 ?_;intro _;try dsimp only)|(intro _;try dsimp only))<;>(try dsimp only at*)<;>(try simp only[AR,List.length_cons,List.length_nil])<;>(try omega)
 all_goals first
  |exact a5P
  |exact a5R h1 ‹_› ‹_› ‹_›
  |exact a5S h1 ‹_› ‹_› ‹_› ‹_› ‹_›
  |exact a5T h1 ‹_› ‹_› ‹_› ‹_› ‹_› ‹_›
  |exact a5U h1 ‹_› ‹_›
  |(have hI:=a5Q ‹_›;omega))
def Gf:Sig:= {X:=List UInt8×Int,args:=fun x=>[.str x.1,.int .i64 x.2],pre:=fun x=>0≤x.2∧x.2≤x.1.length∧x.1.length<2^62,Y:=Unit,post:=fun x y=>True,res:=fun x y=> .int .i64 (Ci (x.1.drop x.2.toNat)),outs:=fun x y=>[.top,.top],keep:=false}
def QA(x:List UInt8×Int):LS:= {ι:=Int,inv:=fun i=>nI x i,regs:=fun i=>[(0,.str x.1),(1,.int .i64 x.2),(5,.int .i64 i)],als:=[],meas:=fun i=>x.1.length-i.toNat}
theorem Ys:Am G Tryz.prog 134 Gf:=
 vcFun_okP [(169,0,Ic)] [] false (fun x=>[(4,QA x)]) Tryz.func134 rfl (by decide) ⟨Ya,trivial⟩ (fun(x:List UInt8×Int)=>(∀(y:Unit),True→True∧True∧True∧True)∧inR IntKind.i64 (x.2+(2:Int))∧Aa (decide (x.2+(2:Int)>(↑(List.length x.1):Int))) (rA Gf x [.int .i64 (0:Int),.top,.top]) (inR IntKind.i64 (x.2+(2:Int))∧((0:Int)≤x.2∧x.2≤x.2+(2:Int)∧x.2+(2:Int)≤(↑(List.length x.1):Int))∧Aa (!List.drop (Int.toNat x.2) (List.take (Int.toNat (x.2+(2:Int))) x.1)== #[(47:UInt8),(47:UInt8)].toList) (rA Gf x [.int .i64 (0:Int),.top,.top]) (eA (QA x) [.str x.1,.int .i64 x.2,.int .i64 x.2]∧∀(i:Int),nI x i→Aa (decide (i<(↑(List.length x.1):Int))) (((0:Int)≤i∧i<(↑(List.length x.1):Int))∧∀(c:UInt8),x.1[Int.toNat i]? =some c→Aa ((↑(UInt8.toNat c):Int) != (10:Int)) (((0:Int)≤i∧i<(↑(List.length x.1):Int))∧∀(c:UInt8),x.1[Int.toNat i]? =some c→cA Ic [AV.int IntKind.u8 (↑(UInt8.toNat c):Int)] fun x_1 y=>Aa (!Cc x_1) (rA Gf x [.int .i64 (0:Int),.top,.top]) (inR IntKind.i64 (i+(1:Int))∧eN (QA x) i [.str x.1,.int .i64 x.2,.int .i64 (i+(1:Int))])) (inR IntKind.i64 (i-x.2)∧rA Gf x [.int .i64 (i-x.2),.top,.top])) (inR IntKind.i64 (i-x.2)∧rA Gf x [.int .i64 (i-x.2),.top,.top])))) (fun x=>by kernel_rfl) fun(x:List UInt8×Int) (hx:0≤x.2∧x.2≤x.1.length∧x.1.length<2^62)=>(by
 dsimp only[cA,eA,eN,QA,rA,Gf,Ic,Au,Ax,mvL,lnL,mvE,lnE,Bm]
 obtain⟨h1,h2,h3⟩:=hx
 (repeat' first|(with_reducible first|rfl|exact True.intro|apply AJ|apply And.intro|((first|apply Az|apply AH|apply AA|apply AI)<;>intro _))|(apply Av<;>intro _)|apply AG|refine Af () ?_ ?_|((first|apply AO|apply AN|apply AM|apply AL|apply AF|apply AE|apply AD|apply AC|apply AB)<;>try dsimp only)|apply Af|(refine Prod.forall.2 ?_;intro _;try dsimp only)|(intro _;try dsimp only))<;>(try dsimp only at*)<;>(try simp only[AR,List.length_cons,List.length_nil])<;>(try omega)
 all_goals first
  |exact a5X h1 ‹_›
  |exact a5W h1 ‹_›
  |exact a5V h1 h2 ‹_›
  |exact a5Y h1 ‹_› ‹_› ‹_› ‹_› ‹_›
  |exact a5Z h1 ‹_› ‹_› ‹_› ‹_› ‹_› ‹_›
  |exact a6a h1 ‹_› ‹_› ‹_›
  |exact a6b h1 ‹_› ‹_›
  |(have hI:=(‹nI _ _› :nI _ _).1;omega))
def DE:Sig:= {X:=List UInt8,args:=fun x=>[.str x],pre:=fun x=>x.length<2^62,Y:=Unit,post:=fun x y=>True,res:=fun x y=> .bool (Cm x),outs:=fun x y=>[.top],keep:=false}
def On(x:List UInt8):LS:= {ι:=Int,inv:=fun i=>nmI x i,regs:=fun i=>[(0,.str x),(3,.int .i64 i)],als:=[],meas:=fun i=>x.length-i.toNat}
theorem Uu:Am G Tryz.prog 92 DE:=
 vcFun_okP [(64,0,CH),(124,0,EJ),(125,0,FG),(126,0,Fo)] [] false (fun x=>[(4,On x)]) Tryz.func92 rfl (by decide) ⟨Kw,XZ,Us,Ul,trivial⟩ (fun(x:List UInt8)=>(∀(y:Unit),True→True∧True∧True)∧cA CH [.int .i64 (↑(List.length x):Int),.int .i64 (1:Int),.int .i64 (30:Int)] fun x_1 y=>Aa (!inn x_1.1 x_1.2.1 x_1.2.2) (rA DE x [.bool false,.top]) (((0:Int)≤(0:Int)∧(0:Int)<(↑(List.length x):Int))∧∀(c:UInt8),x[(0:Nat)]? =some c→cA EJ [AV.int IntKind.u8 (↑(UInt8.toNat c):Int)] fun x_2 y=>Aa (!Cj x_2) (rA DE x [.bool false,.top]) (cA FG [.str x] fun x_3 y=>Aa (kw x_3) (rA DE x [.bool false,.top]) (eA (On x) [.str x,.int .i64 (0:Int)]∧∀(i:Int),nmI x i→Aa (decide (i<(↑(List.length x):Int))) (((0:Int)≤i∧i<(↑(List.length x):Int))∧∀(c:UInt8),x[Int.toNat i]? =some c→cA EJ [AV.int IntKind.u8 (↑(UInt8.toNat c):Int)] fun x_4 y=>Aa (!Cj x_4) (((0:Int)≤i∧i<(↑(List.length x):Int))∧∀(c:UInt8),x[Int.toNat i]? =some c→cA Fo [AV.int IntKind.u8 (↑(UInt8.toNat c):Int)] fun x_5 y=>Aa (!Bt x_5) (rA DE x [.bool false,.top]) (inR IntKind.i64 (i+(1:Int))∧eN (On x) i [.str x,.int .i64 (i+(1:Int))])) (inR IntKind.i64 (i+(1:Int))∧eN (On x) i [.str x,.int .i64 (i+(1:Int))])) (rA DE x [.bool true,.top]))))) (fun x=>by kernel_rfl) fun(x:List UInt8) (hx:x.length<2^62)=>(by
 dsimp only[cA,eA,eN,On,rA,CH,Fo,EJ,DE,FG,Au,Ax,mvL,lnL,mvE,lnE,Bm]
 have hp:∀h:inn x.length 1 30=true,1≤x.length:=fun h=>by simp [inn] at h;omega
 (repeat' first|(with_reducible first|rfl|exact True.intro|apply AJ|apply And.intro|((first|apply Az|apply AH|apply AA|apply AI)<;>intro _))|(apply Av<;>intro _)|apply AG|refine Af () ?_ ?_|((first|apply AO|apply AN|apply AM|apply AL|apply AF|apply AE|apply AD|apply AC|apply AB)<;>try dsimp only)|apply Af|(refine Prod.forall.2 ?_;intro _;try dsimp only)|(intro _;try dsimp only))<;>(try dsimp only at*)<;>(try simp only[AR,List.length_cons,List.length_nil])<;>(try omega)
 all_goals(try(have:=hp ‹_›;omega))
 all_goals(try(have hI:=(‹nmI _ _› :nmI _ _).1;omega))
 ·rename_i h;exact Ur (fun hh=>by rw[hh.1] at h;cases h)
 ·rename_i c hc _ _ h;exact Ur (fun hh=>by rw[Ym hc,h] at hh;cases hh.2.1)
 ·rename_i h;exact Ur (fun hh=>by rw[hh.2.2] at h;cases h)
 ·rename_i h1 c hc _ _ h2 _ _ h3;exact a6c h1 (by rw[Ym hc];exact h2) h3
 ·rename_i i hi hl c hc _ _ h1 d hd _ _ h2
  rw[hc] at hd;cases hd
  exact a6d hi hc (by simp [BJ,h1,h2])
 ·rename_i i hi hl c hc _ _ h1 d hd _ _ h2
  rw[hc] at hd;cases hd
  exact Yn hi hc hl (by simp [BJ,h2])
 ·rename_i i hi hl c hc _ _ h1
  exact Yn hi hc hl (by simp [BJ,h1])
 ·exact a6e ‹_› ‹_›)
def KE:Sig:= {X:=List UInt8,args:=fun x=>[.str x],pre:=fun x=>x.length<2^62,Y:=Unit,post:=fun x y=>True,res:=fun x y=> .bool (Ck x 2),outs:=fun x y=>[.top],keep:=false}
theorem a6v:Am G Tryz.prog 108 KE:=
 vcFun_okP [(64,0,CH),(126,0,Fo)] [] false (fun x=>[(2,DR Bt x fun i=>[(0,.str x),(3,.int .i64 i)])]) Tryz.func108 rfl (by decide) ⟨Kw,Ul,trivial⟩ (fun(x:List UInt8)=>(∀(y:Unit),True→True∧True∧True)∧eA (DR Bt x fun(i:Int)=>[((0:Nat),.str x),((3:Nat),.int .i64 i)]) [.str x,.int .i64 (0:Int)]∧∀(i:Int),((0:Int)≤i∧i≤(↑(List.length x):Int)∧∀(e:UInt8),e∈List.take (Int.toNat i) x→Bt e=true)→Aa (decide (i<(↑(List.length x):Int))) (((0:Int)≤i∧i<(↑(List.length x):Int))∧∀(c:UInt8),x[Int.toNat i]? =some c→cA Fo [AV.int IntKind.u8 (↑(UInt8.toNat c):Int)] fun x_1 y=>Aa (!Bt x_1) (rA KE x [.bool false,.top]) (inR IntKind.i64 (i+(1:Int))∧eN (DR Bt x fun(i:Int)=>[((0:Nat),.str x),((3:Nat),.int .i64 i)]) i [.str x,.int .i64 (i+(1:Int))])) (cA CH [.int .i64 (↑(List.length x):Int),.int .i64 (1:Int),.int .i64 (12:Int)] fun x_1 y=>rA KE x [.bool (inn x_1.1 x_1.2.1 x_1.2.2),.top])) (fun x=>by kernel_rfl) fun(x:List UInt8) (hx:x.length<2^62)=>(by
 dsimp only[cA,eA,eN,DR,rA,CH,Fo,KE,Au,Ax,mvL,lnL,mvE,lnE,Bm]
 (repeat' first|(with_reducible first|rfl|exact True.intro|apply AJ|apply And.intro|((first|apply Az|apply AH|apply AA|apply AI)<;>intro _))|(apply Av<;>intro _)|apply AG|refine Af () ?_ ?_|((first|apply AO|apply AN|apply AM|apply AL|apply AF|apply AE|apply AD|apply AC|apply AB)<;>try dsimp only)|apply Af|(refine Prod.forall.2 ?_;intro _;try dsimp only)|(intro _;try dsimp only))<;>(try dsimp only at*)<;>(try simp only[AR,List.length_cons,List.length_nil])<;>(try omega)
 ·rename_i h;simp at h
 ·rename_i i hi hl c hc _ _ h;rw[Yi,Qp hc h];rfl
 ·rename_i i hi hl c hc _ _ h e he
  rw[Dv hi.1] at he;exact Ok hi.2.2 hc h e he
 ·rename_i i hi hl _ _;rw[Yi,Ub hi.2.2 (by omega)];simp only[Bool.true_and,inn];rw[Bool.eq_iff_iff];simp;omega)
def JH:Sig:= {X:=List UInt8,args:=fun x=>[.str x],pre:=fun x=>x.length<2^62,Y:=Unit,post:=fun x y=>True,res:=fun x y=> .bool (Ck x 3),outs:=fun x y=>[.top],keep:=false}
theorem a6w:Am G Tryz.prog 109 JH:=
 vcFun_okP [(133,0,Hv)] [] false (fun x=>[]) Tryz.func109 rfl (by decide) ⟨Yr,trivial⟩ (fun(x:List UInt8)=>(∀(y:Unit),True→True∧True∧True)∧Aa (decide ((↑(List.length x):Int)>(1:Int))) (((0:Int)≤(0:Int)∧(0:Int)<(↑(List.length x):Int))∧∀(c:UInt8),x[(0:Nat)]? =some c→Aa ((↑(UInt8.toNat c):Int)==(39:Int)) (cA Hv [.str x,.int .i64 (0:Int)] fun x_1 y=>rA JH x [.bool ((↑(Cn (List.drop (Int.toNat x_1.2) x_1.1)):Int)==(↑(List.length x):Int)),.top]) (rA JH x [.bool false,.top])) (rA JH x [.bool false,.top])) (fun x=>by kernel_rfl) fun(x:List UInt8) (hx:x.length<2^62)=>(by
 dsimp only[cA,rA,Hv,JH,Au,Ax,mvL,lnL,mvE,lnE]
 (repeat' first|(with_reducible first|rfl|exact True.intro|apply AJ|apply And.intro|((first|apply Az|apply AH|apply AA|apply AI)<;>intro _))|(apply Av<;>intro _)|apply AG|refine Af () ?_ ?_|((first|apply AO|apply AN|apply AM|apply AL|apply AF|apply AE|apply AD|apply AC|apply AB)<;>try dsimp only)|apply Af|(refine Prod.forall.2 ?_;intro _;try dsimp only)|(intro _;try dsimp only))<;>(try dsimp only at*)<;>(try simp only[AR,List.length_cons,List.length_nil])<;>(try omega)
 ·exact a6f ‹_› ‹_› ‹_›
 ·exact a6g ‹_› ‹_›
 ·exact a6h ‹_›)
def JI:Sig:= {X:=List UInt8,args:=fun x=>[.str x],pre:=fun x=>x.length<2^62,Y:=Unit,post:=fun x y=>True,res:=fun x y=> .bool (Ck x 5),outs:=fun x y=>[.top],keep:=false}
theorem a6x:Am G Tryz.prog 110 JI:=
 vcFun_okP [(134,0,Gf),(135,0,Ie)] [] false (fun x=>[]) Tryz.func110 rfl (by decide) ⟨Ys,Yo,trivial⟩ (fun(x:List UInt8)=>(∀(y:Unit),True→True∧True∧True)∧Aa (decide ((↑(List.length x):Int)>(1:Int))) (cA Gf [.str x,.int .i64 (0:Int)] fun x_1 y=>Aa ((↑(Ci (List.drop (Int.toNat x_1.2) x_1.1)):Int)==(↑(List.length x):Int)) (cA Ie [.str x] fun x_2 y=>rA JI x [.bool (Cs x_2==x),.top]) (rA JI x [.bool false,.top])) (rA JI x [.bool false,.top])) (fun x=>by kernel_rfl) fun(x:List UInt8) (hx:x.length<2^62)=>(by
 dsimp only[cA,rA,Gf,JI,Ie,Au,Ax,mvL,lnL,mvE,lnE]
 (repeat' first|(with_reducible first|rfl|exact True.intro|apply AJ|apply And.intro|((first|apply Az|apply AH|apply AA|apply AI)<;>intro _))|(apply Av<;>intro _)|apply AG|refine Af () ?_ ?_|((first|apply AO|apply AN|apply AM|apply AL|apply AF|apply AE|apply AD|apply AC|apply AB)<;>try dsimp only)|apply Af|(refine Prod.forall.2 ?_;intro _;try dsimp only)|(intro _;try dsimp only))<;>(try dsimp only at*)<;>(try simp only[AR,List.length_cons,List.length_nil])<;>(try omega)
 ·exact a6i ‹_› ‹_›
 ·exact a6j ‹_›
 ·exact a6k ‹_›)
def Gg:Sig:= {X:=List UInt8,args:=fun x=>[.str x],pre:=fun x=>x.length<2^62,Y:=Unit,post:=fun x y=>True,res:=fun x y=> .bool (Oj x),outs:=fun x y=>[.top],keep:=false}
theorem a6y:Am G Tryz.prog 111 Gg:=
 vcFun_okP [] [] false (fun x=>[]) Tryz.func111 rfl (by decide) trivial (fun(x:List UInt8)=>(∀(y:Unit),True→True∧True∧True)∧Aa (x== #[(38:UInt8),(38:UInt8)].toList) (rA Gg x [.bool true,.top]) (Aa (x== #[(124:UInt8),(124:UInt8)].toList) (rA Gg x [.bool true,.top]) (Aa (x== #[(61:UInt8),(61:UInt8)].toList) (rA Gg x [.bool true,.top]) (Aa (x== #[(60:UInt8)].toList) (rA Gg x [.bool true,.top]) (Aa (x== #[(43:UInt8)].toList) (rA Gg x [.bool true,.top]) (Aa (x== #[(45:UInt8)].toList) (rA Gg x [.bool true,.top]) (Aa (x== #[(42:UInt8)].toList) (rA Gg x [.bool true,.top]) (rA Gg x [.bool false,.top])))))))) (fun x=>by kernel_rfl) fun(x:List UInt8) (hx:x.length<2^62)=>(by
 dsimp only[rA,Gg,Au,Ax]
 (repeat' first|(with_reducible first|rfl|exact True.intro|apply AJ|apply And.intro|((first|apply Az|apply AH|apply AA|apply AI)<;>intro _))|(apply Av<;>intro _)|apply AG|refine Af () ?_ ?_|((first|apply AO|apply AN|apply AM|apply AL|apply AF|apply AE|apply AD|apply AC|apply AB)<;>try dsimp only)|apply Af|(refine Prod.forall.2 ?_;intro _;try dsimp only)|(intro _;try dsimp only))<;>(try dsimp only at*)<;>(try simp only[AR,List.length_cons,List.length_nil])<;>(try omega)
 all_goals simp [Oj, *])
def EY:Sig:= {X:=Int×List UInt8,args:=fun x=>[.int .i64 x.1,.str x.2],pre:=fun x=>x.2.length<2^62,Y:=Unit,post:=fun x y=>True,res:=fun x y=> .bool (Fm x.1 x.2),outs:=fun x y=>[.top,.top],keep:=false}
theorem a6z:Am G Tryz.prog 66 EY:=
 vcFun_okP [(92,0,DE),(108,0,KE),(109,0,JH),(110,0,JI),(111,0,Gg)] [] false (fun x=>[]) Tryz.func66 rfl (by decide) ⟨Uu,a6v,a6w,a6x,a6y,trivial⟩ (fun(x:Int×List UInt8)=>(∀(y:Unit),True→True∧True∧True∧True)∧Aa (x.1==(1:Int)) (cA DE [.str x.2] fun x_1 y=>rA EY x [.bool (Cm x_1),.top,.top]) (Aa (x.1==(6:Int)) (cA DE [.str x.2] fun x_1 y=>rA EY x [.bool (Cm x_1),.top,.top]) (Aa (x.1==(12:Int)) (cA DE [.str x.2] fun x_1 y=>rA EY x [.bool (Cm x_1),.top,.top]) (Aa (x.1==(13:Int)) (cA DE [.str x.2] fun x_1 y=>rA EY x [.bool (Cm x_1),.top,.top]) (Aa (x.1==(20:Int)) (cA DE [.str x.2] fun x_1 y=>rA EY x [.bool (Cm x_1),.top,.top]) (Aa (x.1==(21:Int)) (cA DE [.str x.2] fun x_1 y=>rA EY x [.bool (Cm x_1),.top,.top]) (Aa (x.1==(2:Int)) (cA KE [.str x.2] fun x_1 y=>rA EY x [.bool (Ck x_1 (2:Int)),.top,.top]) (Aa (x.1==(3:Int)) (cA JH [.str x.2] fun x_1 y=>rA EY x [.bool (Ck x_1 (3:Int)),.top,.top]) (Aa (x.1==(19:Int)) (cA JI [.str x.2] fun x_1 y=>rA EY x [.bool (Ck x_1 (5:Int)),.top,.top]) (Aa (x.1==(7:Int)) (cA Gg [.str x.2] fun x_1 y=>rA EY x [.bool (Oj x_1),.top,.top]) (rA EY x [.bool (x.2== #[].toList),.top,.top]))))))))))) (fun x=>by kernel_rfl) fun(x:Int×List UInt8) (hx:x.2.length<2^62)=>(by
 dsimp only[cA,rA,Gg,DE,JI,KE,JH,EY,Au,Ax,mvL,lnL,mvE,lnE]
 (repeat' first|(with_reducible first|rfl|exact True.intro|apply AJ|apply And.intro|((first|apply Az|apply AH|apply AA|apply AI)<;>intro _))|(apply Av<;>intro _)|apply AG|refine Af () ?_ ?_|((first|apply AO|apply AN|apply AM|apply AL|apply AF|apply AE|apply AD|apply AC|apply AB)<;>try dsimp only)|apply Af|(refine Prod.forall.2 ?_;intro _;try dsimp only)|(intro _;try dsimp only))<;>(try dsimp only at*)<;>(try simp only[AR,List.length_cons,List.length_nil])<;>(try omega)
 all_goals simp [Fm, *])
end Go.My
end
