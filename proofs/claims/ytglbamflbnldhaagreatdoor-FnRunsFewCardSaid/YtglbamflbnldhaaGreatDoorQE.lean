/- joined -/
import Derived.Test.YtglbamflbnldhaaGreatDoorQD
import Derived.Test.YtglbamflbnldhaaGreatDoorProg
import Derived.WalkKit
import Derived.Lib.Bytealg
import Derived.Laws.Externs
set_option linter.unusedSimpArgs false
set_option linter.unusedVariables false
section
namespace Go.My
open Go.Eng
def inn(x a b:Int):Bool:=decide (a≤x)&&decide (x≤b)
def BM(l:List Nd)(k:Int):Bool:=decide (0≤k)&&decide (k<l.length)
def BN(k:Int):Bool:=inn k 1 11
def Ko(k:Int):Bool:=inn k 12 17
def EX(k:Int):Bool:=decide (k=12)||(decide (k=20)||decide (k=19))
def Eh(k:Int):Bool:=decide (k=18)
def EK(k:Int):Bool:=decide (k=1)
def Ga(k:Int):Bool:=decide (k=5)
def EY(k:Int):Bool:=Ko k||decide (k=19)
def Hp(k:Int):Bool:=EX k||decide (k=21)
def Hq(p:Int→Bool)(ks:List Int):Bool:=match ks.getLast? with
 |some k=>p k&&ks.dropLast.all EK
 |none=>false
def Dv(k:Int)(ks:List Int):Bool:=
 if k=1∨k=2∨k=3∨k=19 then decide (ks.length=0)
 else if k=4 then ks.all BN
 else if k=5 then decide (1≤ks.length)&&ks.all BN
 else if k=7 then decide (2≤ks.length)&&ks.all BN
 else if k=8 then decide (ks.length=3)&&ks.all BN
 else if k=6∨k=11∨k=13∨k=14 then decide (ks.length=1)&&ks.all BN
 else if k=12∨k=15 then decide (ks.length≤1)&&ks.all BN
 else if k=9 then Hq BN ks
 else if k=10 then decide (2≤ks.length)&&(BN (ks.headD 0)&&(ks.drop 1).all Ga)
 else if k=16 then(decide (2≤ks.length)&&decide (ks.length≤3))&&(BN (ks.headD 0)&&(ks.drop 1).all Eh)
 else if k=17 then decide (ks.length=2)&&(BN (ks.headD 0)&&Eh (ks.getD 1 0))
 else if k=18 then ks.all EY
 else if k=20 then Hq Eh ks
 else if k=21 then ks.all EX
 else if k=22 then ks.all Hp
 else false
def Af(ns:List Nd)(c:Int):Nd:=ns.getD c.toNat ⟨0,[],[],false⟩
def Bt(ns:List Nd)(c:Int):Int:=(Af ns c).kind
def Da(ns:List Nd)(x:Nd)(i:Nat)(c:Int):Bool:=
 let y:=Af ns c
 if y.kind=5 then match y.kids with
  |[]=>false
  |h::_=>BM ns h&& !(decide (x.kind=10)&&(decide (0<i)&& !decide (Bt ns h=1)))
 else true
def Fk(ns:List Nd)(x:Nd):Bool:=(x.kids.zipIdx).all fun p=>Da ns x p.2 p.1
def Ea(l:List Int)(k:Int):Bool:=l.all fun c=>decide (0≤c)&&decide (c<k)
def HQ(k:Int):Bool:=Ko k||(EX k||decide (k=21))
def IJ(ns:List Nd)(k:Int)(x:Nd):Bool:=
 decide (x.kids.length≤12)&&(Fj x.kind x.text&&((Ea x.kids k&&decide x.kids.Nodup)&&(Dv x.kind (x.kids.map (Bt ns))&&(Fk ns x&&(HQ x.kind|| !x.blank)))))
def Ci(ns:List Nd)(k:Int):Bool:=BM ns k&&IJ ns k (Af ns k)
def mx(ds:List Int):List Int→Int→Int
 |[],d=>d
 |c::l,d=>mx ds l (max d (ds.getD c.toNat 0))
def CS(ns:List Nd):Nat→Option (List Int)
 |0=>some []
 |n+1=>match CS ns n with
  |none=>none
  |some ds=>if Ci ns n then(if 14≤mx ds (Af ns n).kids 0 then none else some (ds++[mx ds (Af ns n).kids 0+1])) else none
def BE(ns:List Nd)(k:Int):Int:=if BM ns k then match CS ns (k.toNat+1) with
    |none=>0
    |some ds=>ds.getD k.toNat 0
 else 0
def Cq(ns:List Nd):List Int:=ns.flatMap (·.kids)
def CB(ns:List Nd):Bool:=
 (decide (1≤ns.length)&&decide (ns.length≤300))&&(decide (Bt ns (ns.length-1)=22)&&(!decide (BE ns (ns.length-1)=0)&&((List.range (ns.length-1)).all fun i=>decide ((Cq ns).count (i:Int)=1))))
theorem DS{l:List Nd}{k:Int}:BM l k=true↔0≤k∧k<l.length:=by simp [BM]
theorem Bw{ns:List Nd}{c:Int}{x:Nd}(h:ns[c.toNat]? =some x):Af ns c=x:=by
 simp [Af,List.getD,h]
theorem QQ(ds:List Int):∀(l:List Int) (d:Int),d≤mx ds l d
 |[],d=>Int.le_refl d
 |c::l,d=>by unfold mx;have:=QQ ds l (max d (ds.getD c.toNat 0));omega
theorem Kp{ns:List Nd}:∀ {n:Nat} {ds:List Int},CS ns n=some ds→ds.length=n
 |0,ds,h=>by cases h;rfl
 |n+1,ds,h=>by
  unfold CS at h
  split at h
  ·cases h
  ·rename_i ds' hd
   split at h
   ·split at h
    ·cases h
    ·simp at h;rw[←h];simp [Kp hd]
   ·cases h
theorem Pc{ns:List Nd}:∀ {n:Nat} {ds:List Int},CS ns n=some ds→∀d∈ds,1≤d∧d≤14
 |0,ds,h=>by cases h;simp
 |n+1,ds,h=>by
  unfold CS at h
  split at h
  ·cases h
  ·rename_i ds' hd
   split at h
   ·split at h
    ·cases h
    ·simp at h;rw[←h]
     intro d hdm
     rcases List.mem_append.1 hdm with hdm|hdm
     ·exact Pc hd d hdm
     ·simp at hdm
      have:=QQ ds' (Af ns n).kids 0
      omega
   ·cases h
theorem ZG{ns:List Nd}:∀ {n:Nat} {ds:List Int},CS ns n=some ds→∀i,i<n→Ci ns i=true
 |0,ds,h,i,hi=>by omega
 |n+1,ds,h,i,hi=>by
  unfold CS at h
  split at h
  ·cases h
  ·rename_i ds' hd
   split at h
   ·rename_i hok
    by_cases e:i=n
    ·subst e;exact hok
    ·exact ZG hd i (by omega)
   ·cases h
theorem ZH{ns:List Nd}{n m:Nat}(h:CS ns n=none)(hm:n≤m):CS ns m=none:=by
 induction m with
 |zero=>obtain rfl:n=0:=by omega
        exact h
 |succ m ih=>
  by_cases e:n=m+1
  ·subst e;exact h
  ·unfold CS;rw[ih (by omega)]
theorem Pd{ns:List Nd}{k:Int}(h:BE ns k≠0):BM ns k=true∧(∃ds,CS ns (k.toNat+1)=some ds)∧∀i:Nat,(i:Int)≤k→Ci ns i=true:=by
 unfold BE at h
 split at h
 ·rename_i hn
  split at h
  ·exact(h rfl).elim
  ·rename_i ds hd
   exact⟨hn,⟨ds,hd⟩,fun i hi=>ZG hd i (by have:=DS.1 hn;omega)⟩
 ·exact(h rfl).elim
theorem a7g{ns:List Nd}{k:Int}:0≤BE ns k:=by
 unfold BE
 split
 ·split
  ·exact Int.le_refl 0
  ·rename_i ds hd
   rw[List.getD]
   cases h:ds[k.toNat]? with
   |none=>simp
   |some d=>have:=Pc hd d (List.mem_of_getElem? h);simp;omega
 ·exact Int.le_refl 0
theorem a7h{ns:List Nd}{k:Int}{ds:List Int}(hn:BM ns k=true)(h:CS ns (k.toNat+1)=some ds):BE ns k≠0:=by
 unfold BE
 rw[if_pos hn,h]
 have hl:=Kp h
 have:ds[k.toNat]? =some ds[k.toNat]:=by simp
 simp only[List.getD,this,Option.getD_some]
 have:=Pc h ds[k.toNat] (by simp)
 omega
theorem HR{ns:List Nd}{k:Int}(h:Ci ns k=true):(0≤k∧k<ns.length)∧(Af ns k).kids.length≤12∧Fj (Af ns k).kind (Af ns k).text=true∧
 (∀c∈(Af ns k).kids,0≤c∧c<k)∧(Af ns k).kids.Nodup∧Dv (Af ns k).kind ((Af ns k).kids.map (Bt ns))=true∧Fk ns (Af ns k)=true:=by
 simp only[Ci,IJ,Bool.and_eq_true,decide_eq_true_eq,Ea,List.all_eq_true] at h
 exact⟨DS.1 h.1,h.2.1,h.2.2.1,h.2.2.2.1.1,h.2.2.2.1.2,h.2.2.2.2.1,h.2.2.2.2.2.1⟩
end Go.My
end
section
namespace Go.My
open Go.Eng Go.Proofs Go.RowKit
variable {G:GInv}
def CM(s:List UInt8)(c:UInt8):Int:=match DY (fun d=>decide (d.toNat=c.toNat)) s with
 |none=> -1
 |some i=>i
theorem ZI:∀(s:List UInt8) (c:UInt8),Lib.indexByte s c=CM s c
 |[],c=>rfl
 |b::s,c=>by
  unfold Lib.indexByte CM DY
  have e:(b==c)=decide (b.toNat=c.toNat):=by
   rw[Bool.eq_iff_iff];simp [UInt8.toNat_inj]
  rw[e]
  by_cases h:b.toNat=c.toNat
  ·simp [h]
  ·have ih:=ZI s c
   unfold CM at ih
   simp only[h,decide_false,Bool.false_eq_true,if_false]
   rw[ih]
   cases hh:DY (fun d=>decide (d.toNat=c.toNat)) s with
   |none=>simp
   |some i=>simp
set_option maxHeartbeats 1000000 in
set_option maxRecDepth 100000 in
theorem a7i(s:ByteArray)(c:Int)(w:World):
 Calls Tryz.prog 212 #[.string s,.int .u8 c] w fun e w'=>e= .returned (.int .i64 (Lib.indexByte s.data.toList c.toNat.toUInt8))∧w'=w:=by
 go_enter Tryz.func212,Tryz.ntmps212
 go_wp2
 rw[run_callFunc_extern Tryz.func228 (by kernel_rfl) (by kernel_rfl) (by kernel_rfl) (e:=Extern.BytealgIndexByte.indexByte) (by kernel_rfl),Lib.run_indexByteString]
 simp only[Result.andThen]
 rw[Oper.upon_value]
 go_wp2
 go_ret
 exact⟨rfl,rfl⟩
def Nk:Sig:= {X:=List UInt8×UInt8,args:=fun x=>[.str x.1,.int .u8 x.2.toNat],pre:=fun _=>True,Y:=Unit,post:=fun _ _=>True,res:=fun x _=> .int .i64 (CM x.1 x.2),outs:=fun _ _=>[.top,.top],keep:=false}
theorem Vl:Ai G Tryz.prog 212 Nk:=by
 refine⟨⟨⟨_,Tryz.func212,by kernel_rfl,by kernel_rfl⟩,fun x y _ _=>⟨trivial,trivial,trivial,trivial⟩⟩,?_⟩
 rintro⟨l,c⟩ _ Z w vals A _ h hA _
 simp only[Nk,AY,Am] at h
 obtain⟨v,cs,A1,A2,rfl,_,⟨rfl,_⟩,v',cs',A3,A4,rfl,_,⟨rfl,_⟩,rfl,_⟩:=h
 refine(a7i ⟨l.toArray⟩ c.toNat w).mono ?_
 rintro e w' ⟨rfl,rfl⟩
 refine⟨(),_,Z,(fun _=>False),trivial,rfl,?_,⟨rfl,rfl,rfl,Nat.le_refl _,fun _ _ _=>⟨rfl,Iff.rfl⟩,fun _ h=>h.elim⟩⟩
 simp only[Nk,AY,Am]
 refine⟨_,_,_,_,rfl,BZ _,⟨?_,AS⟩,_,_,_,_,rfl,BZ _,AS,_,_,_,_,rfl,BZ _,AS,rfl,AS⟩
 rw[ZI];simp
def QR:Sig:= {X:=List UInt8,args:=fun x=>[.str x,.int .u8 39],pre:=fun _=>True,Y:=Unit,post:=fun _ _=>True,res:=fun x _=> .int .i64 (CM x 39),outs:=fun _ _=>[.top,.top],keep:=false}
theorem a7j:Ai G Tryz.prog 212 QR:=⟨⟨(Vl (G:=G)).1.1,fun x y _ _=>⟨trivial,trivial,trivial,trivial⟩⟩,fun x hx=>(Vl (G:=G)).2 (x,39) trivial⟩
def Nl:Sig:= {X:=List UInt8,args:=fun x=>[.str x,.int .u8 39],pre:=fun x=>True,Y:=Unit,post:=fun x y=>True,res:=fun x y=> .int .i64 (CM x 39),outs:=fun x y=>[.top,.top],keep:=false}
theorem a7k:Ai G Tryz.prog 191 Nl:=
 vcFun_okP [(212,0,QR)] [] false (fun x=>[]) Tryz.func191 rfl (by decide) ⟨a7j,trivial⟩ (fun(x:List UInt8)=>(∀(y:Unit),True→True∧True∧True∧True)∧cA QR [.str x,AV.int IntKind.u8 (39:Int)] fun x_1 y=>rA Nl x [.int .i64 (CM x_1 (39:UInt8)),.top,.top]) (fun x=>by kernel_rfl) fun(x:List UInt8) (hx:True)=>(by
 dsimp only[cA,rA,QR,Nl,Au,Az,mvL,lnL,mvE,lnE]
 (repeat' first|(with_reducible first|rfl|exact True.intro|apply AK|apply And.intro|((first|apply AA|apply AI|apply AB|apply AJ)<;>intro _))|(apply Ax<;>intro _)|apply AH|refine Ae () ?_ ?_|((first|apply AO|apply AN|apply AM|apply AL|apply AG|apply AF|apply AE|apply AD|apply AC)<;>try dsimp only)|apply Ae|(refine Prod.forall.2 ?_;intro _;try dsimp only)|(intro _;try dsimp only))<;>(try dsimp only at*)<;>(try simp only[AR,List.length_cons,List.length_nil])<;>(try omega))
def Jn:Sig:= {X:=List UInt8×List UInt8,args:=fun x=>[.str x.1,.str x.2],pre:=fun x=>x.2.length=1,Y:=Unit,post:=fun x y=>True,res:=fun x y=> .int .i64 (CM x.1 (x.2.headD 0)),outs:=fun x y=>[.top,.top],keep:=false}
theorem a7l:Ai G Tryz.prog 232 Jn:=
 vcFun_okP [(212,0,Nk)] [] false (fun x=>[]) Tryz.func232 rfl (by decide) ⟨Vl,trivial⟩ (fun(x:List UInt8×List UInt8)=>(∀(y:Unit),True→True∧True∧True∧True)∧Aa ((↑(List.length x.2):Int)==(0:Int)) (rA Jn x [.int .i64 (0:Int),.top,.top]) (Aa (x.2==x.1) (rA Jn x [.int .i64 (0:Int),.top,.top]) (Aa ((↑(List.length x.2):Int)==(1:Int)) (((0:Int)≤(0:Int)∧(0:Int)<(↑(List.length x.2):Int))∧∀(c:UInt8),x.2[(0:Nat)]? =some c→cA Nk [.str x.1,AV.int IntKind.u8 (↑(UInt8.toNat c):Int)] fun x_1 y=>rA Jn x [.int .i64 (CM x_1.1 x_1.2),.top,.top]) (Aa (decide ((↑(List.length x.2):Int)≥(↑(List.length x.1):Int))) (rA Jn x [.int .i64 (-1:Int),.top,.top]) False)))) (fun x=>by kernel_rfl) fun(x:List UInt8×List UInt8) (hx:x.2.length=1)=>(by
 dsimp only[cA,rA,Nk,Jn,Au,Az,mvL,lnL,mvE,lnE]
 (repeat' first|(with_reducible first|rfl|exact True.intro|apply AK|apply And.intro|((first|apply AA|apply AI|apply AB|apply AJ)<;>intro _))|(apply Ax<;>intro _)|apply AH|refine Ae () ?_ ?_|((first|apply AO|apply AN|apply AM|apply AL|apply AG|apply AF|apply AE|apply AD|apply AC)<;>try dsimp only)|apply Ae|(refine Prod.forall.2 ?_;intro _;try dsimp only)|(intro _;try dsimp only))<;>(try dsimp only at*)<;>(try simp only[AR,List.length_cons,List.length_nil])<;>(try omega)
 ·rename_i _ h;rw[←h];match x.2,hx with
  |[c],_=>simp [CM,DY]
 ·rename_i c hc _ _
  match x.2,hx,hc with
  |[d],_,hc=>simp at hc;rw[←hc];rfl)
def Nm:Sig:= {X:=List UInt8×List UInt8,args:=fun x=>[.str x.1,.str x.2],pre:=fun x=>x.2.length=1,Y:=Unit,post:=fun x y=>True,res:=fun x y=> .int .i64 (CM x.1 (x.2.headD 0)),outs:=fun x y=>[.top,.top],keep:=false}
theorem a7m:Ai G Tryz.prog 217 Nm:=
 vcFun_okP [(232,0,Jn)] [] false (fun x=>[]) Tryz.func217 rfl (by decide) ⟨a7l,trivial⟩ (fun(x:List UInt8×List UInt8)=>(∀(y:Unit),True→True∧True∧True∧True)∧cA Jn [.str x.1,.str x.2] fun x_1 y=>rA Nm x [.int .i64 (CM x_1.1 (List.headD x_1.2 (0:UInt8))),.top,.top]) (fun x=>by kernel_rfl) fun(x:List UInt8×List UInt8) (hx:x.2.length=1)=>(by
 dsimp only[cA,rA,Nm,Jn,Au,Az,mvL,lnL,mvE,lnE]
 (repeat' first|(with_reducible first|rfl|exact True.intro|apply AK|apply And.intro|((first|apply AA|apply AI|apply AB|apply AJ)<;>intro _))|(apply Ax<;>intro _)|apply AH|refine Ae () ?_ ?_|((first|apply AO|apply AN|apply AM|apply AL|apply AG|apply AF|apply AE|apply AD|apply AC)<;>try dsimp only)|apply Ae|(refine Prod.forall.2 ?_;intro _;try dsimp only)|(intro _;try dsimp only))<;>(try dsimp only at*)<;>(try simp only[AR,List.length_cons,List.length_nil])<;>(try omega))
def Nn:Sig:= {X:=List UInt8×List UInt8,args:=fun x=>[.str x.1,.str x.2],pre:=fun x=>x.2.length=1,Y:=Unit,post:=fun x y=>True,res:=fun x y=> .bool (decide (CM x.1 (x.2.headD 0)≥0)),outs:=fun x y=>[.top,.top],keep:=false}
theorem a7n:Ai G Tryz.prog 194 Nn:=
 vcFun_okP [(217,0,Nm)] [] false (fun x=>[]) Tryz.func194 rfl (by decide) ⟨a7m,trivial⟩ (fun(x:List UInt8×List UInt8)=>(∀(y:Unit),True→True∧True∧True∧True)∧cA Nm [.str x.1,.str x.2] fun x_1 y=>rA Nn x [.bool (decide (CM x_1.1 (List.headD x_1.2 (0:UInt8))≥(0:Int))),.top,.top]) (fun x=>by kernel_rfl) fun(x:List UInt8×List UInt8) (hx:x.2.length=1)=>(by
 dsimp only[cA,rA,Nn,Nm,Au,Az,mvL,lnL,mvE,lnE]
 (repeat' first|(with_reducible first|rfl|exact True.intro|apply AK|apply And.intro|((first|apply AA|apply AI|apply AB|apply AJ)<;>intro _))|(apply Ax<;>intro _)|apply AH|refine Ae () ?_ ?_|((first|apply AO|apply AN|apply AM|apply AL|apply AG|apply AF|apply AE|apply AD|apply AC)<;>try dsimp only)|apply Ae|(refine Prod.forall.2 ?_;intro _;try dsimp only)|(intro _;try dsimp only))<;>(try dsimp only at*)<;>(try simp only[AR,List.length_cons,List.length_nil])<;>(try omega))
def Ln:Sig:= {X:=List UInt8×List UInt8,args:=fun x=>[.str x.1,.str x.2],pre:=fun x=>x.2.length<2^62∧x.1.length<2^63,Y:=Unit,post:=fun x y=>True,res:=fun x y=> .bool (x.1.take x.2.length==x.2),outs:=fun x y=>[.top,.top],keep:=false}
theorem a7o:Ai G Tryz.prog 192 Ln:=
 vcFun_okP [] [] false (fun x=>[]) Tryz.func192 rfl (by decide) trivial (fun(x:List UInt8×List UInt8)=>(∀(y:Unit),True→True∧True∧True∧True)∧Aa (decide ((↑(List.length x.1):Int)≥(↑(List.length x.2):Int))) (((0:Int)≤(0:Int)∧(0:Int)≤(↑(List.length x.2):Int)∧(↑(List.length x.2):Int)≤(↑(List.length x.1):Int))∧rA Ln x [.bool (List.take (Int.toNat (↑(List.length x.2):Int)) x.1==x.2),.top,.top]) (rA Ln x [.bool false,.top,.top])) (fun x=>by kernel_rfl) fun(x:List UInt8×List UInt8) (hx:x.2.length<2^62∧x.1.length<2^63)=>(by
 dsimp only[rA,Ln,Au,Az]
 obtain⟨h1,h2⟩:=hx
 (repeat' first|(with_reducible first|rfl|exact True.intro|apply AK|apply And.intro|((first|apply AA|apply AI|apply AB|apply AJ)<;>intro _))|(apply Ax<;>intro _)|apply AH|refine Ae () ?_ ?_|((first|apply AO|apply AN|apply AM|apply AL|apply AG|apply AF|apply AE|apply AD|apply AC)<;>try dsimp only)|apply Ae|(refine Prod.forall.2 ?_;intro _;try dsimp only)|(intro _;try dsimp only))<;>(try dsimp only at*)<;>(try simp only[AR,List.length_cons,List.length_nil])<;>(try omega)
 ·simp
 ·rename_i h;rw[eq_comm,beq_eq_false_iff_ne];intro e;have:=congrArg List.length e;simp at this;omega)
def No:Sig:= {X:=List UInt8×List UInt8,args:=fun x=>[.str x.1,.str x.2],pre:=fun x=>x.2.length<2^62∧x.1.length<2^63,Y:=Unit,post:=fun x y=>True,res:=fun x y=> .bool (x.1.take x.2.length==x.2),outs:=fun x y=>[.top,.top],keep:=false}
theorem a7p:Ai G Tryz.prog 164 No:=
 vcFun_okP [(192,0,Ln)] [] false (fun x=>[]) Tryz.func164 rfl (by decide) ⟨a7o,trivial⟩ (fun(x:List UInt8×List UInt8)=>(∀(y:Unit),True→True∧True∧True∧True)∧cA Ln [.str x.1,.str x.2] fun x_1 y=>rA No x [.bool (List.take (List.length x_1.2) x_1.1==x_1.2),.top,.top]) (fun x=>by kernel_rfl) fun(x:List UInt8×List UInt8) (hx:x.2.length<2^62∧x.1.length<2^63)=>(by
 dsimp only[cA,rA,No,Ln,Au,Az,mvL,lnL,mvE,lnE]
 obtain⟨h1,h2⟩:=hx
 (repeat' first|(with_reducible first|rfl|exact True.intro|apply AK|apply And.intro|((first|apply AA|apply AI|apply AB|apply AJ)<;>intro _))|(apply Ax<;>intro _)|apply AH|refine Ae () ?_ ?_|((first|apply AO|apply AN|apply AM|apply AL|apply AG|apply AF|apply AE|apply AD|apply AC)<;>try dsimp only)|apply Ae|(refine Prod.forall.2 ?_;intro _;try dsimp only)|(intro _;try dsimp only))<;>(try dsimp only at*)<;>(try simp only[AR,List.length_cons,List.length_nil])<;>(try omega))
end Go.My
end
section
namespace Go.My
open Go.Eng Go.Proofs
variable {G:GInv}
def Er:Sig:= {X:=Int×Int×Int,args:=fun x=>[.int .i64 x.1,.int .i64 x.2.1,.int .i64 x.2.2],pre:=fun x=>True,Y:=Unit,post:=fun x y=>True,res:=fun x y=> .bool (inn x.1 x.2.1 x.2.2),outs:=fun x y=>[.top,.top,.top],keep:=false}
theorem Pe:Ai G Tryz.prog 66 Er:=
 vcFun_okP [] [] false (fun x=>[]) Tryz.func66 rfl (by decide) trivial (fun(x:Int×Int×Int)=>(∀(y:Unit),True→True∧True∧True∧True∧True)∧Aa (decide (x.1≥x.2.1)) (rA Er x [.bool (decide (x.1≤x.2.2)),.top,.top,.top]) (rA Er x [.bool false,.top,.top,.top])) (fun x=>by kernel_rfl) fun(x:Int×Int×Int) (hx:True)=>(by
 dsimp only[rA,Er,Au,Az]
 (repeat' first|(with_reducible first|rfl|exact True.intro|apply AK|apply And.intro|((first|apply AA|apply AI|apply AB|apply AJ)<;>intro _))|(apply Ax<;>intro _)|apply AH|refine Ae () ?_ ?_|((first|apply AO|apply AN|apply AM|apply AL|apply AG|apply AF|apply AE|apply AD|apply AC)<;>try dsimp only)|apply Ae|(refine Prod.forall.2 ?_;intro _;try dsimp only)|(intro _;try dsimp only))<;>(try dsimp only at*)<;>(try simp only[AR,List.length_cons,List.length_nil])<;>(try omega)
 all_goals simp [inn, *])
def Db:Sig:= {X:=Int×Int×Int,args:=fun x=>[.int .i64 x.1,.int .i64 x.2.1,.int .i64 x.2.2],pre:=fun x=>True,Y:=Unit,post:=fun x y=>True,res:=fun x y=> .bool (inn x.1 x.2.1 x.2.2),outs:=fun x y=>[.top,.top,.top],keep:=false}
theorem Lo:Ai G Tryz.prog 46 Db:=
 vcFun_okP [] [] false (fun x=>[]) Tryz.func46 rfl (by decide) trivial (fun(x:Int×Int×Int)=>(∀(y:Unit),True→True∧True∧True∧True∧True)∧Aa (decide (x.1≥x.2.1)) (rA Db x [.bool (decide (x.1≤x.2.2)),.top,.top,.top]) (rA Db x [.bool false,.top,.top,.top])) (fun x=>by kernel_rfl) fun(x:Int×Int×Int) (hx:True)=>(by
 dsimp only[rA,Db,Au,Az]
 (repeat' first|(with_reducible first|rfl|exact True.intro|apply AK|apply And.intro|((first|apply AA|apply AI|apply AB|apply AJ)<;>intro _))|(apply Ax<;>intro _)|apply AH|refine Ae () ?_ ?_|((first|apply AO|apply AN|apply AM|apply AL|apply AG|apply AF|apply AE|apply AD|apply AC)<;>try dsimp only)|apply Ae|(refine Prod.forall.2 ?_;intro _;try dsimp only)|(intro _;try dsimp only))<;>(try dsimp only at*)<;>(try simp only[AR,List.length_cons,List.length_nil])<;>(try omega)
 all_goals simp [inn, *])
def GJ:Sig:= {X:=UInt8,args:=fun x=>[.int .u8 x.toNat],pre:=fun x=>True,Y:=Unit,post:=fun x y=>True,res:=fun x y=> .bool (Bh x),outs:=fun x y=>[.top],keep:=false}
theorem Vm:Ai G Tryz.prog 162 GJ:=
 vcFun_okP [] [] false (fun x=>[]) Tryz.func162 rfl (by decide) trivial (fun(x:UInt8)=>(∀(y:Unit),True→True∧True∧True)∧Aa (decide ((↑(UInt8.toNat x):Int)≥(48:Int))) (rA GJ x [.bool (decide ((↑(UInt8.toNat x):Int)≤(57:Int))),.top]) (rA GJ x [.bool false,.top])) (fun x=>by kernel_rfl) fun(x:UInt8) (hx:True)=>(by
 dsimp only[rA,GJ,Au,Az]
 (repeat' first|(with_reducible first|rfl|exact True.intro|apply AK|apply And.intro|((first|apply AA|apply AI|apply AB|apply AJ)<;>intro _))|(apply Ax<;>intro _)|apply AH|refine Ae () ?_ ?_|((first|apply AO|apply AN|apply AM|apply AL|apply AG|apply AF|apply AE|apply AD|apply AC)<;>try dsimp only)|apply Ae|(refine Prod.forall.2 ?_;intro _;try dsimp only)|(intro _;try dsimp only))<;>(try dsimp only at*)<;>(try simp only[AR,List.length_cons,List.length_nil])<;>(try omega)
 all_goals(rw[Bool.eq_iff_iff];simp only[Bh,Bool.and_eq_true,Bool.or_eq_true,decide_eq_true_eq,Bool.not_eq_true',decide_eq_false_iff_not,bne_iff_ne,ne_eq,beq_iff_eq,Bool.not_not,reduceCtorEq,Bool.false_eq_true,true_iff,false_iff,iff_true,iff_false,not_true,not_false_eq_true]<;>omega))
def FA:Sig:= {X:=UInt8,args:=fun x=>[.int .u8 x.toNat],pre:=fun x=>True,Y:=Unit,post:=fun x y=>True,res:=fun x y=> .bool (Bh x),outs:=fun x y=>[.top],keep:=false}
theorem Vn:Ai G Tryz.prog 86 FA:=
 vcFun_okP [] [] false (fun x=>[]) Tryz.func86 rfl (by decide) trivial (fun(x:UInt8)=>(∀(y:Unit),True→True∧True∧True)∧Aa (decide ((↑(UInt8.toNat x):Int)≥(48:Int))) (rA FA x [.bool (decide ((↑(UInt8.toNat x):Int)≤(57:Int))),.top]) (rA FA x [.bool false,.top])) (fun x=>by kernel_rfl) fun(x:UInt8) (hx:True)=>(by
 dsimp only[rA,FA,Au,Az]
 (repeat' first|(with_reducible first|rfl|exact True.intro|apply AK|apply And.intro|((first|apply AA|apply AI|apply AB|apply AJ)<;>intro _))|(apply Ax<;>intro _)|apply AH|refine Ae () ?_ ?_|((first|apply AO|apply AN|apply AM|apply AL|apply AG|apply AF|apply AE|apply AD|apply AC)<;>try dsimp only)|apply Ae|(refine Prod.forall.2 ?_;intro _;try dsimp only)|(intro _;try dsimp only))<;>(try dsimp only at*)<;>(try simp only[AR,List.length_cons,List.length_nil])<;>(try omega)
 all_goals(rw[Bool.eq_iff_iff];simp only[Bh,Bool.and_eq_true,Bool.or_eq_true,decide_eq_true_eq,Bool.not_eq_true',decide_eq_false_iff_not,bne_iff_ne,ne_eq,beq_iff_eq,Bool.not_not,reduceCtorEq,Bool.false_eq_true,true_iff,false_iff,iff_true,iff_false,not_true,not_false_eq_true]<;>omega))
def FB:Sig:= {X:=UInt8,args:=fun x=>[.int .u8 x.toNat],pre:=fun x=>True,Y:=Unit,post:=fun x y=>True,res:=fun x y=> .bool (Cw x),outs:=fun x y=>[.top],keep:=false}
theorem ZJ:Ai G Tryz.prog 159 FB:=
 vcFun_okP [] [] false (fun x=>[]) Tryz.func159 rfl (by decide) trivial (fun(x:UInt8)=>(∀(y:Unit),True→True∧True∧True)∧Aa (decide ((↑(UInt8.toNat x):Int)≥(97:Int))) (Aa (decide ((↑(UInt8.toNat x):Int)≤(122:Int))) (rA FB x [.bool true,.top]) (Aa (decide ((↑(UInt8.toNat x):Int)≥(65:Int))) (Aa (decide ((↑(UInt8.toNat x):Int)≤(90:Int))) (rA FB x [.bool true,.top]) (rA FB x [.bool ((↑(UInt8.toNat x):Int)==(95:Int)),.top])) (rA FB x [.bool ((↑(UInt8.toNat x):Int)==(95:Int)),.top]))) (Aa (decide ((↑(UInt8.toNat x):Int)≥(65:Int))) (Aa (decide ((↑(UInt8.toNat x):Int)≤(90:Int))) (rA FB x [.bool true,.top]) (rA FB x [.bool ((↑(UInt8.toNat x):Int)==(95:Int)),.top])) (rA FB x [.bool ((↑(UInt8.toNat x):Int)==(95:Int)),.top]))) (fun x=>by kernel_rfl) fun(x:UInt8) (hx:True)=>(by
 dsimp only[rA,FB,Au,Az]
 (repeat' first|(with_reducible first|rfl|exact True.intro|apply AK|apply And.intro|((first|apply AA|apply AI|apply AB|apply AJ)<;>intro _))|(apply Ax<;>intro _)|apply AH|refine Ae () ?_ ?_|((first|apply AO|apply AN|apply AM|apply AL|apply AG|apply AF|apply AE|apply AD|apply AC)<;>try dsimp only)|apply Ae|(refine Prod.forall.2 ?_;intro _;try dsimp only)|(intro _;try dsimp only))<;>(try dsimp only at*)<;>(try simp only[AR,List.length_cons,List.length_nil])<;>(try omega)
 all_goals(rw[Bool.eq_iff_iff];simp only[Cw,Bool.and_eq_true,Bool.or_eq_true,decide_eq_true_eq,Bool.not_eq_true',decide_eq_false_iff_not,bne_iff_ne,ne_eq,beq_iff_eq,Bool.not_not,reduceCtorEq,Bool.false_eq_true,true_iff,false_iff,iff_true,iff_false,not_true,not_false_eq_true]<;>omega))
def EZ:Sig:= {X:=UInt8,args:=fun x=>[.int .u8 x.toNat],pre:=fun x=>True,Y:=Unit,post:=fun x y=>True,res:=fun x y=> .bool (Cw x),outs:=fun x y=>[.top],keep:=false}
theorem ZK:Ai G Tryz.prog 85 EZ:=
 vcFun_okP [] [] false (fun x=>[]) Tryz.func85 rfl (by decide) trivial (fun(x:UInt8)=>(∀(y:Unit),True→True∧True∧True)∧Aa (decide ((↑(UInt8.toNat x):Int)≥(97:Int))) (Aa (decide ((↑(UInt8.toNat x):Int)≤(122:Int))) (rA EZ x [.bool true,.top]) (Aa (decide ((↑(UInt8.toNat x):Int)≥(65:Int))) (Aa (decide ((↑(UInt8.toNat x):Int)≤(90:Int))) (rA EZ x [.bool true,.top]) (rA EZ x [.bool ((↑(UInt8.toNat x):Int)==(95:Int)),.top])) (rA EZ x [.bool ((↑(UInt8.toNat x):Int)==(95:Int)),.top]))) (Aa (decide ((↑(UInt8.toNat x):Int)≥(65:Int))) (Aa (decide ((↑(UInt8.toNat x):Int)≤(90:Int))) (rA EZ x [.bool true,.top]) (rA EZ x [.bool ((↑(UInt8.toNat x):Int)==(95:Int)),.top])) (rA EZ x [.bool ((↑(UInt8.toNat x):Int)==(95:Int)),.top]))) (fun x=>by kernel_rfl) fun(x:UInt8) (hx:True)=>(by
 dsimp only[rA,EZ,Au,Az]
 (repeat' first|(with_reducible first|rfl|exact True.intro|apply AK|apply And.intro|((first|apply AA|apply AI|apply AB|apply AJ)<;>intro _))|(apply Ax<;>intro _)|apply AH|refine Ae () ?_ ?_|((first|apply AO|apply AN|apply AM|apply AL|apply AG|apply AF|apply AE|apply AD|apply AC)<;>try dsimp only)|apply Ae|(refine Prod.forall.2 ?_;intro _;try dsimp only)|(intro _;try dsimp only))<;>(try dsimp only at*)<;>(try simp only[AR,List.length_cons,List.length_nil])<;>(try omega)
 all_goals(rw[Bool.eq_iff_iff];simp only[Cw,Bool.and_eq_true,Bool.or_eq_true,decide_eq_true_eq,Bool.not_eq_true',decide_eq_false_iff_not,bne_iff_ne,ne_eq,beq_iff_eq,Bool.not_not,reduceCtorEq,Bool.false_eq_true,true_iff,false_iff,iff_true,iff_false,not_true,not_false_eq_true]<;>omega))
def Lp:Sig:= {X:=UInt8,args:=fun x=>[.int .u8 x.toNat],pre:=fun x=>True,Y:=Unit,post:=fun x y=>True,res:=fun x y=> .bool (BP x),outs:=fun x y=>[.top],keep:=false}
theorem a7q:Ai G Tryz.prog 161 Lp:=
 vcFun_okP [(159,0,FB),(162,0,GJ)] [] false (fun x=>[]) Tryz.func161 rfl (by decide) ⟨ZJ,Vm,trivial⟩ (fun(x:UInt8)=>(∀(y:Unit),True→True∧True∧True)∧cA FB [AV.int IntKind.u8 (↑(UInt8.toNat x):Int)] fun x_1 y=>Aa (Cw x_1) (rA Lp x [.bool true,.top]) (cA GJ [AV.int IntKind.u8 (↑(UInt8.toNat x):Int)] fun x_2 y=>rA Lp x [.bool (Bh x_2),.top])) (fun x=>by kernel_rfl) fun(x:UInt8) (hx:True)=>(by
 dsimp only[cA,rA,GJ,FB,Lp,Au,Az,mvL,lnL,mvE,lnE]
 (repeat' first|(with_reducible first|rfl|exact True.intro|apply AK|apply And.intro|((first|apply AA|apply AI|apply AB|apply AJ)<;>intro _))|(apply Ax<;>intro _)|apply AH|refine Ae () ?_ ?_|((first|apply AO|apply AN|apply AM|apply AL|apply AG|apply AF|apply AE|apply AD|apply AC)<;>try dsimp only)|apply Ae|(refine Prod.forall.2 ?_;intro _;try dsimp only)|(intro _;try dsimp only))<;>(try dsimp only at*)<;>(try simp only[AR,List.length_cons,List.length_nil])<;>(try omega)
 all_goals simp [BP, *])
def IK:Sig:= {X:=UInt8,args:=fun x=>[.int .u8 x.toNat],pre:=fun x=>True,Y:=Unit,post:=fun x y=>True,res:=fun x y=> .bool (Cm x),outs:=fun x y=>[.top],keep:=false}
theorem ZL:Ai G Tryz.prog 107 IK:=
 vcFun_okP [] [] false (fun x=>[]) Tryz.func107 rfl (by decide) trivial (fun(x:UInt8)=>(∀(y:Unit),True→True∧True∧True)∧Aa (decide ((↑(UInt8.toNat x):Int)≥(32:Int))) (rA IK x [.bool (decide ((↑(UInt8.toNat x):Int)≤(126:Int))),.top]) (rA IK x [.bool false,.top])) (fun x=>by kernel_rfl) fun(x:UInt8) (hx:True)=>(by
 dsimp only[rA,IK,Au,Az]
 (repeat' first|(with_reducible first|rfl|exact True.intro|apply AK|apply And.intro|((first|apply AA|apply AI|apply AB|apply AJ)<;>intro _))|(apply Ax<;>intro _)|apply AH|refine Ae () ?_ ?_|((first|apply AO|apply AN|apply AM|apply AL|apply AG|apply AF|apply AE|apply AD|apply AC)<;>try dsimp only)|apply Ae|(refine Prod.forall.2 ?_;intro _;try dsimp only)|(intro _;try dsimp only))<;>(try dsimp only at*)<;>(try simp only[AR,List.length_cons,List.length_nil])<;>(try omega)
 all_goals(rw[Bool.eq_iff_iff];simp only[Cm,Bool.and_eq_true,Bool.or_eq_true,decide_eq_true_eq,Bool.not_eq_true',decide_eq_false_iff_not,bne_iff_ne,ne_eq,beq_iff_eq,Bool.not_not,reduceCtorEq,Bool.false_eq_true,true_iff,false_iff,iff_true,iff_false,not_true,not_false_eq_true]<;>omega))
def Np:Sig:= {X:=UInt8,args:=fun x=>[.int .u8 x.toNat],pre:=fun x=>True,Y:=Unit,post:=fun x y=>True,res:=fun x y=> .bool (Ch x),outs:=fun x y=>[.top],keep:=false}
theorem a7r:Ai G Tryz.prog 165 Np:=
 vcFun_okP [] [] false (fun x=>[]) Tryz.func165 rfl (by decide) trivial (fun(x:UInt8)=>(∀(y:Unit),True→True∧True∧True)∧rA Np x [.bool ((↑(UInt8.toNat x):Int) != (10:Int)),.top]) (fun x=>by kernel_rfl) fun(x:UInt8) (hx:True)=>(by
 dsimp only[rA,Np,Au,Az]
 (repeat' first|(with_reducible first|rfl|exact True.intro|apply AK|apply And.intro|((first|apply AA|apply AI|apply AB|apply AJ)<;>intro _))|(apply Ax<;>intro _)|apply AH|refine Ae () ?_ ?_|((first|apply AO|apply AN|apply AM|apply AL|apply AG|apply AF|apply AE|apply AD|apply AC)<;>try dsimp only)|apply Ae|(refine Prod.forall.2 ?_;intro _;try dsimp only)|(intro _;try dsimp only))<;>(try dsimp only at*)<;>(try simp only[AR,List.length_cons,List.length_nil])<;>(try omega)
 all_goals(rw[Bool.eq_iff_iff];simp only[Ch,Bool.and_eq_true,Bool.or_eq_true,decide_eq_true_eq,Bool.not_eq_true',decide_eq_false_iff_not,bne_iff_ne,ne_eq,beq_iff_eq,Bool.not_not,reduceCtorEq,Bool.false_eq_true,true_iff,false_iff,iff_true,iff_false,not_true,not_false_eq_true]<;>omega))
def Ei(p:UInt8→Bool)(x:List UInt8)(rs:Int→List (Nat×AV)):LS:= {
 ι:=Int,inv:=fun i=>0≤i∧i≤x.length∧∀e∈x.take i.toNat,p e=true,regs:=rs,als:=[],meas:=fun i=>x.length-i.toNat}
def HS:Sig:= {X:=List UInt8,args:=fun x=>[.str x],pre:=fun x=>x.length<2^63,Y:=Unit,post:=fun x y=>True,res:=fun x y=> .bool (x.all Cm),outs:=fun x y=>[.top],keep:=false}
theorem ZN:Ai G Tryz.prog 167 HS:=
 vcFun_okP [] [] false (fun x=>[(2,Ei Cm x fun i=>[(0,.str x),(3,.int .i64 i)])]) Tryz.func167 rfl (by decide) trivial (fun(x:List UInt8)=>(∀(y:Unit),True→True∧True∧True)∧eA (Ei Cm x fun(i:Int)=>[((0:Nat),.str x),((3:Nat),.int .i64 i)]) [.str x,.int .i64 (0:Int)]∧∀(i:Int),((0:Int)≤i∧i≤(↑(List.length x):Int)∧∀(e:UInt8),e∈List.take (Int.toNat i) x→Cm e=true)→Aa (decide (i<(↑(List.length x):Int))) (((0:Int)≤i∧i<(↑(List.length x):Int))∧∀(c:UInt8),x[Int.toNat i]? =some c→Aa (decide ((↑(UInt8.toNat c):Int)<(32:Int))) (rA HS x [.bool false,.top]) (((0:Int)≤i∧i<(↑(List.length x):Int))∧∀(c:UInt8),x[Int.toNat i]? =some c→Aa (decide ((↑(UInt8.toNat c):Int)>(126:Int))) (rA HS x [.bool false,.top]) (inR IntKind.i64 (i+(1:Int))∧eN (Ei Cm x fun(i:Int)=>[((0:Nat),.str x),((3:Nat),.int .i64 i)]) i [.str x,.int .i64 (i+(1:Int))]))) (rA HS x [.bool true,.top])) (fun x=>by kernel_rfl) fun(x:List UInt8) (hx:x.length<2^63)=>(by
 dsimp only[eA,eN,Ei,rA,HS,Au,Az,Bq]
 (repeat' first|(with_reducible first|rfl|exact True.intro|apply AK|apply And.intro|((first|apply AA|apply AI|apply AB|apply AJ)<;>intro _))|(apply Ax<;>intro _)|apply AH|refine Ae () ?_ ?_|((first|apply AO|apply AN|apply AM|apply AL|apply AG|apply AF|apply AE|apply AD|apply AC)<;>try dsimp only)|apply Ae|(refine Prod.forall.2 ?_;intro _;try dsimp only)|(intro _;try dsimp only))<;>(try dsimp only at*)<;>(try simp only[AR,List.length_cons,List.length_nil])<;>(try omega)
 ·rename_i h;simp at h
 ·rename_i i hi hl c hc h;exact(QO hc (by(rw[Bool.eq_iff_iff];simp only[Cm,Bool.and_eq_true,Bool.or_eq_true,decide_eq_true_eq,Bool.not_eq_true',decide_eq_false_iff_not,bne_iff_ne,ne_eq,beq_iff_eq,Bool.not_not,reduceCtorEq,Bool.false_eq_true,true_iff,false_iff,iff_true,iff_false,not_true,not_false_eq_true]<;>omega))).symm
 ·rename_i i hi hl c hc h d hd h2;exact(QO hd (by(rw[Bool.eq_iff_iff];simp only[Cm,Bool.and_eq_true,Bool.or_eq_true,decide_eq_true_eq,Bool.not_eq_true',decide_eq_false_iff_not,bne_iff_ne,ne_eq,beq_iff_eq,Bool.not_not,reduceCtorEq,Bool.false_eq_true,true_iff,false_iff,iff_true,iff_false,not_true,not_false_eq_true]<;>omega))).symm
 ·rename_i i hi hl c hc h d hd h2 e he
  rw[hc] at hd;cases hd
  rw[DX hi.1] at he;exact Pb hi.2.2 hc (by(rw[Bool.eq_iff_iff];simp only[Cm,Bool.and_eq_true,Bool.or_eq_true,decide_eq_true_eq,Bool.not_eq_true',decide_eq_false_iff_not,bne_iff_ne,ne_eq,beq_iff_eq,Bool.not_not,reduceCtorEq,Bool.false_eq_true,true_iff,false_iff,iff_true,iff_false,not_true,not_false_eq_true]<;>omega)) e he
 ·rename_i i hi hl;exact(Vj hi.2.2 (by omega)).symm)
def Lq:Sig:= {X:=List UInt8,args:=fun x=>[.str x,.clo (.func 161) []],pre:=fun x=>x.length<2^63,Y:=Unit,post:=fun x y=>True,res:=fun x y=> .str (x.takeWhile BP),outs:=fun x y=>[.top,.top],keep:=false}
theorem a7s:Ai G Tryz.prog 160 Lq:=
 vcFun_okP [(161,0,Lp)] [] false (fun x=>[(2,Ei BP x fun i=>[(0,.str x),(1,.clo (.func 161) []),(5,.int .i64 i)])]) Tryz.func160 rfl (by decide) ⟨a7q,trivial⟩ (fun(x:List UInt8)=>(∀(y:Unit),True→True∧True∧True∧True)∧eA (Ei BP x fun(i:Int)=>[((0:Nat),.str x),((1:Nat),AV.clo (Fn.func (84:FuncId)) []),((5:Nat),.int .i64 i)]) [.str x,AV.clo (Fn.func (84:FuncId)) [],.int .i64 (0:Int)]∧∀(i:Int),((0:Int)≤i∧i≤(↑(List.length x):Int)∧∀(e:UInt8),e∈List.take (Int.toNat i) x→BP e=true)→Aa (decide (i<(↑(List.length x):Int))) (((0:Int)≤i∧i<(↑(List.length x):Int))∧∀(c:UInt8),x[Int.toNat i]? =some c→cA Lp [AV.int IntKind.u8 (↑(UInt8.toNat c):Int)] fun x_1 y=>Aa (BP x_1) (inR IntKind.i64 (i+(1:Int))∧eN (Ei BP x fun(i:Int)=>[((0:Nat),.str x),((1:Nat),AV.clo (Fn.func (84:FuncId)) []),((5:Nat),.int .i64 i)]) i [.str x,AV.clo (Fn.func (84:FuncId)) [],.int .i64 (i+(1:Int))]) (((0:Int)≤(0:Int)∧(0:Int)≤i∧i≤(↑(List.length x):Int))∧rA Lq x [.str (List.take (Int.toNat i) x),.top,.top])) (((0:Int)≤(0:Int)∧(0:Int)≤i∧i≤(↑(List.length x):Int))∧rA Lq x [.str (List.take (Int.toNat i) x),.top,.top])) (fun x=>by kernel_rfl) fun(x:List UInt8) (hx:x.length<2^63)=>(by
 dsimp only[cA,eA,eN,Ei,rA,Lp,Lq,Au,Az,mvL,lnL,mvE,lnE,Bq]
 (repeat' first|(with_reducible first|rfl|exact True.intro|apply AK|apply And.intro|((first|apply AA|apply AI|apply AB|apply AJ)<;>intro _))|(apply Ax<;>intro _)|apply AH|refine Ae () ?_ ?_|((first|apply AO|apply AN|apply AM|apply AL|apply AG|apply AF|apply AE|apply AD|apply AC)<;>try dsimp only)|apply Ae|(refine Prod.forall.2 ?_;intro _;try dsimp only)|(intro _;try dsimp only))<;>(try dsimp only at*)<;>(try simp only[AR,List.length_cons,List.length_nil])<;>(try omega)
 ·rename_i h;simp at h
 ·rename_i i hi hl c hc y _ hp e he
  rw[DX hi.1] at he;exact Pb hi.2.2 hc hp e he
 ·rename_i i hi hl c hc y _ hp
  exact Jm hi.2.2 (.inr ⟨c,hc,hp⟩)
 ·rename_i i hi hl
  exact Jm hi.2.2 (.inl (by omega)))
def Lr:Sig:= {X:=List UInt8,args:=fun x=>[.str x,.clo (.func 162) []],pre:=fun x=>x.length<2^63,Y:=Unit,post:=fun x y=>True,res:=fun x y=> .str (x.takeWhile Bh),outs:=fun x y=>[.top,.top],keep:=false}
theorem a7t:Ai G Tryz.prog 160 Lr:=
 vcFun_okP [(162,0,GJ)] [] false (fun x=>[(2,Ei Bh x fun i=>[(0,.str x),(1,.clo (.func 162) []),(5,.int .i64 i)])]) Tryz.func160 rfl (by decide) ⟨Vm,trivial⟩ (fun(x:List UInt8)=>(∀(y:Unit),True→True∧True∧True∧True)∧eA (Ei Bh x fun(i:Int)=>[((0:Nat),.str x),((1:Nat),AV.clo (Fn.func (85:FuncId)) []),((5:Nat),.int .i64 i)]) [.str x,AV.clo (Fn.func (85:FuncId)) [],.int .i64 (0:Int)]∧∀(i:Int),((0:Int)≤i∧i≤(↑(List.length x):Int)∧∀(e:UInt8),e∈List.take (Int.toNat i) x→Bh e=true)→Aa (decide (i<(↑(List.length x):Int))) (((0:Int)≤i∧i<(↑(List.length x):Int))∧∀(c:UInt8),x[Int.toNat i]? =some c→cA GJ [AV.int IntKind.u8 (↑(UInt8.toNat c):Int)] fun x_1 y=>Aa (Bh x_1) (inR IntKind.i64 (i+(1:Int))∧eN (Ei Bh x fun(i:Int)=>[((0:Nat),.str x),((1:Nat),AV.clo (Fn.func (85:FuncId)) []),((5:Nat),.int .i64 i)]) i [.str x,AV.clo (Fn.func (85:FuncId)) [],.int .i64 (i+(1:Int))]) (((0:Int)≤(0:Int)∧(0:Int)≤i∧i≤(↑(List.length x):Int))∧rA Lr x [.str (List.take (Int.toNat i) x),.top,.top])) (((0:Int)≤(0:Int)∧(0:Int)≤i∧i≤(↑(List.length x):Int))∧rA Lr x [.str (List.take (Int.toNat i) x),.top,.top])) (fun x=>by kernel_rfl) fun(x:List UInt8) (hx:x.length<2^63)=>(by
 dsimp only[cA,eA,eN,Ei,rA,GJ,Lr,Au,Az,mvL,lnL,mvE,lnE,Bq]
 (repeat' first|(with_reducible first|rfl|exact True.intro|apply AK|apply And.intro|((first|apply AA|apply AI|apply AB|apply AJ)<;>intro _))|(apply Ax<;>intro _)|apply AH|refine Ae () ?_ ?_|((first|apply AO|apply AN|apply AM|apply AL|apply AG|apply AF|apply AE|apply AD|apply AC)<;>try dsimp only)|apply Ae|(refine Prod.forall.2 ?_;intro _;try dsimp only)|(intro _;try dsimp only))<;>(try dsimp only at*)<;>(try simp only[AR,List.length_cons,List.length_nil])<;>(try omega)
 ·rename_i h;simp at h
 ·rename_i i hi hl c hc y _ hp e he
  rw[DX hi.1] at he;exact Pb hi.2.2 hc hp e he
 ·rename_i i hi hl c hc y _ hp
  exact Jm hi.2.2 (.inr ⟨c,hc,hp⟩)
 ·rename_i i hi hl
  exact Jm hi.2.2 (.inl (by omega)))
def Ls:Sig:= {X:=List UInt8,args:=fun x=>[.str x,.clo (.func 165) []],pre:=fun x=>x.length<2^63,Y:=Unit,post:=fun x y=>True,res:=fun x y=> .str (x.takeWhile Ch),outs:=fun x y=>[.top,.top],keep:=false}
theorem a7u:Ai G Tryz.prog 160 Ls:=
 vcFun_okP [(165,0,Np)] [] false (fun x=>[(2,Ei Ch x fun i=>[(0,.str x),(1,.clo (.func 165) []),(5,.int .i64 i)])]) Tryz.func160 rfl (by decide) ⟨a7r,trivial⟩ (fun(x:List UInt8)=>(∀(y:Unit),True→True∧True∧True∧True)∧eA (Ei Ch x fun(i:Int)=>[((0:Nat),.str x),((1:Nat),AV.clo (Fn.func (88:FuncId)) []),((5:Nat),.int .i64 i)]) [.str x,AV.clo (Fn.func (88:FuncId)) [],.int .i64 (0:Int)]∧∀(i:Int),((0:Int)≤i∧i≤(↑(List.length x):Int)∧∀(e:UInt8),e∈List.take (Int.toNat i) x→Ch e=true)→Aa (decide (i<(↑(List.length x):Int))) (((0:Int)≤i∧i<(↑(List.length x):Int))∧∀(c:UInt8),x[Int.toNat i]? =some c→cA Np [AV.int IntKind.u8 (↑(UInt8.toNat c):Int)] fun x_1 y=>Aa (Ch x_1) (inR IntKind.i64 (i+(1:Int))∧eN (Ei Ch x fun(i:Int)=>[((0:Nat),.str x),((1:Nat),AV.clo (Fn.func (88:FuncId)) []),((5:Nat),.int .i64 i)]) i [.str x,AV.clo (Fn.func (88:FuncId)) [],.int .i64 (i+(1:Int))]) (((0:Int)≤(0:Int)∧(0:Int)≤i∧i≤(↑(List.length x):Int))∧rA Ls x [.str (List.take (Int.toNat i) x),.top,.top])) (((0:Int)≤(0:Int)∧(0:Int)≤i∧i≤(↑(List.length x):Int))∧rA Ls x [.str (List.take (Int.toNat i) x),.top,.top])) (fun x=>by kernel_rfl) fun(x:List UInt8) (hx:x.length<2^63)=>(by
 dsimp only[cA,eA,eN,Ei,rA,Ls,Np,Au,Az,mvL,lnL,mvE,lnE,Bq]
 (repeat' first|(with_reducible first|rfl|exact True.intro|apply AK|apply And.intro|((first|apply AA|apply AI|apply AB|apply AJ)<;>intro _))|(apply Ax<;>intro _)|apply AH|refine Ae () ?_ ?_|((first|apply AO|apply AN|apply AM|apply AL|apply AG|apply AF|apply AE|apply AD|apply AC)<;>try dsimp only)|apply Ae|(refine Prod.forall.2 ?_;intro _;try dsimp only)|(intro _;try dsimp only))<;>(try dsimp only at*)<;>(try simp only[AR,List.length_cons,List.length_nil])<;>(try omega)
 ·rename_i h;simp at h
 ·rename_i i hi hl c hc y _ hp e he
  rw[DX hi.1] at he;exact Pb hi.2.2 hc hp e he
 ·rename_i i hi hl c hc y _ hp
  exact Jm hi.2.2 (.inr ⟨c,hc,hp⟩)
 ·rename_i i hi hl
  exact Jm hi.2.2 (.inl (by omega)))
end Go.My
end
section
namespace Go.My
open Go.Eng
def Nq(x:List UInt8):SgR:=if CK (x.take 2) then⟨4,x.take 2,(x.take 2).length,true⟩ else if CK (x.take 1) then⟨4,x.take 1,1,true⟩ else⟨0,[],0,false⟩
def HT(x:List UInt8)(i:Int):Prop:=(0≤i∧i≤2∧i≤x.length)∧Bb x=Nq x∧∀j:Nat,i<j→j≤2→j≤x.length→CK (x.take j)=false
theorem a7v{x:List UInt8}{i:Int}(h:HT x i)(hx:1≤x.length)(h0:i>0)(hm:CK (x.take i.toNat)=true):Bb x=⟨4,x.take i.toNat,i,true⟩:=by
 obtain⟨⟨h1,h2,h3⟩,h4,h5⟩:=h
 rw[h4]
 have hi:i=1∨i=2:=by omega
 rcases hi with rfl|rfl
 ·by_cases hl:x.length=1
  ·have e:x.take 2=x.take 1:=by rw[List.take_of_length_le (by omega),List.take_of_length_le (by omega)]
   have hm':CK (x.take 1)=true:=hm
   simp only[Nq,e,hm',if_true]
   have:(x.take 1).length=1:=by simp;omega
   rw[this];rfl
  ·have:=h5 2 (by omega) (by omega) (by omega)
   have hm':CK (x.take 1)=true:=hm
   simp only[Nq,this,hm',Bool.false_eq_true,if_false,if_true];rfl
 ·have hm':CK (x.take 2)=true:=hm
  simp only[Nq,hm',if_true]
  have:(x.take 2).length=2:=by simp;omega
  rw[this];rfl
theorem a7w{x:List UInt8}{i:Int}(h:HT x i)(hx:1≤x.length)(h0:¬i>0):Bb x=⟨0,[],0,false⟩:=by
 obtain⟨⟨h1,h2,h3⟩,h4,h5⟩:=h
 rw[h4]
 have a1:=h5 1 (by omega) (by omega) hx
 have a2:CK (x.take 2)=false:=by
  by_cases hl:x.length=1
  ·have e:x.take 2=x.take 1:=by rw[List.take_of_length_le (by omega),List.take_of_length_le (by omega)]
   rw[e];exact a1
  ·exact h5 2 (by omega) (by omega) (by omega)
 simp only[Nq,a1,a2,Bool.false_eq_true,if_false]
theorem a7x{x:List UInt8}{i:Int}(h:HT x i)(h0:i>0)(hm:CK (x.take i.toNat)=false):HT x (i-1):=by
 obtain⟨⟨h1,h2,h3⟩,h4,h5⟩:=h
 refine⟨⟨by omega,by omega,by omega⟩,h4,fun j a b c=> ?_⟩
 by_cases e:(j:Int)=i
 ·have:j=i.toNat:=by omega
  rw[this];exact hm
 ·exact h5 j (by omega) b c
theorem a7y{b:UInt8}{t:List UInt8}(h1:Cw b=false)(h2:Bh b=false)(h3:¬b.toNat=39)(h4:(b::t).take 2≠[47,47]):HT (b::t) (min 2 ((b::t).length:Int)):=by
 refine⟨⟨by omega,by omega,by omega⟩,?_,fun j a b c=>by omega⟩
 simp only[Bb,h1,h2,h3,h4,Bool.false_eq_true,if_false,Nq]
theorem a7z{b:UInt8}{t:List UInt8}(h:Cw b=true):Bb (b::t)=⟨1,(b::t).takeWhile BP,((b::t).takeWhile BP).length,decide ((((b::t).takeWhile BP).length:Int)≤30)⟩:=by
 have:decide ((((b::t).takeWhile BP).length:Int)≤30)=decide (((b::t).takeWhile BP).length≤30):=decide_eq_decide.2 (by omega)
 rw[this];simp [Bb,h]
theorem a7A{b:UInt8}{t:List UInt8}(h0:Cw b=false)(h:Bh b=true):Bb (b::t)=⟨2,(b::t).takeWhile Bh,((b::t).takeWhile Bh).length,decide ((((b::t).takeWhile Bh).length:Int)≤12)⟩:=by
 have:decide ((((b::t).takeWhile Bh).length:Int)≤12)=decide (((b::t).takeWhile Bh).length≤12):=decide_eq_decide.2 (by omega)
 rw[this];simp [Bb,h,h0]
theorem a7B{b:UInt8}{t:List UInt8}(h0:Cw b=false)(h1:Bh b=false)(h:(b.toNat:Int)=39):Bb (b::t)=⟨3,(DG (b::t)).1,(DG (b::t)).1.length,(DG (b::t)).2⟩:=by
 have h:b.toNat=39:=by omega
 simp [Bb,h0,h1,h]
theorem a7C{b:UInt8}{t:List UInt8}(h0:Cw b=false)(h1:Bh b=false)(h2:(b.toNat:Int)≠39)(h:(b::t).take 2=[47,47]):
 Bb (b::t)=⟨5,CL ((b::t).takeWhile Ch),((b::t).takeWhile Ch).length,((b::t).takeWhile Ch).all Cm⟩:=by
 have h2:¬b.toNat=39:=by omega
 simp only[Bb,h0,h1,h2,h,Bool.false_eq_true,if_false,if_true]
theorem ZO(s:List UInt8)(c:UInt8):CL (s++[c])=if c.toNat=32 then CL s else s++[c]:=by
 unfold CL
 rw[List.reverse_append]
 simp only[List.reverse_cons,List.reverse_nil,List.nil_append,List.singleton_append,List.dropWhile_cons]
 by_cases h:c.toNat=32
 ·simp [h]
 ·simp [h]
theorem a7D{s:List UInt8}{c:UInt8}(h:s[s.length-1]? =some c):s=s.take (s.length-1)++[c]:=by
 have h1:=FZ h
 have:s.length-1+1=s.length:=by
  have:=(List.getElem?_eq_some_iff.1 h).1;omega
 rw[this,List.take_length] at h1
 exact h1
theorem ZP{s:List UInt8}{c:UInt8}(h:s[s.length-1]? =some c):CL s=if c.toNat=32 then CL (s.take (s.length-1)) else s:=by
 have h1:=a7D h
 rw[h1,ZO]
 split
 ·rw[List.length_append];simp
 ·rfl
theorem ZQ{s:List UInt8}{n:Nat}{c:UInt8}(h:s[n]? =some c):CL (s.take (n+1))=if c.toNat=32 then CL (s.take n) else s.take (n+1):=by
 rw[FZ h,ZO]
def isQ(c:UInt8):Bool:=decide (c.toNat=39)
def CG(s:List UInt8):Nat:=match DY isQ (s.drop 1) with
 |none=>0
 |some i=>if((s.drop 1).take i).all Cm then i+2 else 0
def Ct(s:List UInt8):Nat:=if s.take 2=[47,47] then(if(s.takeWhile Ch).all Cm then(s.takeWhile Ch).length else 0) else 0
theorem ZR(s:List UInt8):DG s=match DY isQ (s.drop 1) with
 |none=>([],false)
 |some i=>(s.take (i+2),(s.take (i+2)).all Cm):=rfl
theorem ZT{c:UInt8}(h:isQ c=true):Cm c=true:=by
 simp [isQ] at h;simp [Cm,h]
theorem Vo{p:UInt8→Bool}{s:List UInt8}{i:Nat}(h:DY p s=some i):i<s.length:=by
 obtain⟨_,e,he,_⟩:=Lm.1 h
 exact(List.getElem?_eq_some_iff.1 he).1
theorem QS{c:UInt8}{s:List UInt8}(hc:isQ c=true):(DG (c::s)).2=true↔CG (c::s)≠0:=by
 rw[ZR];unfold CG
 simp only[List.drop_succ_cons,List.drop_zero]
 cases h:DY isQ s with
 |none=>simp
 |some i=>
  simp only[List.take_succ_cons,List.all_cons,ZT hc,Bool.true_and]
  obtain⟨h1,e,he,hq⟩:=Lm.1 h
  rw[FZ he,List.all_append]
  simp [ZT hq]
theorem ZU{c:UInt8}{s:List UInt8}(hc:isQ c=true)(h:CG (c::s)≠0):(DG (c::s)).1=(c::s).take (CG (c::s))∧CG (c::s)≤(c::s).length:=by
 rw[ZR];unfold CG at h ⊢
 simp only[List.drop_succ_cons,List.drop_zero] at h ⊢
 cases hi:DY isQ s with
 |none=>rw[hi] at h;simp at h
 |some i=>
  rw[hi] at h
  simp only at h ⊢
  split at h
  ·rename_i hp
   have:=Vo hi
   rw[if_pos hp]
   exact⟨rfl,by simp;omega⟩
  ·exact(h rfl).elim
theorem a7E{c:UInt8}(h:Cw c=true):Bh c=false:=by
 simp [Cw,Bh] at h ⊢;omega
theorem a7F(s:List UInt8):Cx s 1=match s with
 |[]=>false
 |c::_=>Cw c&&(s.all BP&&decide (s.length≤30)):=by
 cases s with
 |nil=>rfl
 |cons c t=>
  by_cases hc:Cw c=true
  ·simp only[Cx,Bb,hc,if_true,Bool.true_and]
   by_cases ha:(c::t).all BP=true
   ·have:=QP.2 ha
    rw[this,ha];simp
   ·have hn:¬(c::t).takeWhile BP=c::t:=fun e=>ha (QP.1 e)
    simp only[Bool.not_eq_true] at ha
    rw[ha]
    have:((c::t).takeWhile BP==c::t)=false:=by rw[beq_eq_false_iff_ne];exact hn
    rw[this];simp
  ·simp only[Bool.not_eq_true] at hc
   simp only[hc,Bool.false_and]
   rw[Bool.eq_false_iff]
   intro h
   simp only[Cx,Bb,hc,Bool.false_eq_true,if_false,Bool.and_eq_true,decide_eq_true_eq] at h
   have h1:=h.2.2.1
   repeat' split at h1
   all_goals simp at h1
theorem Vp(s:List UInt8):Cx s 2=(s.all Bh&&(decide (1≤s.length)&&decide (s.length≤12))):=by
 cases s with
 |nil=>rfl
 |cons c t=>
  by_cases hc:Cw c=true
  ·have hf:=a7E hc
   simp only[List.all_cons,hf,Bool.false_and]
   simp [Cx,Bb,hc]
  ·simp only[Bool.not_eq_true] at hc
   by_cases hf:Bh c=true
   ·simp only[Cx,Bb,hc,hf,Bool.false_eq_true,if_false,if_true]
    by_cases ha:(c::t).all Bh=true
    ·have:=QP.2 ha
     rw[this,ha];simp
    ·have hn:¬(c::t).takeWhile Bh=c::t:=fun e=>ha (QP.1 e)
     simp only[Bool.not_eq_true] at ha
     rw[ha]
     have:((c::t).takeWhile Bh==c::t)=false:=by rw[beq_eq_false_iff_ne];exact hn
     rw[this];simp
   ·simp only[Bool.not_eq_true] at hf
    simp only[List.all_cons,hf,Bool.false_and]
    rw[Bool.eq_false_iff]
    intro h
    simp only[Cx,Bb,hc,hf,Bool.false_eq_true,if_false,Bool.and_eq_true,decide_eq_true_eq] at h
    have h1:=h.2.2.1
    repeat' split at h1
    all_goals simp at h1
theorem Vq(s:List UInt8):Cx s 3=match s with
 |[]=>false
 |c::_=>isQ c&&(decide (1<s.length)&&decide (CG s=s.length)):=by
 cases s with
 |nil=>rfl
 |cons c t=>
  by_cases hq:isQ c=true
  ·have h39:c.toNat=39:=by simpa [isQ] using hq
   have hc:Cw c=false:=by simp [Cw];omega
   have hf:Bh c=false:=by simp [Bh];omega
   simp only[hq,Bool.true_and]
   simp only[Cx,Bb,hc,hf,h39,Bool.false_eq_true,if_false,if_true]
   by_cases h0:CG (c::t)=0
   ·have h2:(DG (c::t)).2=false:=by
     rw[Bool.eq_false_iff];intro h;exact(QS hq).1 h h0
    rw[h2,h0];simp
   ·have h2:=(QS hq).2 h0
    obtain⟨h3,h4⟩:=ZU hq h0
    have h5:1<CG (c::t):=by
     unfold CG at h0 ⊢
     split at h0
     ·exact(h0 rfl).elim
     ·split at h0
      ·rename_i hp;rw[if_pos hp];omega
      ·exact(h0 rfl).elim
    rw[h2,h3]
    rw[Bool.eq_iff_iff]
    simp only[Bool.and_eq_true,Bool.not_eq_true',decide_eq_true_eq,beq_iff_eq,List.length_take]
    constructor
    ·rintro⟨_,_,_,e,hl⟩
     have:=congrArg List.length e
     simp only[List.length_take] at this
     constructor<;>omega
    ·rintro⟨h6,h7⟩
     refine⟨by simp,trivial,trivial,?_,?_⟩
     ·rw[h7,List.take_length]
     ·omega
  ·simp only[Bool.not_eq_true] at hq
   have h39:¬c.toNat=39:=by simpa [isQ] using hq
   simp only[hq,Bool.false_and]
   rw[Bool.eq_false_iff]
   intro h
   simp only[Cx,Bb,h39,if_false,Bool.and_eq_true,decide_eq_true_eq] at h
   have h1:=h.2.2.1
   repeat' split at h1
   all_goals simp at h1
theorem Vr(s:List UInt8):Cx s 5=(decide (1<s.length)&&(decide (Ct s=s.length)&&(CL s==s))):=by
 cases s with
 |nil=>rfl
 |cons c t=>
  by_cases hp:(c::t).take 2=[47,47]
  ·have h47:c=47:=by
    have:=congrArg (fun l:List UInt8=>l.head?) hp
    simpa using this
   subst h47
   have hl:1<(47::t).length:=by
    have:=congrArg List.length hp
    simp only[List.length_take,List.length_cons,List.length_nil] at this ⊢;omega
   have hc:Cw 47=false:=by decide
   have hf:Bh 47=false:=by decide
   have hq:¬(47:UInt8).toNat=39:=by decide
   simp only[Cx,Bb,hc,hf,hq,hp,Bool.false_eq_true,if_false,if_true,Ct]
   rw[Bool.eq_iff_iff]
   simp only[Bool.and_eq_true,Bool.not_eq_true',decide_eq_true_eq,beq_iff_eq,beq_eq_false_iff_ne]
   constructor
   ·rintro⟨_,h1,_,h2,h3⟩
    rw[if_pos h1]
    have h3:((47::t).takeWhile Ch).length=(47::t).length:=by omega
    refine⟨hl,h3,?_⟩
    have e:(47::t).takeWhile Ch=47::t:=by
     have:=List.takeWhile_prefix (p:=Ch) (l:=47::t)
     exact List.IsPrefix.eq_of_length this h3
    rw[e] at h2;exact h2
   ·rintro⟨_,h1,h2⟩
    split at h1
    ·rename_i h3
     have e:(47::t).takeWhile Ch=47::t:=by
      have:=List.takeWhile_prefix (p:=Ch) (l:=47::t)
      exact List.IsPrefix.eq_of_length this h1
     rw[e] at h3 ⊢
     exact⟨by simp,h3,trivial,h2,rfl⟩
    ·simp at h1
  ·have h0:Ct (c::t)=0:=by simp only[Ct,if_neg hp]
   rw[h0]
   have:decide (0=(c::t).length)=false:=by simp
   rw[this]
   simp only[Bool.false_and,Bool.and_false]
   rw[Bool.eq_false_iff]
   intro h
   simp only[Cx,Bb,hp,if_false,Bool.and_eq_true,decide_eq_true_eq] at h
   have h1:=h.2.2.1
   repeat' split at h1
   all_goals simp at h1
theorem a7G{s:List UInt8}{m:Nat}{e:UInt8}(h:∀e∈(s.drop 1).take m,isQ e=false∧Cm e=true)(he:(s.drop 1)[m]? =some e)(hq:isQ e=true):CG s=m+2:=by
 unfold CG
 rw[Lm.2 ⟨fun e he=>(h e he).1,e,he,hq⟩]
 simp only
 rw[if_pos (List.all_eq_true.2 fun e he=>(h e he).2)]
theorem a7H{s:List UInt8}{m:Nat}{e:UInt8}(h:∀e∈(s.drop 1).take m,isQ e=false∧Cm e=true)(he:(s.drop 1)[m]? =some e)(hq:isQ e=false)(hp:Cm e=false):CG s=0:=by
 unfold CG
 cases hi:DY isQ (s.drop 1) with
 |none=>rfl
 |some i=>
  simp only
  obtain⟨h1,d,hd,hdq⟩:=Lm.1 hi
  rw[if_neg]
  intro hall
  have hmi:m<i:=by
   rcases Nat.lt_trichotomy m i with h'|h'|h'
   ·exact h'
   ·subst h';rw[he] at hd;cases hd;rw[hq] at hdq;cases hdq
   ·have:d∈(s.drop 1).take m:=by
     rw[List.mem_take_iff_getElem]
     obtain⟨a,b⟩:=List.getElem?_eq_some_iff.1 hd
     exact⟨i,by omega,b⟩
    rw[(h d this).1] at hdq;cases hdq
  have:e∈(s.drop 1).take i:=by
   rw[List.mem_take_iff_getElem]
   obtain⟨a,b⟩:=List.getElem?_eq_some_iff.1 he
   exact⟨m,by omega,b⟩
  rw[List.all_eq_true.1 hall e this] at hp;cases hp
theorem a7I{s:List UInt8}{m:Nat}(h:∀e∈(s.drop 1).take m,isQ e=false∧Cm e=true)(hl:(s.drop 1).length≤m):CG s=0:=by
 unfold CG
 rw[List.take_of_length_le hl] at h
 rw[Vk.2 fun e he=>(h e he).1]
theorem ZV{s:List UInt8}{m:Nat}(hp:s.take 2=[47,47])(h:∀e∈s.take m,Ch e=true∧Cm e=true)(he:s.length≤m∨∃e,s[m]? =some e∧Ch e=false)(hm:m≤s.length):Ct s=m:=by
 have h1:=Jm (fun e he=>(h e he).1) he
 unfold Ct
 rw[if_pos hp,←h1,if_pos (List.all_eq_true.2 fun e he=>(h e he).2),List.length_take];omega
theorem a7J{s:List UInt8}{m:Nat}{e:UInt8}(hp:s.take 2=[47,47])(h:∀e∈s.take m,Ch e=true∧Cm e=true)(he:s[m]? =some e)(hn:Ch e=true)(hq:Cm e=false):Ct s=0:=by
 unfold Ct
 rw[if_pos hp,if_neg]
 intro hall
 have:e∈s.takeWhile Ch:=by
  have h2:s=s.take m++e::s.drop (m+1):=by rw[←Nj he,List.take_append_drop]
  rw[h2,List.takeWhile_append_of_pos (fun e he=>(h e he).1),List.takeWhile_cons,if_pos hn]
  simp
 rw[List.all_eq_true.1 hall e this] at hq;cases hq
theorem ZW{s:List UInt8}(hp:s.take 2≠[47,47]):Ct s=0:=by
 unfold Ct;rw[if_neg hp]
theorem Vs{s:List UInt8}{a n:Int}(h0:0≤a)(h:a+1≤n):((s.drop a.toNat).drop 1)[(n-a-1).toNat]? =s[n.toNat]? :=by
 rw[List.getElem?_drop,List.getElem?_drop];congr 1;omega
theorem Pf{s:List UInt8}{a n:Int}(h0:0≤a)(h:a≤n):(s.drop a.toNat)[(n-a).toNat]? =s[n.toNat]? :=by
 rw[List.getElem?_drop];congr 1;omega
theorem QT{p:UInt8→Prop}{s:List UInt8}{m k:Nat}{e:UInt8}(h:∀e∈s.take m,p e)(he:s[m]? =some e)(hp:p e)(hk:k=m+1):∀e∈s.take k,p e:=by
 subst hk
 rw[FZ he];intro x hx
 rcases List.mem_append.1 hx with hx|hx
 ·exact h x hx
 ·simp at hx;subst hx;exact hp
def qI(x:List UInt8×Int)(i:Int):Prop:=x.2+1≤i∧(i≤x.1.length∨i=x.2+1)∧∀e∈((x.1.drop x.2.toNat).drop 1).take (i-x.2-1).toNat,isQ e=false∧Cm e=true
theorem a7K{x:List UInt8×Int}:qI x (x.2+1):=by
 refine⟨by omega,.inr rfl,fun e he=> ?_⟩
 rw[show(x.2+1-x.2-1).toNat=0 by omega] at he;simp at he
theorem a7L{x:List UInt8×Int}{i:Int}(h:qI x i):x.2+1≤i∧(i≤x.1.length∨i=x.2+1):=⟨h.1,h.2.1⟩
theorem a7M{x:List UInt8×Int}{i:Int}{c:UInt8}(h0:0≤x.2)(h:qI x i)(hq:(c.toNat:Int)=39)(hc:x.1[i.toNat]? =some c):i+1-x.2=CG (x.1.drop x.2.toNat):=by
 have:=h.1
 rw[a7G h.2.2 (by rw[Vs h0 h.1];exact hc) (by simp [isQ];omega)];omega
theorem a7N{x:List UInt8×Int}{i:Int}{c d:UInt8}(h0:0≤x.2)(h:qI x i)(hq:(c.toNat:Int)≠39)(hc:x.1[i.toNat]? =some c)(hp:Cm d=false)(hd:x.1[i.toNat]? =some d):0=(CG (x.1.drop x.2.toNat):Int):=by
 rw[hc] at hd;cases hd
 rw[a7H h.2.2 (by rw[Vs h0 h.1];exact hc) (by simp [isQ];omega) hp];rfl
theorem a7O{x:List UInt8×Int}{i:Int}{c d:UInt8}(h0:0≤x.2)(h:qI x i)(hl:i<x.1.length)(hq:(c.toNat:Int)≠39)(hc:x.1[i.toNat]? =some c)(hp:Cm d=true)(hd:x.1[i.toNat]? =some d):qI x (i+1):=by
 rw[hc] at hd;cases hd
 have:=h.1
 exact⟨by omega,.inl (by omega),QT (p:=fun e=>isQ e=false∧Cm e=true) h.2.2 (by rw[Vs h0 h.1];exact hc) ⟨by simp [isQ];omega,hp⟩ (by omega)⟩
theorem a7P{x:List UInt8×Int}{i:Int}(h0:0≤x.2)(h:qI x i)(hl:¬i<x.1.length):0=(CG (x.1.drop x.2.toNat):Int):=by
 rw[a7I h.2.2 (by simp;omega)];rfl
def nI(x:List UInt8×Int)(i:Int):Prop:=(x.2≤i∧i≤x.1.length)∧(x.1.drop x.2.toNat).take 2=[47,47]∧∀e∈(x.1.drop x.2.toNat).take (i-x.2).toNat,Ch e=true∧Cm e=true
theorem ZY{x:List UInt8×Int}(h0:0≤x.2):List.drop x.2.toNat (List.take (x.2+2).toNat x.1)=(x.1.drop x.2.toNat).take 2:=by
 rw[List.drop_take];congr 1;omega
theorem a7Q{x:List UInt8×Int}(h0:0≤x.2)(hl:x.2≤x.1.length)(h:(List.drop x.2.toNat (List.take (x.2+2).toNat x.1)==[47,47])=true):nI x x.2:=by
 rw[ZY h0] at h
 refine⟨⟨by omega,hl⟩,by simpa using h,fun e he=> ?_⟩
 rw[show(x.2-x.2).toNat=0 by omega] at he;simp at he
theorem a7R{x:List UInt8×Int}(h0:0≤x.2)(h:(List.drop x.2.toNat (List.take (x.2+2).toNat x.1)==[47,47])=false):0=(Ct (x.1.drop x.2.toNat):Int):=by
 rw[ZY h0] at h
 rw[ZW (by simpa using h)];rfl
theorem a7S{x:List UInt8×Int}(h0:0≤x.2)(h:x.2+2>x.1.length):0=(Ct (x.1.drop x.2.toNat):Int):=by
 rw[ZW]
 ·rfl
 ·intro e;have:=congrArg List.length e;simp at this;omega
theorem a7T{x:List UInt8×Int}{i:Int}{c d:UInt8}(h0:0≤x.2)(h:nI x i)(hn:(c.toNat:Int)≠10)(hc:x.1[i.toNat]? =some c)(hp:Cm d=false)(hd:x.1[i.toNat]? =some d):0=(Ct (x.1.drop x.2.toNat):Int):=by
 rw[hc] at hd;cases hd
 rw[a7J h.2.1 h.2.2 (by rw[Pf h0 h.1.1];exact hc) (by simp [Ch];omega) hp];rfl
theorem a7U{x:List UInt8×Int}{i:Int}{c d:UInt8}(h0:0≤x.2)(h:nI x i)(hl:i<x.1.length)(hn:(c.toNat:Int)≠10)(hc:x.1[i.toNat]? =some c)(hp:Cm d=true)(hd:x.1[i.toNat]? =some d):nI x (i+1):=by
 rw[hc] at hd;cases hd
 have:=h.1
 exact⟨by omega,h.2.1,QT (p:=fun e=>Ch e=true∧Cm e=true) h.2.2 (by rw[Pf h0 h.1.1];exact hc) ⟨by simp [Ch];omega,hp⟩ (by omega)⟩
theorem a7V{x:List UInt8×Int}{i:Int}{c:UInt8}(h0:0≤x.2)(h:nI x i)(hn:(c.toNat:Int)=10)(hc:x.1[i.toNat]? =some c):i-x.2=(Ct (x.1.drop x.2.toNat):Int):=by
 have:=h.1
 have hl:=(List.getElem?_eq_some_iff.1 hc).1
 rw[ZV h.2.1 h.2.2 (.inr ⟨c,by rw[Pf h0 h.1.1];exact hc,by simp [Ch];omega⟩) (by simp;omega)];omega
theorem a7W{x:List UInt8×Int}{i:Int}(h0:0≤x.2)(h:nI x i)(hl:¬i<x.1.length):i-x.2=(Ct (x.1.drop x.2.toNat):Int):=by
 have:=h.1
 rw[ZV h.2.1 h.2.2 (.inl (by simp;omega)) (by simp;omega)];omega
def nmI(x:List UInt8)(i:Int):Prop:=(0≤i∧i≤x.length)∧(inn x.length 1 30=true∧Cw (x.headD 0)=true∧kw x=false)∧∀e∈x.take i.toNat,BP e=true
theorem Vt{x:List UInt8}:DZ x=true↔(inn x.length 1 30=true∧Cw (x.headD 0)=true∧kw x=false)∧x.all BP=true:=by
 unfold DZ
 rw[a7F]
 cases x with
 |nil=>simp [inn]
 |cons c t=>
  simp only[inn,Bool.and_eq_true,decide_eq_true_eq,Bool.not_eq_true',List.headD_cons,List.length_cons]
  constructor
  ·rintro⟨⟨h1,h2,h3⟩,h4⟩;exact⟨⟨⟨by omega,by omega⟩,h1,h4⟩,h2⟩
  ·rintro⟨⟨⟨h1,h2⟩,h3,h4⟩,h5⟩;exact⟨⟨h3,h5,by omega⟩,h4⟩
theorem ZZ{x:List UInt8}{c:UInt8}(h:x[0]? =some c):x.headD 0=c:=by cases x<;>simp_all
theorem Vu{x:List UInt8}(h:¬(inn x.length 1 30=true∧Cw (x.headD 0)=true∧kw x=false)):false=DZ x:=by
 symm;rw[Bool.eq_false_iff];intro hn;exact h (Vt.1 hn).1
theorem a7X{x:List UInt8}(h:inn x.length 1 30=true)(h1:Cw (x.headD 0)=true)(h2:kw x=false):nmI x 0:=⟨by omega,⟨h,h1,h2⟩,fun e he=>by simp at he⟩
theorem a0a{x:List UInt8}{i:Int}{c:UInt8}(h:nmI x i)(hc:x[i.toNat]? =some c)(hl:i<x.length)(hp:BP c=true):nmI x (i+1):=by
 have:=h.1
 exact⟨by omega,h.2.1,QT (p:=fun e=>BP e=true) h.2.2 hc hp (by omega)⟩
theorem a7Y{x:List UInt8}{i:Int}{c:UInt8}(h:nmI x i)(hc:x[i.toNat]? =some c)(hp:BP c=false):false=DZ x:=by
 symm;rw[Bool.eq_false_iff];intro hn
 have:=(Vt.1 hn).2
 rw[QO hc hp] at this;cases this
theorem a7Z{x:List UInt8}{i:Int}(h:nmI x i)(hl:¬i<x.length):true=DZ x:=by
 symm;rw[Vt];exact⟨h.2.1,Vj h.2.2 (by omega)⟩
theorem a8a{x:List UInt8}{c:UInt8}(h1:(x.length:Int)>1)(hq:(c.toNat:Int)=39)(h:x[0]? =some c):((CG x:Int)==(x.length:Int))=Cx x 3:=by
 cases x with
 |nil=>cases h
 |cons d t=>
  have:d=c:=by simpa using h
  subst this
  have e:isQ d=true:=by simp [isQ];omega
  rw[Vq,Bool.eq_iff_iff]
  simp [e] at h1 ⊢;omega
theorem a8b{x:List UInt8}{c:UInt8}(hq:(c.toNat:Int)≠39)(h:x[0]? =some c):false=Cx x 3:=by
 cases x with
 |nil=>cases h
 |cons d t=>
  have:d=c:=by simpa using h
  subst this
  have e:isQ d=false:=by simp [isQ];omega
  rw[Vq];simp [e]
theorem a8c{x:List UInt8}(h1:¬(x.length:Int)>1):false=Cx x 3:=by
 rw[Vq]
 cases x with
 |nil=>rfl
 |cons d t=>
  have:decide (1<(d::t).length)=false:=decide_eq_false (by omega)
  simp only[this,Bool.false_and,Bool.and_false]
theorem a8d{x:List UInt8}(h1:(x.length:Int)>1)(h2:(Ct x:Int)=x.length):(CL x==x)=Cx x 5:=by
 rw[Vr]
 have e1:decide (1<x.length)=true:=decide_eq_true (by omega)
 have e2:decide (Ct x=x.length)=true:=decide_eq_true (by omega)
 simp [e1,e2]
theorem a8e{x:List UInt8}(h2:(Ct x:Int)≠x.length):false=Cx x 5:=by
 rw[Vr]
 have e2:decide (Ct x=x.length)=false:=decide_eq_false (by omega)
 simp only[e2,Bool.false_and,Bool.and_false]
theorem a8f{x:List UInt8}(h1:¬(x.length:Int)>1):false=Cx x 5:=by
 rw[Vr]
 have e2:decide (1<x.length)=false:=decide_eq_false (by omega)
 simp only[e2,Bool.false_and]
end Go.My
end
section
namespace Go.My
open Go.Eng Go.Proofs
variable {G:GInv}
def FC:Sig:= {X:=List UInt8,args:=fun x=>[.str x],pre:=fun x=>True,Y:=Unit,post:=fun x y=>True,res:=fun x y=> .bool (kw x),outs:=fun x y=>[.top],keep:=false}
theorem a0b:Ai G Tryz.prog 182 FC:=
 vcFun_okP [] [] false (fun x=>[]) Tryz.func182 rfl (by decide) trivial (fun(x:List UInt8)=>(∀(y:Unit),True→True∧True∧True)∧Aa (x== #[(99:UInt8),(108:UInt8),(97:UInt8),(115:UInt8),(115:UInt8)].toList) (rA FC x [.bool true,.top]) (Aa (x== #[(118:UInt8),(97:UInt8),(114:UInt8)].toList) (rA FC x [.bool true,.top]) (Aa (x== #[(105:UInt8),(102:UInt8)].toList) (rA FC x [.bool true,.top]) (Aa (x== #[(101:UInt8),(108:UInt8),(115:UInt8),(101:UInt8)].toList) (rA FC x [.bool true,.top]) (Aa (x== #[(119:UInt8),(104:UInt8),(105:UInt8),(108:UInt8),(101:UInt8)].toList) (rA FC x [.bool true,.top]) (Aa (x== #[(114:UInt8),(101:UInt8),(116:UInt8),(117:UInt8),(114:UInt8),(110:UInt8)].toList) (rA FC x [.bool true,.top]) (rA FC x [.bool false,.top]))))))) (fun x=>by kernel_rfl) fun(x:List UInt8) (hx:True)=>(by
 dsimp only[rA,FC,Au,Az]
 (repeat' first|(with_reducible first|rfl|exact True.intro|apply AK|apply And.intro|((first|apply AA|apply AI|apply AB|apply AJ)<;>intro _))|(apply Ax<;>intro _)|apply AH|refine Ae () ?_ ?_|((first|apply AO|apply AN|apply AM|apply AL|apply AG|apply AF|apply AE|apply AD|apply AC)<;>try dsimp only)|apply Ae|(refine Prod.forall.2 ?_;intro _;try dsimp only)|(intro _;try dsimp only))<;>(try dsimp only at*)<;>(try simp only[AR,List.length_cons,List.length_nil])<;>(try omega)
 all_goals simp [kw, *])
def Gb:Sig:= {X:=List UInt8,args:=fun x=>[.str x],pre:=fun x=>True,Y:=Unit,post:=fun x y=>True,res:=fun x y=> .bool (kw x),outs:=fun x y=>[.top],keep:=false}
theorem Vv:Ai G Tryz.prog 89 Gb:=
 vcFun_okP [] [] false (fun x=>[]) Tryz.func89 rfl (by decide) trivial (fun(x:List UInt8)=>(∀(y:Unit),True→True∧True∧True)∧Aa (x== #[(99:UInt8),(108:UInt8),(97:UInt8),(115:UInt8),(115:UInt8)].toList) (rA Gb x [.bool true,.top]) (Aa (x== #[(118:UInt8),(97:UInt8),(114:UInt8)].toList) (rA Gb x [.bool true,.top]) (Aa (x== #[(105:UInt8),(102:UInt8)].toList) (rA Gb x [.bool true,.top]) (Aa (x== #[(101:UInt8),(108:UInt8),(115:UInt8),(101:UInt8)].toList) (rA Gb x [.bool true,.top]) (Aa (x== #[(119:UInt8),(104:UInt8),(105:UInt8),(108:UInt8),(101:UInt8)].toList) (rA Gb x [.bool true,.top]) (Aa (x== #[(114:UInt8),(101:UInt8),(116:UInt8),(117:UInt8),(114:UInt8),(110:UInt8)].toList) (rA Gb x [.bool true,.top]) (rA Gb x [.bool false,.top]))))))) (fun x=>by kernel_rfl) fun(x:List UInt8) (hx:True)=>(by
 dsimp only[rA,Gb,Au,Az]
 (repeat' first|(with_reducible first|rfl|exact True.intro|apply AK|apply And.intro|((first|apply AA|apply AI|apply AB|apply AJ)<;>intro _))|(apply Ax<;>intro _)|apply AH|refine Ae () ?_ ?_|((first|apply AO|apply AN|apply AM|apply AL|apply AG|apply AF|apply AE|apply AD|apply AC)<;>try dsimp only)|apply Ae|(refine Prod.forall.2 ?_;intro _;try dsimp only)|(intro _;try dsimp only))<;>(try dsimp only at*)<;>(try simp only[AR,List.length_cons,List.length_nil])<;>(try omega)
 all_goals simp [kw, *])
theorem a8g{c:UInt8}:decide (CM mk1 c≥0)=mk1.elem c:=by
 unfold CM
 cases h:DY (fun d=>decide (d.toNat=c.toNat)) mk1 with
 |none=>
  have:=Vk.1 h
  symm
  simp only[Int.reduceNeg,ge_iff_le,Int.reduceLE,decide_false]
  rw[Bool.eq_false_iff]
  intro h2
  have h3:=this c (by simpa using h2)
  simp at h3
 |some i=>
  obtain⟨_,e,he,hq⟩:=Lm.1 h
  have h3:e=c:=by simpa [UInt8.toNat_inj] using hq
  subst h3
  have:=List.mem_of_getElem? he
  simp [this]
def Hr:Sig:= {X:=List UInt8,args:=fun x=>[.str x],pre:=fun x=>x.length<2^63,Y:=Unit,post:=fun x y=>True,res:=fun x y=> .bool (CK x),outs:=fun x y=>[.top],keep:=false}
theorem a8h:Ai G Tryz.prog 168 Hr:=
 vcFun_okP [(194,0,Nn)] [] false (fun x=>[]) Tryz.func168 rfl (by decide) ⟨a7n,trivial⟩ (fun(x:List UInt8)=>(∀(y:Unit),True→True∧True∧True)∧Aa (x== #[(38:UInt8),(38:UInt8)].toList) (rA Hr x [.bool true,.top]) (Aa (x== #[(124:UInt8),(124:UInt8)].toList) (rA Hr x [.bool true,.top]) (Aa (x== #[(61:UInt8),(61:UInt8)].toList) (rA Hr x [.bool true,.top]) (Aa (x== #[(61:UInt8),(62:UInt8)].toList) (rA Hr x [.bool true,.top]) (Aa (x== #[(46:UInt8),(46:UInt8)].toList) (rA Hr x [.bool true,.top]) (Aa ((↑(List.length x):Int)==(1:Int)) (cA Nn [.str #[(40:UInt8),(41:UInt8),(123:UInt8),(125:UInt8),(91:UInt8),(93:UInt8),(59:UInt8),(44:UInt8),(46:UInt8),(61:UInt8),(43:UInt8),(45:UInt8),(42:UInt8),(60:UInt8),(63:UInt8),(58:UInt8)].toList,.str x] fun x_1 y=>rA Hr x [.bool (decide (CM x_1.1 (List.headD x_1.2 (0:UInt8))≥(0:Int))),.top]) (rA Hr x [.bool false,.top]))))))) (fun x=>by kernel_rfl) fun(x:List UInt8) (hx:x.length<2^63)=>(by
 dsimp only[cA,rA,Hr,Nn,Au,Az,mvL,lnL,mvE,lnE]
 (repeat' first|(with_reducible first|rfl|exact True.intro|apply AK|apply And.intro|((first|apply AA|apply AI|apply AB|apply AJ)<;>intro _))|(apply Ax<;>intro _)|apply AH|refine Ae () ?_ ?_|((first|apply AO|apply AN|apply AM|apply AL|apply AG|apply AF|apply AE|apply AD|apply AC)<;>try dsimp only)|apply Ae|(refine Prod.forall.2 ?_;intro _;try dsimp only)|(intro _;try dsimp only))<;>(try dsimp only at*)<;>(try simp only[AR,List.length_cons,List.length_nil])<;>(try omega)
 ·rename_i h;simp [CK,mk2,h]
 ·rename_i h;simp [CK,mk2,h]
 ·rename_i h;simp [CK,mk2,h]
 ·rename_i h;simp [CK,mk2,h]
 ·rename_i h;simp [CK,mk2,h]
 ·rename_i h1 h2 h3 h4 h5 h _ _
  have h:x.length=1:=by omega
  match x,h with
  |[c],_=>exact a8g.trans (by simp [CK,mk2])
 ·rename_i h1 h2 h3 h4 h5 h
  symm;simp only[CK,mk2,Bool.or_eq_false_iff,beq_eq_false_iff_ne]
  refine⟨⟨h1,h2,h3,h4,h5⟩,?_⟩
  split
  ·simp at h
  ·rfl)
def Lt:Sig:= {X:=List UInt8,args:=fun x=>[.str x,.int .u8 32],pre:=fun x=>x.length<2^63,Y:=Unit,post:=fun x y=>True,res:=fun x y=> .str (CL x),outs:=fun x y=>[.top,.top],keep:=false}
def QU(x:List UInt8):LS:= {ι:=List UInt8,inv:=fun s=>s.length≤x.length∧CL s=CL x,regs:=fun s=>[(0,.str s),(1,.int .u8 32)],als:=[],meas:=fun s=>s.length}
theorem a8i:Ai G Tryz.prog 213 Lt:=
 vcFun_okP [] [] false (fun x=>[(1,QU x)]) Tryz.func213 rfl (by decide) trivial (fun(x:List UInt8)=>(∀(y:Unit),True→True∧True∧True∧True)∧eA (QU x) [.str x,AV.int IntKind.u8 (32:Int)]∧∀(i:List UInt8),List.length i≤List.length x∧CL i=CL x→Aa (decide ((↑(List.length i):Int)>(0:Int))) (inR IntKind.i64 ((↑(List.length i):Int)-(1:Int))∧((0:Int)≤(↑(List.length i):Int)-(1:Int)∧(↑(List.length i):Int)-(1:Int)<(↑(List.length i):Int))∧∀(c:UInt8),i[Int.toNat ((↑(List.length i):Int)-(1:Int))]? =some c→Aa ((↑(UInt8.toNat c):Int)==(32:Int)) (inR IntKind.i64 ((↑(List.length i):Int)-(1:Int))∧((0:Int)≤(0:Int)∧(0:Int)≤(↑(List.length i):Int)-(1:Int)∧(↑(List.length i):Int)-(1:Int)≤(↑(List.length i):Int))∧eN (QU x) i [.str (List.take (Int.toNat ((↑(List.length i):Int)-(1:Int))) i),AV.int IntKind.u8 (32:Int)]) (rA Lt x [.str i,.top,.top])) (rA Lt x [.str i,.top,.top])) (fun x=>by kernel_rfl) fun(x:List UInt8) (hx:x.length<2^63)=>(by
 dsimp only[eA,eN,QU,rA,Lt,Au,Az,Bq]
 (repeat' first|(with_reducible first|rfl|exact True.intro|apply AK|apply And.intro|((first|apply AA|apply AI|apply AB|apply AJ)<;>intro _))|(apply Ax<;>intro _)|apply AH|refine Ae () ?_ ?_|((first|apply AO|apply AN|apply AM|apply AL|apply AG|apply AF|apply AE|apply AD|apply AC)<;>try dsimp only)|apply Ae|(refine Prod.forall.2 ?_;intro _;try dsimp only)|(intro _;try dsimp only))<;>(try dsimp only at*)<;>(try simp only[AR,List.length_cons,List.length_nil])<;>(try omega)
 ·rename_i s hs h c hc h2;simp;omega
 ·rename_i s hs h c hc h2;simp;omega
 ·rename_i s hs h c hc h2
  have e:((s.length:Int)-1).toNat=s.length-1:=by omega
  rw[e] at hc ⊢
  rw[←hs.2,ZP hc,if_pos (by omega)]
 ·rename_i s hs h c hc h2
  have e:((s.length:Int)-1).toNat=s.length-1:=by omega
  rw[e] at hc
  rw[←hs.2,ZP hc,if_neg (by omega)]
 ·rename_i s hs h
  have:s=[]:=List.length_eq_zero_iff.1 (by omega)
  rw[←hs.2,this];rfl)
def Lu:Sig:= {X:=List UInt8,args:=fun x=>[.str x,.str [32]],pre:=fun x=>x.length<2^63,Y:=Unit,post:=fun x y=>True,res:=fun x y=> .str (CL x),outs:=fun x y=>[.top,.top],keep:=false}
theorem a8j:Ai G Tryz.prog 193 Lu:=
 vcFun_okP [(213,0,Lt)] [] false (fun x=>[]) Tryz.func193 rfl (by decide) ⟨a8i,trivial⟩ (fun(x:List UInt8)=>(∀(y:Unit),True→True∧True∧True∧True)∧Aa (x== #[].toList) (rA Lu x [.str x,.top,.top]) (((0:Int)≤(0:Int)∧(0:Int)<(↑(1:Nat):Int))∧∀(c:UInt8),[(32:UInt8)][(0:Nat)]? =some c→Aa (decide ((↑(UInt8.toNat c):Int)<(128:Int))) (((0:Int)≤(0:Int)∧(0:Int)<(↑(1:Nat):Int))∧∀(c:UInt8),[(32:UInt8)][(0:Nat)]? =some c→cA Lt [.str x,AV.int IntKind.u8 (↑(UInt8.toNat c):Int)] fun x_1 y=>rA Lu x [.str (CL x_1),.top,.top]) False)) (fun x=>by kernel_rfl) fun(x:List UInt8) (hx:x.length<2^63)=>(by
 dsimp only[cA,rA,Lt,Lu,Au,Az,mvL,lnL,mvE,lnE]
 refine⟨fun _ _=>⟨trivial,trivial,trivial,trivial⟩,AB (fun h=>⟨(),trivial,by rw[h];rfl,trivial⟩) (fun h=>⟨by omega,fun c hc=> ?_⟩)⟩
 have hc:32=c:=by simpa using hc
 subst hc
 refine AA (fun _=>⟨by omega,fun c hc=> ?_⟩) (fun h=>(h (by decide)).elim)
 have hc:32=c:=by simpa using hc
 subst hc
 exact⟨x,hx,rfl,rfl,fun _ _=>⟨(),trivial,rfl,trivial⟩⟩)
def Nr:Sig:= {X:=List UInt8,args:=fun x=>[.str x],pre:=fun x=>x.length<2^63,Y:=Unit,post:=fun x y=>True,res:=fun x y=> .str (CL x),outs:=fun x y=>[.top],keep:=false}
theorem a8k:Ai G Tryz.prog 166 Nr:=
 vcFun_okP [(193,0,Lu)] [] false (fun x=>[]) Tryz.func166 rfl (by decide) ⟨a8j,trivial⟩ (fun(x:List UInt8)=>(∀(y:Unit),True→True∧True∧True)∧cA Lu [.str x,.str #[(32:UInt8)].toList] fun x_1 y=>rA Nr x [.str (CL x_1),.top]) (fun x=>by kernel_rfl) fun(x:List UInt8) (hx:x.length<2^63)=>(by
 dsimp only[cA,rA,Nr,Lu,Au,Az,mvL,lnL,mvE,lnE]
 (repeat' first|(with_reducible first|rfl|exact True.intro|apply AK|apply And.intro|((first|apply AA|apply AI|apply AB|apply AJ)<;>intro _))|(apply Ax<;>intro _)|apply AH|refine Ae () ?_ ?_|((first|apply AO|apply AN|apply AM|apply AL|apply AG|apply AF|apply AE|apply AD|apply AC)<;>try dsimp only)|apply Ae|(refine Prod.forall.2 ?_;intro _;try dsimp only)|(intro _;try dsimp only))<;>(try dsimp only at*)<;>(try simp only[AR,List.length_cons,List.length_nil])<;>(try omega))
def IL:Sig:= {X:=List UInt8,args:=fun x=>[.str x],pre:=fun x=>x.length<2^63,Y:=Unit,post:=fun x y=>True,res:=fun x y=> .str (CL x),outs:=fun x y=>[.top],keep:=false}
def QV(x:List UInt8):LS:= {ι:=Int,inv:=fun i=>0≤i∧i≤x.length∧CL (x.take i.toNat)=CL x,regs:=fun i=>[(0,.str x),(3,.int .i64 i)],als:=[],meas:=fun i=>i.toNat}
theorem a0c:Ai G Tryz.prog 84 IL:=
 vcFun_okP [] [] false (fun x=>[(2,QV x)]) Tryz.func84 rfl (by decide) trivial (fun(x:List UInt8)=>(∀(y:Unit),True→True∧True∧True)∧eA (QV x) [.str x,.int .i64 (↑(List.length x):Int)]∧∀(i:Int),(0:Int)≤i∧i≤(↑(List.length x):Int)∧CL (List.take (Int.toNat i) x)=CL x→Aa (decide (i>(0:Int))) (inR IntKind.i64 (i-(1:Int))∧((0:Int)≤i-(1:Int)∧i-(1:Int)<(↑(List.length x):Int))∧∀(c:UInt8),x[Int.toNat (i-(1:Int))]? =some c→Aa ((↑(UInt8.toNat c):Int)==(32:Int)) (inR IntKind.i64 (i-(1:Int))∧eN (QV x) i [.str x,.int .i64 (i-(1:Int))]) (((0:Int)≤(0:Int)∧(0:Int)≤i∧i≤(↑(List.length x):Int))∧rA IL x [.str (List.take (Int.toNat i) x),.top])) (((0:Int)≤(0:Int)∧(0:Int)≤i∧i≤(↑(List.length x):Int))∧rA IL x [.str (List.take (Int.toNat i) x),.top])) (fun x=>by kernel_rfl) fun(x:List UInt8) (hx:x.length<2^63)=>(by
 dsimp only[eA,eN,QV,rA,IL,Au,Az,Bq]
 (repeat' first|(with_reducible first|rfl|exact True.intro|apply AK|apply And.intro|((first|apply AA|apply AI|apply AB|apply AJ)<;>intro _))|(apply Ax<;>intro _)|apply AH|refine Ae () ?_ ?_|((first|apply AO|apply AN|apply AM|apply AL|apply AG|apply AF|apply AE|apply AD|apply AC)<;>try dsimp only)|apply Ae|(refine Prod.forall.2 ?_;intro _;try dsimp only)|(intro _;try dsimp only))<;>(try dsimp only at*)<;>(try simp only[AR,List.length_cons,List.length_nil])<;>(try omega)
 ·simp
 ·rename_i i hi h c hc h2
  rw[←hi.2.2,show i.toNat=(i-1).toNat+1 by omega,ZQ hc,if_pos (by omega)]
 ·rename_i i hi h c hc h2
  have:=hi.2.2
  rw[show i.toNat=(i-1).toNat+1 by omega,ZQ hc,if_neg (by omega)] at this
  rw[←this,show i.toNat=(i-1).toNat+1 by omega]
 ·rename_i i hi h
  rw[←hi.2.2,show i.toNat=0 by omega];rfl)
theorem a8l(s:List UInt8)(c:UInt8):CM s c= -1∨(0≤CM s c∧CM s c<s.length):=by
 unfold CM
 split
 ·exact .inl rfl
 ·rename_i i h;have:=Vo h;omega
theorem a0d{s:List UInt8}:DG s=if CM (s.drop 1) 39<0 then([],false) else(s.take (CM (s.drop 1) 39+2).toNat,(s.take (CM (s.drop 1) 39+2).toNat).all Cm):=by
 unfold DG CM
 have e:(fun c:UInt8=>decide (c.toNat=39))=fun d:UInt8=>decide (d.toNat=(39:UInt8).toNat):=rfl
 rw[e]
 cases DY (fun d:UInt8=>decide (d.toNat=(39:UInt8).toNat)) (s.drop 1) with
 |none=>simp
 |some i=>
  have h1:¬(i:Int)<0:=by omega
  have h2:((i:Int)+2).toNat=i+2:=by omega
  simp only[if_neg h1,h2]
def Lv:Sig:= {X:=List UInt8,args:=fun x=>[.str x],pre:=fun x=>1≤x.length∧x.length<2^62,Y:=Unit,post:=fun x y=>True,res:=fun x y=> .tup [.str (DG x).1,.bool (DG x).2],outs:=fun x y=>[.top],keep:=false}
theorem a8m:Ai G Tryz.prog 163 Lv:=
 vcFun_okP [(191,0,Nl),(167,0,HS)] [] false (fun x=>[]) Tryz.func163 rfl (by decide) ⟨a7k,ZN,trivial⟩ (fun(x:List UInt8)=>(∀(y:Unit),True→(True∧True∧True)∧True∧True)∧((0:Int)≤(1:Int)∧(1:Int)≤(↑(List.length x):Int)∧(↑(List.length x):Int)≤(↑(List.length x):Int))∧cA Nl [.str (List.drop (1:Nat) x),AV.int IntKind.u8 (39:Int)] fun x_1 y=>Aa (decide (CM x_1 (39:UInt8)<(0:Int))) (rA Lv x [.tup [.str #[].toList,.bool false],.top]) (inR IntKind.i64 (CM x_1 (39:UInt8)+(2:Int))∧((0:Int)≤(0:Int)∧(0:Int)≤CM x_1 (39:UInt8)+(2:Int)∧CM x_1 (39:UInt8)+(2:Int)≤(↑(List.length x):Int))∧cA HS [.str (List.take (Int.toNat (CM x_1 (39:UInt8)+(2:Int))) x)] fun x_2 y=>rA Lv x [.tup [.str (List.take (Int.toNat (CM x_1 (39:UInt8)+(2:Int))) x),.bool (List.all x_2 Cm)],.top])) (fun x=>by kernel_rfl) fun(x:List UInt8) (hx:1≤x.length∧x.length<2^62)=>(by
 dsimp only[cA,rA,HS,Lv,Nl,Au,Az,mvL,lnL,mvE,lnE]
 obtain⟨h1,h2⟩:=hx
 have hq:=a8l (x.drop 1) 39;have hl:(x.drop 1).length=x.length-1:=by simp
 (repeat' first|(with_reducible first|rfl|exact True.intro|apply AK|apply And.intro|((first|apply AA|apply AI|apply AB|apply AJ)<;>intro _))|(apply Ax<;>intro _)|apply AH|refine Ae () ?_ ?_|((first|apply AO|apply AN|apply AM|apply AL|apply AG|apply AF|apply AE|apply AD|apply AC)<;>try dsimp only)|apply Ae|(refine Prod.forall.2 ?_;intro _;try dsimp only)|(intro _;try dsimp only))<;>(try dsimp only at*)<;>(try simp only[AR,List.length_cons,List.length_nil])<;>(try omega)
 all_goals first
  |omega
  |(rw[a0d,if_neg ‹¬CM _ 39<0›];done)
  |(rw[a0d,if_pos ‹CM _ 39<0›];done)
  |(simp;omega))
def Gc:Sig:= {X:=List UInt8,args:=fun x=>[.str x],pre:=fun x=>1≤x.length∧x.length<2^62,Y:=Unit,post:=fun x y=>True,res:=fun x y=> .tup [.int .i64 (Bb x).kind,.str (Bb x).text,.int .i64 (Bb x).size,.bool (Bb x).ok],outs:=fun x y=>[.top],keep:=false}
def QW(x:List UInt8):LS:= {ι:=Int,inv:=fun i=>HT x i,regs:=fun i=>[(0,.str x),(12,.int .i64 i)],als:=[],meas:=fun i=>i.toNat}
theorem a0e:Ai G Tryz.prog 131 Gc:=
 vcFun_okP [(159,0,FB),(160,161+1,Lq),(162,0,GJ),(160,162+1,Lr),(163,0,Lv),(164,0,No),(160,165+1,Ls),(166,0,Nr),(167,0,HS),(168,0,Hr)] [] false (fun x=>[(15,QW x)]) Tryz.func131 rfl (by decide) ⟨ZJ,a7s,Vm,a7t,a8m,a7p,a7u,a8k,ZN,a8h,trivial⟩ (fun(x:List UInt8)=>(∀(y:Unit),True→(True∧True∧True∧True∧True)∧True∧True)∧((0:Int)≤(0:Int)∧(0:Int)<(↑(List.length x):Int))∧∀(c:UInt8),x[(0:Nat)]? =some c→cA FB [AV.int IntKind.u8 (↑(UInt8.toNat c):Int)] fun x_1 y=>Aa (Cw x_1) (cA Lq [.str x,AV.clo (Fn.func (84:Nat)) []] fun x_2 y=>rA Gc x [.tup [.int .i64 (1:Int),.str (List.takeWhile BP x_2),.int .i64 (↑(List.length (List.takeWhile BP x_2)):Int),.bool (decide ((↑(List.length (List.takeWhile BP x_2)):Int)≤(30:Int)))],.top]) (cA GJ [AV.int IntKind.u8 (↑(UInt8.toNat c):Int)] fun x_2 y=>Aa (Bh x_2) (cA Lr [.str x,AV.clo (Fn.func (85:Nat)) []] fun x_3 y=>rA Gc x [.tup [.int .i64 (2:Int),.str (List.takeWhile Bh x_3),.int .i64 (↑(List.length (List.takeWhile Bh x_3)):Int),.bool (decide ((↑(List.length (List.takeWhile Bh x_3)):Int)≤(12:Int)))],.top]) (Aa ((↑(UInt8.toNat c):Int)==(39:Int)) (cA Lv [.str x] fun x_3 y=>rA Gc x [.tup [.int .i64 (3:Int),.str (DG x_3).1,.int .i64 (↑(List.length (DG x_3).1):Int),.bool (DG x_3).2],.top]) (cA No [.str x,.str #[(47:UInt8),(47:UInt8)].toList] fun x_3 y=>Aa (List.take (List.length x_3.2) x_3.1==x_3.2) (cA Ls [.str x,AV.clo (Fn.func (88:Nat)) []] fun x_4 y=>cA Nr [.str (List.takeWhile Ch x_4)] fun x_5 y=>cA HS [.str (List.takeWhile Ch x_4)] fun x_6 y=>rA Gc x [.tup [.int .i64 (5:Int),.str (CL x_5),.int .i64 (↑(List.length (List.takeWhile Ch x_4)):Int),.bool (List.all x_6 Cm)],.top]) (eA (QW x) [.str x,.int .i64 (min (2:Int) (↑(List.length x):Int))]∧∀(i:Int),HT x i→Aa (decide (i>(0:Int))) (((0:Int)≤(0:Int)∧(0:Int)≤i∧i≤(↑(List.length x):Int))∧cA Hr [.str (List.take (Int.toNat i) x)] fun x_4 y=>Aa (CK x_4) (true=true∧true=true∧((0:Int)≤(0:Int)∧(0:Int)≤i∧i≤(↑(List.length x):Int))∧rA Gc x [.tup [.int .i64 (4:Int),.str (List.take (Int.toNat i) x),.int .i64 i,.bool true],.top]) (inR IntKind.i64 (i-(1:Int))∧eN (QW x) i [.str x,.int .i64 (i-(1:Int))])) (rA Gc x [.tup [.int .i64 (0:Int),.str #[].toList,.int .i64 (0:Int),.bool false],.top])))))) (fun x=>by kernel_rfl) fun(x:List UInt8) (hx:1≤x.length∧x.length<2^62)=>(by
 dsimp only[cA,eA,eN,QW,rA,Nr,GJ,FB,HS,Hr,Lv,Lr,Lq,Ls,No,Gc,Au,Az,mvL,lnL,mvE,lnE,Bq]
 obtain⟨h1,h2⟩:=hx
 have h3:x.length<9223372036854775808:=by omega
 match x,h1,h2,h3 with
 |b::t,h1,h2,h3=>
 (repeat' first|(with_reducible first|rfl|exact True.intro|apply AK|apply And.intro|((first|apply AA|apply AI|apply AB|apply AJ)<;>intro _))|(apply Ax<;>intro _)|apply AH|refine Ae () ?_ ?_|((first|apply AO|apply AN|apply AM|apply AL|apply AG|apply AF|apply AE|apply AD|apply AC)<;>try dsimp only)|apply Ae|(refine Prod.forall.2 ?_;intro _;try dsimp only)|(intro _;try dsimp only))<;>(try dsimp only at*)<;>(try simp only[AR,List.length_cons,List.length_nil])<;>(try omega)
 all_goals(try simp only[List.getElem?_cons_zero,Option.some.injEq] at*)
 all_goals(try subst_vars)
 all_goals first
  |exact h3
  |(rw[a7z ‹_›];done)
  |(rw[a7A ‹_› ‹_›];done)
  |(rw[a7B ‹_› ‹_› ‹_›];done)
  |(rw[a7C ‹_› ‹_› ‹_› ‹_›];done)
  |(rw[a7v ‹_› h1 ‹_› ‹_›];done)
  |(rw[a7w ‹_› h1 ‹_›];done)
  |exact a7x ‹_› ‹_› ‹_›
  |exact a7y ‹_› ‹_› (by omega) ‹_›
  |exact Nat.lt_of_le_of_lt (List.takeWhile_prefix _).length_le h3
  |(have hI:=(‹HT _ _› :HT _ _).1;rw[List.length_cons] at hI;omega)
  |(have hI:=(‹HT _ _› :HT _ _).1;rw[List.length_take];omega)
  |trace_state)
def FD:Sig:= {X:=List UInt8×Int,args:=fun x=>[.str x.1,.int .i64 x.2],pre:=fun x=>x.1.length<2^62,Y:=Unit,post:=fun x y=>True,res:=fun x y=> .bool (Cx x.1 x.2),outs:=fun x y=>[.top,.top],keep:=false}
theorem a0f:Ai G Tryz.prog 139 FD:=
 vcFun_okP [(131,0,Gc)] [] false (fun x=>[]) Tryz.func139 rfl (by decide) ⟨a0e,trivial⟩ (fun(x:List UInt8×Int)=>(∀(y:Unit),True→True∧True∧True∧True)∧Aa (x.1== #[].toList) (rA FD x [.bool false,.top,.top]) (cA Gc [.str x.1] fun x_1 y=>Aa (Bb x_1).ok (Aa ((Bb x_1).kind==x.2) (Aa ((Bb x_1).text==x.1) (rA FD x [.bool ((Bb x_1).size==(↑(List.length x.1):Int)),.top,.top]) (rA FD x [.bool false,.top,.top])) (rA FD x [.bool false,.top,.top])) (rA FD x [.bool false,.top,.top]))) (fun x=>by kernel_rfl) fun(x:List UInt8×Int) (hx:x.1.length<2^62)=>(by
 dsimp only[cA,rA,FD,Gc,Au,Az,mvL,lnL,mvE,lnE]
 (repeat' first|(with_reducible first|rfl|exact True.intro|apply AK|apply And.intro|((first|apply AA|apply AI|apply AB|apply AJ)<;>intro _))|(apply Ax<;>intro _)|apply AH|refine Ae () ?_ ?_|((first|apply AO|apply AN|apply AM|apply AL|apply AG|apply AF|apply AE|apply AD|apply AC)<;>try dsimp only)|apply Ae|(refine Prod.forall.2 ?_;intro _;try dsimp only)|(intro _;try dsimp only))<;>(try dsimp only at*)<;>(try simp only[AR,List.length_cons,List.length_nil])<;>(try omega)
 all_goals first
  |exact List.length_pos_iff.2 ‹_›
  |(simp [Cx, *];done)
  |(rw[Bool.eq_iff_iff];simp [Cx, *];done))
def Hs:Sig:= {X:=List UInt8,args:=fun x=>[.str x],pre:=fun x=>x.length<2^62,Y:=Unit,post:=fun x y=>True,res:=fun x y=> .bool (DZ x),outs:=fun x y=>[.top],keep:=false}
theorem a8n:Ai G Tryz.prog 138 Hs:=
 vcFun_okP [(139,0,FD),(182,0,FC)] [] false (fun x=>[]) Tryz.func138 rfl (by decide) ⟨a0f,a0b,trivial⟩ (fun(x:List UInt8)=>(∀(y:Unit),True→True∧True∧True)∧cA FD [.str x,.int .i64 (1:Int)] fun x_1 y=>Aa (Cx x_1.1 x_1.2) (cA FC [.str x] fun x_2 y=>rA Hs x [.bool !kw x_2,.top]) (rA Hs x [.bool false,.top])) (fun x=>by kernel_rfl) fun(x:List UInt8) (hx:x.length<2^62)=>(by
 dsimp only[cA,rA,FC,Hs,FD,Au,Az,mvL,lnL,mvE,lnE]
 (repeat' first|(with_reducible first|rfl|exact True.intro|apply AK|apply And.intro|((first|apply AA|apply AI|apply AB|apply AJ)<;>intro _))|(apply Ax<;>intro _)|apply AH|refine Ae () ?_ ?_|((first|apply AO|apply AN|apply AM|apply AL|apply AG|apply AF|apply AE|apply AD|apply AC)<;>try dsimp only)|apply Ae|(refine Prod.forall.2 ?_;intro _;try dsimp only)|(intro _;try dsimp only))<;>(try dsimp only at*)<;>(try simp only[AR,List.length_cons,List.length_nil])<;>(try omega)
 all_goals simp [DZ, *])
def DM:Sig:= {X:=Nd,args:=fun x=>[.agg (ndA false x)],pre:=fun x=>x.text.length<2^62,Y:=Unit,post:=fun x y=>True,res:=fun x y=> .bool (Fj x.kind x.text),outs:=fun x y=>[.top],keep:=false}
theorem a8o:Ai G Tryz.prog 112 DM:=
 vcFun_okP [(139,0,FD),(138,0,Hs)] [] false (fun x=>[]) Tryz.func112 rfl (by decide) ⟨a0f,a8n,trivial⟩ (fun(x:Nd)=>(∀(y:Unit),True→True∧True∧True)∧Aa (x.kind==(1:Int)) (cA Hs [.str x.text] fun x_1 y=>rA DM x [.bool (DZ x_1),.top]) (Aa (x.kind==(6:Int)) (cA Hs [.str x.text] fun x_1 y=>rA DM x [.bool (DZ x_1),.top]) (Aa (x.kind==(12:Int)) (cA Hs [.str x.text] fun x_1 y=>rA DM x [.bool (DZ x_1),.top]) (Aa (x.kind==(13:Int)) (cA Hs [.str x.text] fun x_1 y=>rA DM x [.bool (DZ x_1),.top]) (Aa (x.kind==(20:Int)) (cA Hs [.str x.text] fun x_1 y=>rA DM x [.bool (DZ x_1),.top]) (Aa (x.kind==(21:Int)) (cA Hs [.str x.text] fun x_1 y=>rA DM x [.bool (DZ x_1),.top]) (Aa (x.kind==(2:Int)) (cA FD [.str x.text,.int .i64 (2:Int)] fun x_1 y=>rA DM x [.bool (Cx x_1.1 x_1.2),.top]) (Aa (x.kind==(3:Int)) (cA FD [.str x.text,.int .i64 (3:Int)] fun x_1 y=>rA DM x [.bool (Cx x_1.1 x_1.2),.top]) (Aa (x.kind==(19:Int)) (cA FD [.str x.text,.int .i64 (5:Int)] fun x_1 y=>rA DM x [.bool (Cx x_1.1 x_1.2),.top]) (Aa (x.kind==(7:Int)) (Aa (x.text== #[(38:UInt8),(38:UInt8)].toList) (rA DM x [.bool true,.top]) (Aa (x.text== #[(124:UInt8),(124:UInt8)].toList) (rA DM x [.bool true,.top]) (Aa (x.text== #[(61:UInt8),(61:UInt8)].toList) (rA DM x [.bool true,.top]) (Aa (x.text== #[(60:UInt8)].toList) (rA DM x [.bool true,.top]) (Aa (x.text== #[(43:UInt8)].toList) (rA DM x [.bool true,.top]) (Aa (x.text== #[(45:UInt8)].toList) (rA DM x [.bool true,.top]) (Aa (x.text== #[(42:UInt8)].toList) (rA DM x [.bool true,.top]) (rA DM x [.bool false,.top])))))))) (rA DM x [.bool (x.text== #[].toList),.top]))))))))))) (fun x=>by kernel_rfl) fun(x:Nd) (hx:x.text.length<2^62)=>(by
 dsimp only[cA,Bc,rA,Hs,FD,DM,Au,Az,mvL,lnL,mvE,lnE]
 (repeat' first|(with_reducible first|rfl|exact True.intro|apply AK|apply And.intro|((first|apply AA|apply AI|apply AB|apply AJ)<;>intro _))|(apply Ax<;>intro _)|apply AH|refine Ae () ?_ ?_|((first|apply AO|apply AN|apply AM|apply AL|apply AG|apply AF|apply AE|apply AD|apply AC)<;>try dsimp only)|apply Ae|(refine Prod.forall.2 ?_;intro _;try dsimp only)|(intro _;try dsimp only))<;>(try dsimp only at*)<;>(try simp only[AR,List.length_cons,List.length_nil])<;>(try omega)
 all_goals simp [Fj,Pa, *])
def HU:Sig:= {X:=List UInt8×Int,args:=fun x=>[.str x.1,.int .i64 x.2],pre:=fun x=>0≤x.2∧x.2≤x.1.length∧x.1.length<2^62,Y:=Unit,post:=fun x y=>True,res:=fun x y=> .int .i64 (CG (x.1.drop x.2.toNat)),outs:=fun x y=>[.top,.top],keep:=false}
def QX(x:List UInt8×Int):LS:= {ι:=Int,inv:=fun i=>qI x i,regs:=fun i=>[(0,.str x.1),(1,.int .i64 x.2),(5,.int .i64 i)],als:=[],meas:=fun i=>x.1.length-i.toNat}
theorem a0g:Ai G Tryz.prog 87 HU:=
 vcFun_okP [(107,0,IK)] [] false (fun x=>[(2,QX x)]) Tryz.func87 rfl (by decide) ⟨ZL,trivial⟩ (fun(x:List UInt8×Int)=>(∀(y:Unit),True→True∧True∧True∧True)∧inR IntKind.i64 (x.2+(1:Int))∧eA (QX x) [.str x.1,.int .i64 x.2,.int .i64 (x.2+(1:Int))]∧∀(i:Int),qI x i→Aa (decide (i<(↑(List.length x.1):Int))) (((0:Int)≤i∧i<(↑(List.length x.1):Int))∧∀(c:UInt8),x.1[Int.toNat i]? =some c→Aa ((↑(UInt8.toNat c):Int)==(39:Int)) (inR IntKind.i64 (i+(1:Int))∧inR IntKind.i64 (i+(1:Int)-x.2)∧rA HU x [.int .i64 (i+(1:Int)-x.2),.top,.top]) (((0:Int)≤i∧i<(↑(List.length x.1):Int))∧∀(c:UInt8),x.1[Int.toNat i]? =some c→cA IK [AV.int IntKind.u8 (↑(UInt8.toNat c):Int)] fun x_1 y=>Aa (!Cm x_1) (rA HU x [.int .i64 (0:Int),.top,.top]) (inR IntKind.i64 (i+(1:Int))∧eN (QX x) i [.str x.1,.int .i64 x.2,.int .i64 (i+(1:Int))]))) (rA HU x [.int .i64 (0:Int),.top,.top])) (fun x=>by kernel_rfl) fun(x:List UInt8×Int) (hx:0≤x.2∧x.2≤x.1.length∧x.1.length<2^62)=>(by
 dsimp only[cA,eA,eN,QX,rA,IK,HU,Au,Az,mvL,lnL,mvE,lnE,Bq]
 obtain⟨h1,h2,h3⟩:=hx
 (repeat' first|(with_reducible first|rfl|exact True.intro|apply AK|apply And.intro|((first|apply AA|apply AI|apply AB|apply AJ)<;>intro _))|(apply Ax<;>intro _)|apply AH|refine Ae () ?_ ?_|((first|apply AO|apply AN|apply AM|apply AL|apply AG|apply AF|apply AE|apply AD|apply AC)<;>try dsimp only)|apply Ae|(refine Prod.forall.2 ?_;intro _;try dsimp only)|(intro _;try dsimp only))<;>(try dsimp only at*)<;>(try simp only[AR,List.length_cons,List.length_nil])<;>(try omega)
 all_goals first
  |exact a7K
  |exact a7M h1 ‹_› ‹_› ‹_›
  |exact a7N h1 ‹_› ‹_› ‹_› ‹_› ‹_›
  |exact a7O h1 ‹_› ‹_› ‹_› ‹_› ‹_› ‹_›
  |exact a7P h1 ‹_› ‹_›
  |(have hI:=a7L ‹_›;omega))
def GK:Sig:= {X:=List UInt8×Int,args:=fun x=>[.str x.1,.int .i64 x.2],pre:=fun x=>0≤x.2∧x.2≤x.1.length∧x.1.length<2^62,Y:=Unit,post:=fun x y=>True,res:=fun x y=> .int .i64 (Ct (x.1.drop x.2.toNat)),outs:=fun x y=>[.top,.top],keep:=false}
def QY(x:List UInt8×Int):LS:= {ι:=Int,inv:=fun i=>nI x i,regs:=fun i=>[(0,.str x.1),(1,.int .i64 x.2),(5,.int .i64 i)],als:=[],meas:=fun i=>x.1.length-i.toNat}
theorem a0h:Ai G Tryz.prog 83 GK:=
 vcFun_okP [(107,0,IK)] [] false (fun x=>[(4,QY x)]) Tryz.func83 rfl (by decide) ⟨ZL,trivial⟩ (fun(x:List UInt8×Int)=>(∀(y:Unit),True→True∧True∧True∧True)∧inR IntKind.i64 (x.2+(2:Int))∧Aa (decide (x.2+(2:Int)>(↑(List.length x.1):Int))) (rA GK x [.int .i64 (0:Int),.top,.top]) (inR IntKind.i64 (x.2+(2:Int))∧((0:Int)≤x.2∧x.2≤x.2+(2:Int)∧x.2+(2:Int)≤(↑(List.length x.1):Int))∧Aa (!List.drop (Int.toNat x.2) (List.take (Int.toNat (x.2+(2:Int))) x.1)== #[(47:UInt8),(47:UInt8)].toList) (rA GK x [.int .i64 (0:Int),.top,.top]) (eA (QY x) [.str x.1,.int .i64 x.2,.int .i64 x.2]∧∀(i:Int),nI x i→Aa (decide (i<(↑(List.length x.1):Int))) (((0:Int)≤i∧i<(↑(List.length x.1):Int))∧∀(c:UInt8),x.1[Int.toNat i]? =some c→Aa ((↑(UInt8.toNat c):Int) != (10:Int)) (((0:Int)≤i∧i<(↑(List.length x.1):Int))∧∀(c:UInt8),x.1[Int.toNat i]? =some c→cA IK [AV.int IntKind.u8 (↑(UInt8.toNat c):Int)] fun x_1 y=>Aa (!Cm x_1) (rA GK x [.int .i64 (0:Int),.top,.top]) (inR IntKind.i64 (i+(1:Int))∧eN (QY x) i [.str x.1,.int .i64 x.2,.int .i64 (i+(1:Int))])) (inR IntKind.i64 (i-x.2)∧rA GK x [.int .i64 (i-x.2),.top,.top])) (inR IntKind.i64 (i-x.2)∧rA GK x [.int .i64 (i-x.2),.top,.top])))) (fun x=>by kernel_rfl) fun(x:List UInt8×Int) (hx:0≤x.2∧x.2≤x.1.length∧x.1.length<2^62)=>(by
 dsimp only[cA,eA,eN,QY,rA,GK,IK,Au,Az,mvL,lnL,mvE,lnE,Bq]
 obtain⟨h1,h2,h3⟩:=hx
 (repeat' first|(with_reducible first|rfl|exact True.intro|apply AK|apply And.intro|((first|apply AA|apply AI|apply AB|apply AJ)<;>intro _))|(apply Ax<;>intro _)|apply AH|refine Ae () ?_ ?_|((first|apply AO|apply AN|apply AM|apply AL|apply AG|apply AF|apply AE|apply AD|apply AC)<;>try dsimp only)|apply Ae|(refine Prod.forall.2 ?_;intro _;try dsimp only)|(intro _;try dsimp only))<;>(try dsimp only at*)<;>(try simp only[AR,List.length_cons,List.length_nil])<;>(try omega)
 all_goals first
  |exact a7S h1 ‹_›
  |exact a7R h1 ‹_›
  |exact a7Q h1 h2 ‹_›
  |exact a7T h1 ‹_› ‹_› ‹_› ‹_› ‹_›
  |exact a7U h1 ‹_› ‹_› ‹_› ‹_› ‹_› ‹_›
  |exact a7V h1 ‹_› ‹_› ‹_›
  |exact a7W h1 ‹_› ‹_›
  |(have hI:=(‹nI _ _› :nI _ _).1;omega))
def FE:Sig:= {X:=List UInt8,args:=fun x=>[.str x],pre:=fun x=>x.length<2^62,Y:=Unit,post:=fun x y=>True,res:=fun x y=> .bool (DZ x),outs:=fun x y=>[.top],keep:=false}
def Pg(x:List UInt8):LS:= {ι:=Int,inv:=fun i=>nmI x i,regs:=fun i=>[(0,.str x),(3,.int .i64 i)],als:=[],meas:=fun i=>x.length-i.toNat}
theorem a8p:Ai G Tryz.prog 153 FE:=
 vcFun_okP [(46,0,Db),(85,0,EZ),(89,0,Gb),(86,0,FA)] [] false (fun x=>[(4,Pg x)]) Tryz.func153 rfl (by decide) ⟨Lo,ZK,Vv,Vn,trivial⟩ (fun(x:List UInt8)=>(∀(y:Unit),True→True∧True∧True)∧cA Db [.int .i64 (↑(List.length x):Int),.int .i64 (1:Int),.int .i64 (30:Int)] fun x_1 y=>Aa (!inn x_1.1 x_1.2.1 x_1.2.2) (rA FE x [.bool false,.top]) (((0:Int)≤(0:Int)∧(0:Int)<(↑(List.length x):Int))∧∀(c:UInt8),x[(0:Nat)]? =some c→cA EZ [AV.int IntKind.u8 (↑(UInt8.toNat c):Int)] fun x_2 y=>Aa (!Cw x_2) (rA FE x [.bool false,.top]) (cA Gb [.str x] fun x_3 y=>Aa (kw x_3) (rA FE x [.bool false,.top]) (eA (Pg x) [.str x,.int .i64 (0:Int)]∧∀(i:Int),nmI x i→Aa (decide (i<(↑(List.length x):Int))) (((0:Int)≤i∧i<(↑(List.length x):Int))∧∀(c:UInt8),x[Int.toNat i]? =some c→cA EZ [AV.int IntKind.u8 (↑(UInt8.toNat c):Int)] fun x_4 y=>Aa (!Cw x_4) (((0:Int)≤i∧i<(↑(List.length x):Int))∧∀(c:UInt8),x[Int.toNat i]? =some c→cA FA [AV.int IntKind.u8 (↑(UInt8.toNat c):Int)] fun x_5 y=>Aa (!Bh x_5) (rA FE x [.bool false,.top]) (inR IntKind.i64 (i+(1:Int))∧eN (Pg x) i [.str x,.int .i64 (i+(1:Int))])) (inR IntKind.i64 (i+(1:Int))∧eN (Pg x) i [.str x,.int .i64 (i+(1:Int))])) (rA FE x [.bool true,.top]))))) (fun x=>by kernel_rfl) fun(x:List UInt8) (hx:x.length<2^62)=>(by
 dsimp only[cA,eA,eN,Pg,rA,Db,FA,EZ,FE,Gb,Au,Az,mvL,lnL,mvE,lnE,Bq]
 have hp:∀h:inn x.length 1 30=true,1≤x.length:=fun h=>by simp [inn] at h;omega
 (repeat' first|(with_reducible first|rfl|exact True.intro|apply AK|apply And.intro|((first|apply AA|apply AI|apply AB|apply AJ)<;>intro _))|(apply Ax<;>intro _)|apply AH|refine Ae () ?_ ?_|((first|apply AO|apply AN|apply AM|apply AL|apply AG|apply AF|apply AE|apply AD|apply AC)<;>try dsimp only)|apply Ae|(refine Prod.forall.2 ?_;intro _;try dsimp only)|(intro _;try dsimp only))<;>(try dsimp only at*)<;>(try simp only[AR,List.length_cons,List.length_nil])<;>(try omega)
 all_goals(try(have:=hp ‹_›;omega))
 all_goals(try(have hI:=(‹nmI _ _› :nmI _ _).1;omega))
 ·rename_i h;exact Vu (fun hh=>by rw[hh.1] at h;cases h)
 ·rename_i c hc _ _ h;exact Vu (fun hh=>by rw[ZZ hc,h] at hh;cases hh.2.1)
 ·rename_i h;exact Vu (fun hh=>by rw[hh.2.2] at h;cases h)
 ·rename_i h1 c hc _ _ h2 _ _ h3;exact a7X h1 (by rw[ZZ hc];exact h2) h3
 ·rename_i i hi hl c hc _ _ h1 d hd _ _ h2
  rw[hc] at hd;cases hd
  exact a7Y hi hc (by simp [BP,h1,h2])
 ·rename_i i hi hl c hc _ _ h1 d hd _ _ h2
  rw[hc] at hd;cases hd
  exact a0a hi hc hl (by simp [BP,h2])
 ·rename_i i hi hl c hc _ _ h1
  exact a0a hi hc hl (by simp [BP,h1])
 ·exact a7Z ‹_› ‹_›)
def Lw:Sig:= {X:=List UInt8,args:=fun x=>[.str x],pre:=fun x=>x.length<2^62,Y:=Unit,post:=fun x y=>True,res:=fun x y=> .bool (Cx x 2),outs:=fun x y=>[.top],keep:=false}
theorem a8q:Ai G Tryz.prog 154 Lw:=
 vcFun_okP [(46,0,Db),(86,0,FA)] [] false (fun x=>[(2,Ei Bh x fun i=>[(0,.str x),(3,.int .i64 i)])]) Tryz.func154 rfl (by decide) ⟨Lo,Vn,trivial⟩ (fun(x:List UInt8)=>(∀(y:Unit),True→True∧True∧True)∧eA (Ei Bh x fun(i:Int)=>[((0:Nat),.str x),((3:Nat),.int .i64 i)]) [.str x,.int .i64 (0:Int)]∧∀(i:Int),((0:Int)≤i∧i≤(↑(List.length x):Int)∧∀(e:UInt8),e∈List.take (Int.toNat i) x→Bh e=true)→Aa (decide (i<(↑(List.length x):Int))) (((0:Int)≤i∧i<(↑(List.length x):Int))∧∀(c:UInt8),x[Int.toNat i]? =some c→cA FA [AV.int IntKind.u8 (↑(UInt8.toNat c):Int)] fun x_1 y=>Aa (!Bh x_1) (rA Lw x [.bool false,.top]) (inR IntKind.i64 (i+(1:Int))∧eN (Ei Bh x fun(i:Int)=>[((0:Nat),.str x),((3:Nat),.int .i64 i)]) i [.str x,.int .i64 (i+(1:Int))])) (cA Db [.int .i64 (↑(List.length x):Int),.int .i64 (1:Int),.int .i64 (12:Int)] fun x_1 y=>rA Lw x [.bool (inn x_1.1 x_1.2.1 x_1.2.2),.top])) (fun x=>by kernel_rfl) fun(x:List UInt8) (hx:x.length<2^62)=>(by
 dsimp only[cA,eA,eN,Ei,rA,Db,FA,Lw,Au,Az,mvL,lnL,mvE,lnE,Bq]
 (repeat' first|(with_reducible first|rfl|exact True.intro|apply AK|apply And.intro|((first|apply AA|apply AI|apply AB|apply AJ)<;>intro _))|(apply Ax<;>intro _)|apply AH|refine Ae () ?_ ?_|((first|apply AO|apply AN|apply AM|apply AL|apply AG|apply AF|apply AE|apply AD|apply AC)<;>try dsimp only)|apply Ae|(refine Prod.forall.2 ?_;intro _;try dsimp only)|(intro _;try dsimp only))<;>(try dsimp only at*)<;>(try simp only[AR,List.length_cons,List.length_nil])<;>(try omega)
 ·rename_i h;simp at h
 ·rename_i i hi hl c hc _ _ h;rw[Vp,QO hc h];rfl
 ·rename_i i hi hl c hc _ _ h e he
  rw[DX hi.1] at he;exact Pb hi.2.2 hc h e he
 ·rename_i i hi hl _ _;rw[Vp,Vj hi.2.2 (by omega)];simp only[Bool.true_and,inn];rw[Bool.eq_iff_iff];simp;omega)
def Kq:Sig:= {X:=List UInt8,args:=fun x=>[.str x],pre:=fun x=>x.length<2^62,Y:=Unit,post:=fun x y=>True,res:=fun x y=> .bool (Cx x 3),outs:=fun x y=>[.top],keep:=false}
theorem a8r:Ai G Tryz.prog 155 Kq:=
 vcFun_okP [(87,0,HU)] [] false (fun x=>[]) Tryz.func155 rfl (by decide) ⟨a0g,trivial⟩ (fun(x:List UInt8)=>(∀(y:Unit),True→True∧True∧True)∧Aa (decide ((↑(List.length x):Int)>(1:Int))) (((0:Int)≤(0:Int)∧(0:Int)<(↑(List.length x):Int))∧∀(c:UInt8),x[(0:Nat)]? =some c→Aa ((↑(UInt8.toNat c):Int)==(39:Int)) (cA HU [.str x,.int .i64 (0:Int)] fun x_1 y=>rA Kq x [.bool ((↑(CG (List.drop (Int.toNat x_1.2) x_1.1)):Int)==(↑(List.length x):Int)),.top]) (rA Kq x [.bool false,.top])) (rA Kq x [.bool false,.top])) (fun x=>by kernel_rfl) fun(x:List UInt8) (hx:x.length<2^62)=>(by
 dsimp only[cA,rA,HU,Kq,Au,Az,mvL,lnL,mvE,lnE]
 (repeat' first|(with_reducible first|rfl|exact True.intro|apply AK|apply And.intro|((first|apply AA|apply AI|apply AB|apply AJ)<;>intro _))|(apply Ax<;>intro _)|apply AH|refine Ae () ?_ ?_|((first|apply AO|apply AN|apply AM|apply AL|apply AG|apply AF|apply AE|apply AD|apply AC)<;>try dsimp only)|apply Ae|(refine Prod.forall.2 ?_;intro _;try dsimp only)|(intro _;try dsimp only))<;>(try dsimp only at*)<;>(try simp only[AR,List.length_cons,List.length_nil])<;>(try omega)
 ·exact a8a ‹_› ‹_› ‹_›
 ·exact a8b ‹_› ‹_›
 ·exact a8c ‹_›)
def Kr:Sig:= {X:=List UInt8,args:=fun x=>[.str x],pre:=fun x=>x.length<2^62,Y:=Unit,post:=fun x y=>True,res:=fun x y=> .bool (Cx x 5),outs:=fun x y=>[.top],keep:=false}
theorem a8s:Ai G Tryz.prog 156 Kr:=
 vcFun_okP [(83,0,GK),(84,0,IL)] [] false (fun x=>[]) Tryz.func156 rfl (by decide) ⟨a0h,a0c,trivial⟩ (fun(x:List UInt8)=>(∀(y:Unit),True→True∧True∧True)∧Aa (decide ((↑(List.length x):Int)>(1:Int))) (cA GK [.str x,.int .i64 (0:Int)] fun x_1 y=>Aa ((↑(Ct (List.drop (Int.toNat x_1.2) x_1.1)):Int)==(↑(List.length x):Int)) (cA IL [.str x] fun x_2 y=>rA Kr x [.bool (CL x_2==x),.top]) (rA Kr x [.bool false,.top])) (rA Kr x [.bool false,.top])) (fun x=>by kernel_rfl) fun(x:List UInt8) (hx:x.length<2^62)=>(by
 dsimp only[cA,rA,GK,Kr,IL,Au,Az,mvL,lnL,mvE,lnE]
 (repeat' first|(with_reducible first|rfl|exact True.intro|apply AK|apply And.intro|((first|apply AA|apply AI|apply AB|apply AJ)<;>intro _))|(apply Ax<;>intro _)|apply AH|refine Ae () ?_ ?_|((first|apply AO|apply AN|apply AM|apply AL|apply AG|apply AF|apply AE|apply AD|apply AC)<;>try dsimp only)|apply Ae|(refine Prod.forall.2 ?_;intro _;try dsimp only)|(intro _;try dsimp only))<;>(try dsimp only at*)<;>(try simp only[AR,List.length_cons,List.length_nil])<;>(try omega)
 ·exact a8d ‹_› ‹_›
 ·exact a8e ‹_›
 ·exact a8f ‹_›)
def GL:Sig:= {X:=List UInt8,args:=fun x=>[.str x],pre:=fun x=>x.length<2^62,Y:=Unit,post:=fun x y=>True,res:=fun x y=> .bool (Pa x),outs:=fun x y=>[.top],keep:=false}
theorem a8t:Ai G Tryz.prog 157 GL:=
 vcFun_okP [] [] false (fun x=>[]) Tryz.func157 rfl (by decide) trivial (fun(x:List UInt8)=>(∀(y:Unit),True→True∧True∧True)∧Aa (x== #[(38:UInt8),(38:UInt8)].toList) (rA GL x [.bool true,.top]) (Aa (x== #[(124:UInt8),(124:UInt8)].toList) (rA GL x [.bool true,.top]) (Aa (x== #[(61:UInt8),(61:UInt8)].toList) (rA GL x [.bool true,.top]) (Aa (x== #[(60:UInt8)].toList) (rA GL x [.bool true,.top]) (Aa (x== #[(43:UInt8)].toList) (rA GL x [.bool true,.top]) (Aa (x== #[(45:UInt8)].toList) (rA GL x [.bool true,.top]) (Aa (x== #[(42:UInt8)].toList) (rA GL x [.bool true,.top]) (rA GL x [.bool false,.top])))))))) (fun x=>by kernel_rfl) fun(x:List UInt8) (hx:x.length<2^62)=>(by
 dsimp only[rA,GL,Au,Az]
 (repeat' first|(with_reducible first|rfl|exact True.intro|apply AK|apply And.intro|((first|apply AA|apply AI|apply AB|apply AJ)<;>intro _))|(apply Ax<;>intro _)|apply AH|refine Ae () ?_ ?_|((first|apply AO|apply AN|apply AM|apply AL|apply AG|apply AF|apply AE|apply AD|apply AC)<;>try dsimp only)|apply Ae|(refine Prod.forall.2 ?_;intro _;try dsimp only)|(intro _;try dsimp only))<;>(try dsimp only at*)<;>(try simp only[AR,List.length_cons,List.length_nil])<;>(try omega)
 all_goals simp [Pa, *])
def Fl:Sig:= {X:=Int×List UInt8,args:=fun x=>[.int .i64 x.1,.str x.2],pre:=fun x=>x.2.length<2^62,Y:=Unit,post:=fun x y=>True,res:=fun x y=> .bool (Fj x.1 x.2),outs:=fun x y=>[.top,.top],keep:=false}
theorem a8u:Ai G Tryz.prog 128 Fl:=
 vcFun_okP [(153,0,FE),(154,0,Lw),(155,0,Kq),(156,0,Kr),(157,0,GL)] [] false (fun x=>[]) Tryz.func128 rfl (by decide) ⟨a8p,a8q,a8r,a8s,a8t,trivial⟩ (fun(x:Int×List UInt8)=>(∀(y:Unit),True→True∧True∧True∧True)∧Aa (x.1==(1:Int)) (cA FE [.str x.2] fun x_1 y=>rA Fl x [.bool (DZ x_1),.top,.top]) (Aa (x.1==(6:Int)) (cA FE [.str x.2] fun x_1 y=>rA Fl x [.bool (DZ x_1),.top,.top]) (Aa (x.1==(12:Int)) (cA FE [.str x.2] fun x_1 y=>rA Fl x [.bool (DZ x_1),.top,.top]) (Aa (x.1==(13:Int)) (cA FE [.str x.2] fun x_1 y=>rA Fl x [.bool (DZ x_1),.top,.top]) (Aa (x.1==(20:Int)) (cA FE [.str x.2] fun x_1 y=>rA Fl x [.bool (DZ x_1),.top,.top]) (Aa (x.1==(21:Int)) (cA FE [.str x.2] fun x_1 y=>rA Fl x [.bool (DZ x_1),.top,.top]) (Aa (x.1==(2:Int)) (cA Lw [.str x.2] fun x_1 y=>rA Fl x [.bool (Cx x_1 (2:Int)),.top,.top]) (Aa (x.1==(3:Int)) (cA Kq [.str x.2] fun x_1 y=>rA Fl x [.bool (Cx x_1 (3:Int)),.top,.top]) (Aa (x.1==(19:Int)) (cA Kr [.str x.2] fun x_1 y=>rA Fl x [.bool (Cx x_1 (5:Int)),.top,.top]) (Aa (x.1==(7:Int)) (cA GL [.str x.2] fun x_1 y=>rA Fl x [.bool (Pa x_1),.top,.top]) (rA Fl x [.bool (x.2== #[].toList),.top,.top]))))))))))) (fun x=>by kernel_rfl) fun(x:Int×List UInt8) (hx:x.2.length<2^62)=>(by
 dsimp only[cA,rA,GL,FE,Kr,Lw,Kq,Fl,Au,Az,mvL,lnL,mvE,lnE]
 (repeat' first|(with_reducible first|rfl|exact True.intro|apply AK|apply And.intro|((first|apply AA|apply AI|apply AB|apply AJ)<;>intro _))|(apply Ax<;>intro _)|apply AH|refine Ae () ?_ ?_|((first|apply AO|apply AN|apply AM|apply AL|apply AG|apply AF|apply AE|apply AD|apply AC)<;>try dsimp only)|apply Ae|(refine Prod.forall.2 ?_;intro _;try dsimp only)|(intro _;try dsimp only))<;>(try dsimp only at*)<;>(try simp only[AR,List.length_cons,List.length_nil])<;>(try omega)
 all_goals simp [Fj, *])
end Go.My
end
section
namespace Go.My
open Go.Eng
def Fm(k:Int):Int×Int:=
 if k=4∨k=18∨k=21∨k=22 then(0,12)
 else if k=5∨k=9∨k=20 then(1,12)
 else if k=6∨k=11∨k=13∨k=14 then(1,1)
 else if k=7∨k=10 then(2,12)
 else if k=8 then(3,3)
 else if k=12∨k=15 then(0,1)
 else if k=16 then(2,3)
 else if k=17 then(2,2)
 else(0,0)
def GM(k n i y:Int):Bool:=
 if k=9 then(if i+1<n then EK y else BN y)
 else if k=20 then(if i+1<n then EK y else Eh y)
 else if k=10 then(if 0<i then Ga y else BN y)
 else if k=16∨k=17 then(if 0<i then Eh y else BN y)
 else if k=18 then EY y
 else if k=21 then EX y
 else if k=22 then Hp y
 else BN y
def Lx(ns:List Nd)(x:Nd)(i c:Int):Bool:=
 GM x.kind x.kids.length i (Bt ns c)&&(if x.kind=10∧0<i then decide (Bt ns ((Af ns c).kids.headD 0)=1) else true)
def Eb(ns:List Nd)(x:Nd)(i c:Int):Bool:=
 (!(decide (Bt ns c=5)&&(decide ((Af ns c).kids.length=0)|| !BM ns ((Af ns c).kids.headD 0))))&&Lx ns x i c
def BV(f:Int→Int→Bool):List Int→Int→Bool
 |[],_=>true
 |c::l,i=>f i c&&BV f l (i+1)
theorem Vw{f g:Int→Int→Bool}:∀ {l:List Int} {i:Int},(∀j c,i≤j→j<i+l.length→c∈l→f j c=g j c)→BV f l i=BV g l i
 |[],i,h=>rfl
 |c::l,i,h=>by
  simp only[BV]
  rw[h i c (Int.le_refl i) (by simp;omega) (by simp),Vw (fun j c hj hl hc=>h j c (by omega) (by simp;omega) (by simp [hc]))]
theorem a0i{f g:Int→Int→Bool}:∀ {l:List Int} {i:Int},BV (fun i c=>f i c&&g i c) l i=(BV f l i&&BV g l i)
 |[],i=>rfl
 |c::l,i=>by
  simp only[BV];rw[a0i]
  cases f i c<;>cases g i c<;>cases BV f l (i+1)<;>cases BV g l (i+1)<;>rfl
theorem QZ{f:Int→Bool}:∀ {l:List Int} {i:Int},BV (fun _ c=>f c) l i=l.all f
 |[],i=>rfl
 |c::l,i=>by simp only[BV,List.all_cons];rw[QZ]
theorem a0j{f:Int→Int→Bool}{g:Int→Int}:∀ {l:List Int} {i:Int},BV f (l.map g) i=BV (fun i c=>f i (g c)) l i
 |[],i=>rfl
 |c::l,i=>by simp only[BV,List.map_cons];rw[a0j]
theorem a0k{f:Int→Int→Bool}:∀ {l m:List Int} {i:Int},BV f (l++m) i=(BV f l i&&BV f m (i+l.length))
 |[],m,i=>by simp [BV]
 |c::l,m,i=>by
  simp only[List.cons_append,BV];rw[a0k,Bool.and_assoc]
  congr 2;congr 1;simp;omega
theorem Vx{f:Int→Int→Bool}:∀ {l:List Int} {i:Nat},((l.zipIdx i).all fun p=>f p.2 p.1)=BV f l i
 |[],i=>rfl
 |c::l,i=>by
  simp only[List.zipIdx_cons,List.all_cons,BV];rw[Vx];congr 2
theorem Vy{f:Int→Int→Bool}{l:List Int}:BV f l 0=true↔∀(j:Nat) c,l[j]? =some c→f j c=true:=by
 have:∀(l:List Int) (i:Nat),BV f l i=true↔∀(j:Nat) c,l[j]? =some c→f (i+j:Nat) c=true:=by
  intro l
  induction l with
  |nil=>intro i;simp [BV]
  |cons c l ih=>
   intro i
   simp only[BV,Bool.and_eq_true]
   have:=ih (i+1)
   rw[show((i:Int)+1)=((i+1:Nat):Int) from by omega,this]
   constructor
   ·rintro⟨h1,h2⟩ j d hd
    cases j with
    |zero=>simp at hd;subst hd;simpa using h1
    |succ j=>have:=h2 j d (by simpa using hd);rwa [show i+1+j=i+(j+1) by omega] at this
   ·intro h
    refine⟨by simpa using h 0 c rfl,fun j d hd=> ?_⟩
    have:=h (j+1) d (by simpa using hd)
    rwa [show i+(j+1)=i+1+j by omega] at this
 have:=this l 0
 simpa using this
theorem a8v{l:List Int}{k:Int}(h:l.getLast? =some k):l=l.dropLast++[k]:=by
 have hne:l≠[]:=by intro e;rw[e] at h;cases h
 rw[List.getLast?_eq_some_getLast hne] at h
 have:=List.dropLast_concat_getLast hne
 rw[Option.some.inj h] at this;exact this.symm
theorem a0l{p:Int→Bool}{l:List Int}:(decide (1≤l.length)&&BV (fun i y=>if i+1<(l.length:Int) then EK y else p y) l 0)=Hq p l:=by
 unfold Hq
 cases h:l.getLast? with
 |none=>have:l=[]:=by simpa using h
        subst this;rfl
 |some k=>
  have e:=a8v h
  generalize hd:l.dropLast=m at e ⊢
  subst e
  rw[a0k]
  have h1:BV (fun i y=>if i+1<((m++[k]).length:Int) then EK y else p y) m 0=m.all EK:=by
   rw[←QZ (i:=0)]
   exact Vw fun j c h0 hj hc=>if_pos (by simp;omega)
  rw[h1]
  simp only[BV]
  have h2:¬((0:Int)+m.length+1<((m++[k]).length:Int)):=by simp
  rw[if_neg h2]
  have:decide (1≤(m++[k]).length)=true:=by simp
  rw[this];simp [Bool.and_comm]
theorem a0m{p q:Int→Bool}{c:Int}{l:List Int}:BV (fun i y=>if 0<i then q y else p y) (c::l) 0=(p c&&l.all q):=by
 simp only[BV]
 have h1:¬((0:Int)<0):=by omega
 rw[if_neg h1]
 congr 1
 rw[←QZ (i:=0+1)]
 exact Vw fun j c h0 hj hc=>if_pos (by omega)
theorem a8w{k:Int}{l:List Int}(h1:1≤k)(h2:k≤22):(inn l.length (Fm k).1 (Fm k).2&&BV (fun i y=>GM k l.length i y) l 0)=(decide (l.length≤12)&&Dv k l):=by
 have hk:k=1∨k=2∨k=3∨k=4∨k=5∨k=6∨k=7∨k=8∨k=9∨k=10∨k=11∨k=12∨k=13∨k=14∨k=15∨k=16∨k=17∨k=18∨k=19∨k=20∨k=21∨k=22:=by omega
 have len0:∀ {b c:Bool},l.length=0→(l=[]):=fun h=>List.length_eq_zero_iff.1 h
 rcases hk with rfl|rfl|rfl|rfl|rfl|rfl|rfl|rfl|rfl|rfl|rfl|rfl|rfl|rfl|rfl|rfl|rfl|rfl|rfl|rfl|rfl|rfl
 all_goals simp only[Fm,GM,Dv,inn,Int.reduceEq,or_self,or_false,false_or,or_true,true_or,if_true,if_false,reduceIte]
 all_goals try(
  by_cases h:l.length=0
  ·have:=List.length_eq_zero_iff.1 h;subst this;rfl
  ·have e1:decide ((l.length:Int)≤0)=false:=decide_eq_false (by omega)
   have e2:decide (l.length=0)=false:=decide_eq_false h
   simp only[e1,e2,Bool.and_false,Bool.false_and];done)
 all_goals try rw[QZ]
 all_goals try(
  generalize l.all _=b
  rw[Bool.eq_iff_iff];cases b<;>simp only[Bool.and_eq_true,decide_eq_true_eq,Bool.false_eq_true,and_false,and_true]<;>omega)
 ·rw[show decide (1≤(l.length:Int))=decide (1≤l.length) from decide_eq_decide.2 (by omega),show decide ((l.length:Int)≤12)=decide (l.length≤12) from decide_eq_decide.2 (by omega),←a0l (p:=BN)]
  generalize BV _ l 0=b
  cases decide (1≤l.length)<;>cases decide (l.length≤12)<;>cases b<;>rfl
 ·cases l with
  |nil=>rfl
  |cons c l=>
   rw[a0m]
   simp only[List.headD_cons,List.drop_succ_cons,List.drop_zero]
   generalize BN c=b;generalize l.all _=d
   rw[Bool.eq_iff_iff];cases b<;>cases d<;>simp only[Bool.and_eq_true,decide_eq_true_eq,Bool.false_eq_true,and_false,and_true]<;>omega
 ·cases l with
  |nil=>rfl
  |cons c l=>
   rw[a0m]
   simp only[List.headD_cons,List.drop_succ_cons,List.drop_zero]
   generalize BN c=b;generalize l.all _=d
   rw[Bool.eq_iff_iff];cases b<;>cases d<;>simp only[Bool.and_eq_true,decide_eq_true_eq,Bool.false_eq_true,and_false,and_true]<;>omega
 ·match l with
  |[]=>rfl
  |[c]=>rfl
  |[c,d]=>simp [BV]
  |c::d::e::l=>
   have e1:decide (((c::d::e::l).length:Int)≤2)=false:=decide_eq_false (by simp;omega)
   have e2:decide ((c::d::e::l).length=2)=false:=decide_eq_false (by simp)
   rw[e1,e2];simp
 ·rw[show decide (1≤(l.length:Int))=decide (1≤l.length) from decide_eq_decide.2 (by omega),show decide ((l.length:Int)≤12)=decide (l.length≤12) from decide_eq_decide.2 (by omega),←a0l (p:=Eh)]
  generalize BV _ l 0=b
  cases decide (1≤l.length)<;>cases decide (l.length≤12)<;>cases b<;>rfl
theorem a8x{k:Int}{l:List Int}(h:inn k 1 22=false):Dv k l=false:=by
 have h:¬(1≤k∧k≤22):=by intro hh;simp [inn] at h;omega
 unfold Dv
 have e:∀j:Int,1≤j→j≤22→k≠j:=fun j h1 h2 e=>h (by omega)
 simp [e]
theorem a8y{ns:List Nd}{x:Nd}{i c:Int}:Eb ns x i c=(GM x.kind x.kids.length i (Bt ns c)&&Da ns x i.toNat c):=by
 unfold Eb Lx Da Bt
 generalize hy:Af ns c=y
 by_cases h5:y.kind=5
 ·simp only[h5,if_true,decide_true,Bool.true_and]
  cases hk:y.kids with
  |nil=>simp
  |cons h t=>
   simp only[List.length_cons,List.headD_cons]
   have e0:decide (t.length+1=0)=false:=by simp
   rw[e0]
   by_cases hx:x.kind=10∧0<i
   ·have hi:0<i.toNat:=by omega
    simp only[hx,and_self,if_true,decide_true,Bool.true_and,hi]
    generalize GM 10 _ _ _=a;generalize BM ns h=b
    by_cases hd:(Af ns h).kind=1<;>cases a<;>cases b<;>simp [hd]
   ·rw[if_neg hx]
    have:(decide (x.kind=10)&&(decide (0<i.toNat)&& !decide ((Af ns h).kind=1)))=false:=by
     by_cases h1:x.kind=10
     ·have:¬0<i.toNat:=by omega
      simp [this]
     ·simp [h1]
    rw[this]
    generalize GM _ _ _ _=a;generalize BM ns h=b
    cases a<;>cases b<;>rfl
 ·simp only[h5,if_false,decide_false,Bool.false_and,Bool.not_false,Bool.true_and,Bool.and_true]
  by_cases hx:x.kind=10∧0<i
  ·rw[if_pos hx]
   have:GM x.kind x.kids.length i y.kind=false:=by
    simp [GM,hx,Ga,h5]
   rw[this];rfl
  ·rw[if_neg hx];simp
theorem a8z{ns:List Nd}{k:Int}{x:Nd}:IJ ns k x=
 (inn x.kind 1 22&&(inn x.kids.length (Fm x.kind).1 (Fm x.kind).2&&(Fj x.kind x.text&&((HQ x.kind|| !x.blank)&&((Ea x.kids k&&decide x.kids.Nodup)&&BV (Eb ns x) x.kids 0))))):=by
 have e1:BV (Eb ns x) x.kids 0=(BV (fun i y=>GM x.kind (x.kids.map (Bt ns)).length i y) (x.kids.map (Bt ns)) 0&&Fk ns x):=by
  have:(Eb ns x)=fun i c=>(GM x.kind x.kids.length i (Bt ns c)&&Da ns x i.toNat c):=by
   funext i c;exact a8y
  rw[this,a0i,a0j,List.length_map]
  congr 1
  unfold Fk
  have:(fun p:Int×Nat=>Da ns x p.2 p.1)=fun p:Int×Nat=>(fun(i c:Int)=>Da ns x i.toNat c) p.2 p.1:=by
   funext p;simp
  rw[this]
  exact(Vx (f:=fun i c=>Da ns x i.toNat c) (i:=0)).symm
 unfold IJ
 by_cases h:inn x.kind 1 22=true
 ·have hb:= @a8w x.kind (x.kids.map (Bt ns)) (by simp [inn] at h;omega) (by simp [inn] at h;omega)
  rw[List.length_map] at hb
  rw[e1,List.length_map,h]
  generalize decide (x.kids.length≤12)=a at hb ⊢;generalize Dv x.kind _=b at hb ⊢;generalize inn _ _ _=c at hb ⊢
  generalize BV _ _ 0=d at hb ⊢;generalize Fj _ _=e;generalize HQ _=f;generalize Fk _ _=g;generalize Ea _ _=h1;generalize decide x.kids.Nodup=h2
  cases a<;>cases b<;>cases c<;>cases d<;>simp at hb<;>cases e<;>cases f<;>cases g<;>cases h1<;>cases h2<;>simp
 ·simp only[Bool.not_eq_true] at h
  rw[a8x h,h];simp
end Go.My
end
