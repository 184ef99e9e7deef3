/- A part of the proof: the engine and the contracts, joined. -/
import Derived.Test.YtplklcfglbkfhaaGreatDoorQD
import Derived.Test.YtplklcfglbkfhaaGreatDoorProg
import Derived.WalkKit
import Derived.Lib.Bytealg
import Derived.Laws.Externs
section
set_option linter.unusedVariables false
set_option linter.unusedSimpArgs false
namespace Go.My
open Go.Eng
def inn(x a b:Int):Bool:=decide (a≤x)&&decide (x≤b)
def Bz(l:List Nd)(k:Int):Bool:=decide (0≤k)&&decide (k<l.length)
def BA(k:Int):Bool:=inn k 1 11
def Ik(k:Int):Bool:=inn k 12 17
def Ef(k:Int):Bool:=decide (k=12)||(decide (k=20)||decide (k=19))
def Dw(k:Int):Bool:=decide (k=18)
def DV(k:Int):Bool:=decide (k=1)
def EY(k:Int):Bool:=decide (k=5)
def Eg(k:Int):Bool:=Ik k||decide (k=19)
def Ga(k:Int):Bool:=Ef k||decide (k=21)
def Gz(p:Int→Bool)(ks:List Int):Bool:=match ks.getLast? with
 |some k=>p k&&ks.dropLast.all DV
 |none=>false
def DG(k:Int)(ks:List Int):Bool:=
 if k=1∨k=2∨k=3∨k=19 then decide (ks.length=0)
 else if k=4 then ks.all BA
 else if k=5 then decide (1≤ks.length)&&ks.all BA
 else if k=7 then decide (2≤ks.length)&&ks.all BA
 else if k=8 then decide (ks.length=3)&&ks.all BA
 else if k=6∨k=11∨k=13∨k=14 then decide (ks.length=1)&&ks.all BA
 else if k=12∨k=15 then decide (ks.length≤1)&&ks.all BA
 else if k=9 then Gz BA ks
 else if k=10 then decide (2≤ks.length)&&(BA (ks.headD 0)&&(ks.drop 1).all EY)
 else if k=16 then(decide (2≤ks.length)&&decide (ks.length≤3))&&(BA (ks.headD 0)&&(ks.drop 1).all Dw)
 else if k=17 then decide (ks.length=2)&&(BA (ks.headD 0)&&Dw (ks.getD 1 0))
 else if k=18 then ks.all Eg
 else if k=20 then Gz Dw ks
 else if k=21 then ks.all Ef
 else if k=22 then ks.all Ga
 else false
def Ai(ns:List Nd)(c:Int):Nd:=ns.getD c.toNat ⟨0,[],[],false⟩
def BX(ns:List Nd)(c:Int):Int:=(Ai ns c).kind
def Cw(ns:List Nd)(x:Nd)(i:Nat)(c:Int):Bool:=
 let y:=Ai ns c
 if y.kind=5 then match y.kids with
  |[]=>false
  |h::_=>Bz ns h&& !(decide (x.kind=10)&&(decide (0<i)&& !decide (BX ns h=1)))
 else true
def Ep(ns:List Nd)(x:Nd):Bool:=(x.kids.zipIdx).all fun p=>Cw ns x p.2 p.1
def Dl(l:List Int)(k:Int):Bool:=l.all fun c=>decide (0≤c)&&decide (c<k)
def GA(k:Int):Bool:=Ik k||(Ef k||decide (k=21))
def Ha(ns:List Nd)(k:Int)(x:Nd):Bool:=
 decide (x.kids.length≤12)&&(EF x.kind x.text&&((Dl x.kids k&&decide x.kids.Nodup)&&(DG x.kind (x.kids.map (BX ns))&&(Ep ns x&&(GA x.kind|| !x.blank)))))
def BG(ns:List Nd)(k:Int):Bool:=Bz ns k&&Ha ns k (Ai ns k)
def mx(ds:List Int):List Int→Int→Int
 |[],d=>d
 |c::l,d=>mx ds l (max d (ds.getD c.toNat 0))
def Cx(ns:List Nd):Nat→Option (List Int)
 |0=>some []
 |n+1=>match Cx ns n with
  |none=>none
  |some ds=>if BG ns n then(if 14≤mx ds (Ai ns n).kids 0 then none else some (ds++[mx ds (Ai ns n).kids 0+1])) else none
def BI(ns:List Nd)(k:Int):Int:=if Bz ns k then match Cx ns (k.toNat+1) with
    |none=>0
    |some ds=>ds.getD k.toNat 0
 else 0
def BZ(ns:List Nd):List Int:=ns.flatMap (·.kids)
def BD(ns:List Nd):Bool:=
 (decide (1≤ns.length)&&decide (ns.length≤300))&&(decide (BX ns (ns.length-1)=22)&&(!decide (BI ns (ns.length-1)=0)&&((List.range (ns.length-1)).all fun i=>decide ((BZ ns).count (i:Int)=1))))
theorem Dh{l:List Nd}{k:Int}:Bz l k=true↔0≤k∧k<l.length:=by simp [Bz]
theorem Br{ns:List Nd}{c:Int}{x:Nd}(h:ns[c.toNat]? =some x):Ai ns c=x:=by
 simp [Ai,List.getD,h]
theorem NI(ds:List Int):∀(l:List Int) (d:Int),d≤mx ds l d
 |[],d=>Int.le_refl d
 |c::l,d=>by unfold mx;have:=NI ds l (max d (ds.getD c.toNat 0));omega
theorem Il{ns:List Nd}:∀ {n:Nat} {ds:List Int},Cx ns n=some ds→ds.length=n
 |0,ds,h=>by cases h;rfl
 |n+1,ds,h=>by
  unfold Cx at h
  split at h
  ·cases h
  ·rename_i ds' hd
   split at h
   ·split at h
    ·cases h
    ·simp at h;rw[←h];simp [Il hd]
   ·cases h
theorem Mn{ns:List Nd}:∀ {n:Nat} {ds:List Int},Cx ns n=some ds→∀d∈ds,1≤d∧d≤14
 |0,ds,h=>by cases h;simp
 |n+1,ds,h=>by
  unfold Cx at h
  split at h
  ·cases h
  ·rename_i ds' hd
   split at h
   ·split at h
    ·cases h
    ·simp at h;rw[←h]
     intro d hdm
     rcases List.mem_append.1 hdm with hdm|hdm
     ·exact Mn hd d hdm
     ·simp at hdm
      have:=NI ds' (Ai ns n).kids 0
      omega
   ·cases h
theorem UF{ns:List Nd}:∀ {n:Nat} {ds:List Int},Cx ns n=some ds→∀i,i<n→BG ns i=true
 |0,ds,h,i,hi=>by omega
 |n+1,ds,h,i,hi=>by
  unfold Cx at h
  split at h
  ·cases h
  ·rename_i ds' hd
   split at h
   ·rename_i hok
    by_cases e:i=n
    ·subst e;exact hok
    ·exact UF hd i (by omega)
   ·cases h
theorem UG{ns:List Nd}{n m:Nat}(h:Cx ns n=none)(hm:n≤m):Cx ns m=none:=by
 induction m with
 |zero=>obtain rfl:n=0:=by omega
        exact h
 |succ m ih=>
  by_cases e:n=m+1
  ·subst e;exact h
  ·unfold Cx;rw[ih (by omega)]
theorem Mo{ns:List Nd}{k:Int}(h:BI ns k≠0):Bz ns k=true∧(∃ds,Cx ns (k.toNat+1)=some ds)∧∀i:Nat,(i:Int)≤k→BG ns i=true:=by
 unfold BI at h
 split at h
 ·rename_i hn
  split at h
  ·exact(h rfl).elim
  ·rename_i ds hd
   exact⟨hn,⟨ds,hd⟩,fun i hi=>UF hd i (by have:=Dh.1 hn;omega)⟩
 ·exact(h rfl).elim
theorem a0d{ns:List Nd}{k:Int}:0≤BI ns k:=by
 unfold BI
 split
 ·split
  ·exact Int.le_refl 0
  ·rename_i ds hd
   rw[List.getD]
   cases h:ds[k.toNat]? with
   |none=>simp
   |some d=>have:=Mn hd d (List.mem_of_getElem? h);simp;omega
 ·exact Int.le_refl 0
theorem a0e{ns:List Nd}{k:Int}{ds:List Int}(hn:Bz ns k=true)(h:Cx ns (k.toNat+1)=some ds):BI ns k≠0:=by
 unfold BI
 rw[if_pos hn,h]
 have hl:=Il h
 have:ds[k.toNat]? =some ds[k.toNat]:=by simp
 simp only[List.getD,this,Option.getD_some]
 have:=Mn h ds[k.toNat] (by simp)
 omega
theorem Im{ns:List Nd}{k:Int}(h:BG ns k=true):(0≤k∧k<ns.length)∧(Ai ns k).kids.length≤12∧EF (Ai ns k).kind (Ai ns k).text=true∧
 (∀c∈(Ai ns k).kids,0≤c∧c<k)∧(Ai ns k).kids.Nodup∧DG (Ai ns k).kind ((Ai ns k).kids.map (BX ns))=true∧Ep ns (Ai ns k)=true:=by
 simp only[BG,Ha,Bool.and_eq_true,decide_eq_true_eq,Dl,List.all_eq_true] at h
 exact⟨Dh.1 h.1,h.2.1,h.2.2.1,h.2.2.2.1.1,h.2.2.2.1.2,h.2.2.2.2.1,h.2.2.2.2.2.1⟩
end Go.My
end
section
set_option linter.unusedVariables false
set_option linter.unusedSimpArgs false
namespace Go.My
open Go.Eng Go.Proofs Go.RowKit
variable {G:GInv}
def Cm(s:List UInt8)(c:UInt8):Int:=match Dj (fun d=>decide (d.toNat=c.toNat)) s with
 |none=> -1
 |some i=>i
theorem UH:∀(s:List UInt8) (c:UInt8),Lib.indexByte s c=Cm s c
 |[],c=>rfl
 |b::s,c=>by
  unfold Lib.indexByte Cm Dj
  have e:(b==c)=decide (b.toNat=c.toNat):=by
   rw[Bool.eq_iff_iff];simp [UInt8.toNat_inj]
  rw[e]
  by_cases h:b.toNat=c.toNat
  ·simp [h]
  ·have ih:=UH s c
   unfold Cm at ih
   simp only[h,decide_false,Bool.false_eq_true,if_false]
   rw[ih]
   cases hh:Dj (fun d=>decide (d.toNat=c.toNat)) s with
   |none=>simp
   |some i=>simp
set_option maxHeartbeats 1000000 in
set_option maxRecDepth 100000 in
theorem a0f(s:ByteArray)(c:Int)(w:World):
 Calls Tryz.prog 196 #[.string s,.int .u8 c] w fun e w'=>e= .returned (.int .i64 (Lib.indexByte s.data.toList c.toNat.toUInt8))∧w'=w:=by
 go_enter Tryz.func196,Tryz.ntmps196
 go_wp2
 rw[run_callFunc_extern Tryz.func207 (by kernel_rfl) (by kernel_rfl) (by kernel_rfl) (e:=Extern.BytealgIndexByte.indexByte) (by kernel_rfl),Lib.run_indexByteString]
 simp only[Result.andThen]
 rw[Oper.upon_value]
 go_wp2
 go_ret
 exact⟨rfl,rfl⟩
def KG:Sig:= {X:=List UInt8×UInt8,args:=fun x=>[.str x.1,.int .u8 x.2.toNat],pre:=fun _=>True,Y:=Unit,post:=fun _ _=>True,res:=fun x _=> .int .i64 (Cm x.1 x.2),outs:=fun _ _=>[.top,.top],keep:=false}
theorem Ro:Am G Tryz.prog 196 KG:=by
 refine⟨⟨⟨_,Tryz.func196,by kernel_rfl,by kernel_rfl⟩,fun x y _ _=>⟨trivial,trivial,trivial,trivial⟩⟩,?_⟩
 rintro⟨l,c⟩ _ Z w vals A _ h hA _
 simp only[KG,AY,Ah] at h
 obtain⟨v,cs,A1,A2,rfl,_,⟨rfl,_⟩,v',cs',A3,A4,rfl,_,⟨rfl,_⟩,rfl,_⟩:=h
 refine(a0f ⟨l.toArray⟩ c.toNat w).mono ?_
 rintro e w' ⟨rfl,rfl⟩
 refine⟨(),_,Z,(fun _=>False),trivial,rfl,?_,⟨rfl,rfl,rfl,Nat.le_refl _,fun _ _ _=>⟨rfl,Iff.rfl⟩,fun _ h=>h.elim⟩⟩
 simp only[KG,AY,Ah]
 refine⟨_,_,_,_,rfl,BN _,⟨?_,Aw⟩,_,_,_,_,rfl,BN _,Aw,_,_,_,_,rfl,BN _,Aw,rfl,Aw⟩
 rw[UH];simp
def NJ:Sig:= {X:=List UInt8,args:=fun x=>[.str x,.int .u8 39],pre:=fun _=>True,Y:=Unit,post:=fun _ _=>True,res:=fun x _=> .int .i64 (Cm x 39),outs:=fun _ _=>[.top,.top],keep:=false}
theorem a0g:Am G Tryz.prog 196 NJ:=⟨⟨(Ro (G:=G)).1.1,fun x y _ _=>⟨trivial,trivial,trivial,trivial⟩⟩,fun x hx=>(Ro (G:=G)).2 (x,39) trivial⟩
def KH:Sig:= {X:=List UInt8,args:=fun x=>[.str x,.int .u8 39],pre:=fun x=>True,Y:=Unit,post:=fun x y=>True,res:=fun x y=> .int .i64 (Cm x 39),outs:=fun x y=>[.top,.top],keep:=false}
theorem a0h:Am G Tryz.prog 182 KH:=
 vcFun_okP [(196,0,NJ)] [] false (fun x=>[]) Tryz.func182 rfl (by decide) ⟨a0g,trivial⟩ (fun(x:List UInt8)=>(∀(y:Unit),True→True∧True∧True∧True)∧cA NJ [.str x,AV.int IntKind.u8 (39:Int)] fun x_1 y=>rA KH x [.int .i64 (Cm x_1 (39:UInt8)),.top,.top]) (fun x=>by kernel_rfl) fun(x:List UInt8) (hx:True)=>(by
 dsimp only[cA,rA,NJ,KH,Az,AC,mvL,lnL,mvE,lnE]
 (repeat' first|(with_reducible first|rfl|exact True.intro|apply AN|apply And.intro|((first|apply AD|apply AL|apply AE|apply AM)<;>intro _))|(apply AA<;>intro _)|apply AK|refine Ae () ?_ ?_|((first|apply AR|apply AQ|apply AP|apply AO|apply AJ|apply AI|apply AH|apply AG|apply AF)<;>try dsimp only)|apply Ae|(refine Prod.forall.2 ?_;intro _;try dsimp only)|(intro _;try dsimp only))<;>(try dsimp only at*)<;>(try simp only[AU,List.length_cons,List.length_nil])<;>(try omega))
def Hu:Sig:= {X:=List UInt8×List UInt8,args:=fun x=>[.str x.1,.str x.2],pre:=fun x=>x.2.length=1,Y:=Unit,post:=fun x y=>True,res:=fun x y=> .int .i64 (Cm x.1 (x.2.headD 0)),outs:=fun x y=>[.top,.top],keep:=false}
theorem a0i:Am G Tryz.prog 211 Hu:=
 vcFun_okP [(196,0,KG)] [] false (fun x=>[]) Tryz.func211 rfl (by decide) ⟨Ro,trivial⟩ (fun(x:List UInt8×List UInt8)=>(∀(y:Unit),True→True∧True∧True∧True)∧Aa ((↑(List.length x.2):Int)==(0:Int)) (rA Hu x [.int .i64 (0:Int),.top,.top]) (Aa (x.2==x.1) (rA Hu x [.int .i64 (0:Int),.top,.top]) (Aa ((↑(List.length x.2):Int)==(1:Int)) (((0:Int)≤(0:Int)∧(0:Int)<(↑(List.length x.2):Int))∧∀(c:UInt8),x.2[(0:Nat)]? =some c→cA KG [.str x.1,AV.int IntKind.u8 (↑(UInt8.toNat c):Int)] fun x_1 y=>rA Hu x [.int .i64 (Cm x_1.1 x_1.2),.top,.top]) (Aa (decide ((↑(List.length x.2):Int)≥(↑(List.length x.1):Int))) (rA Hu x [.int .i64 (-1:Int),.top,.top]) False)))) (fun x=>by kernel_rfl) fun(x:List UInt8×List UInt8) (hx:x.2.length=1)=>(by
 dsimp only[cA,rA,KG,Hu,Az,AC,mvL,lnL,mvE,lnE]
 (repeat' first|(with_reducible first|rfl|exact True.intro|apply AN|apply And.intro|((first|apply AD|apply AL|apply AE|apply AM)<;>intro _))|(apply AA<;>intro _)|apply AK|refine Ae () ?_ ?_|((first|apply AR|apply AQ|apply AP|apply AO|apply AJ|apply AI|apply AH|apply AG|apply AF)<;>try dsimp only)|apply Ae|(refine Prod.forall.2 ?_;intro _;try dsimp only)|(intro _;try dsimp only))<;>(try dsimp only at*)<;>(try simp only[AU,List.length_cons,List.length_nil])<;>(try omega)
 ·rename_i _ h;rw[←h];match x.2,hx with
  |[c],_=>simp [Cm,Dj]
 ·rename_i c hc _ _
  match x.2,hx,hc with
  |[d],_,hc=>simp at hc;rw[←hc];rfl)
def KI:Sig:= {X:=List UInt8×List UInt8,args:=fun x=>[.str x.1,.str x.2],pre:=fun x=>x.2.length=1,Y:=Unit,post:=fun x y=>True,res:=fun x y=> .int .i64 (Cm x.1 (x.2.headD 0)),outs:=fun x y=>[.top,.top],keep:=false}
theorem a0j:Am G Tryz.prog 201 KI:=
 vcFun_okP [(211,0,Hu)] [] false (fun x=>[]) Tryz.func201 rfl (by decide) ⟨a0i,trivial⟩ (fun(x:List UInt8×List UInt8)=>(∀(y:Unit),True→True∧True∧True∧True)∧cA Hu [.str x.1,.str x.2] fun x_1 y=>rA KI x [.int .i64 (Cm x_1.1 (List.headD x_1.2 (0:UInt8))),.top,.top]) (fun x=>by kernel_rfl) fun(x:List UInt8×List UInt8) (hx:x.2.length=1)=>(by
 dsimp only[cA,rA,KI,Hu,Az,AC,mvL,lnL,mvE,lnE]
 (repeat' first|(with_reducible first|rfl|exact True.intro|apply AN|apply And.intro|((first|apply AD|apply AL|apply AE|apply AM)<;>intro _))|(apply AA<;>intro _)|apply AK|refine Ae () ?_ ?_|((first|apply AR|apply AQ|apply AP|apply AO|apply AJ|apply AI|apply AH|apply AG|apply AF)<;>try dsimp only)|apply Ae|(refine Prod.forall.2 ?_;intro _;try dsimp only)|(intro _;try dsimp only))<;>(try dsimp only at*)<;>(try simp only[AU,List.length_cons,List.length_nil])<;>(try omega))
def KJ:Sig:= {X:=List UInt8×List UInt8,args:=fun x=>[.str x.1,.str x.2],pre:=fun x=>x.2.length=1,Y:=Unit,post:=fun x y=>True,res:=fun x y=> .bool (decide (Cm x.1 (x.2.headD 0)≥0)),outs:=fun x y=>[.top,.top],keep:=false}
theorem a0k:Am G Tryz.prog 185 KJ:=
 vcFun_okP [(201,0,KI)] [] false (fun x=>[]) Tryz.func185 rfl (by decide) ⟨a0j,trivial⟩ (fun(x:List UInt8×List UInt8)=>(∀(y:Unit),True→True∧True∧True∧True)∧cA KI [.str x.1,.str x.2] fun x_1 y=>rA KJ x [.bool (decide (Cm x_1.1 (List.headD x_1.2 (0:UInt8))≥(0:Int))),.top,.top]) (fun x=>by kernel_rfl) fun(x:List UInt8×List UInt8) (hx:x.2.length=1)=>(by
 dsimp only[cA,rA,KJ,KI,Az,AC,mvL,lnL,mvE,lnE]
 (repeat' first|(with_reducible first|rfl|exact True.intro|apply AN|apply And.intro|((first|apply AD|apply AL|apply AE|apply AM)<;>intro _))|(apply AA<;>intro _)|apply AK|refine Ae () ?_ ?_|((first|apply AR|apply AQ|apply AP|apply AO|apply AJ|apply AI|apply AH|apply AG|apply AF)<;>try dsimp only)|apply Ae|(refine Prod.forall.2 ?_;intro _;try dsimp only)|(intro _;try dsimp only))<;>(try dsimp only at*)<;>(try simp only[AU,List.length_cons,List.length_nil])<;>(try omega))
def Jd:Sig:= {X:=List UInt8×List UInt8,args:=fun x=>[.str x.1,.str x.2],pre:=fun x=>x.2.length<2^62∧x.1.length<2^63,Y:=Unit,post:=fun x y=>True,res:=fun x y=> .bool (x.1.take x.2.length==x.2),outs:=fun x y=>[.top,.top],keep:=false}
theorem a0l:Am G Tryz.prog 183 Jd:=
 vcFun_okP [] [] false (fun x=>[]) Tryz.func183 rfl (by decide) trivial (fun(x:List UInt8×List UInt8)=>(∀(y:Unit),True→True∧True∧True∧True)∧Aa (decide ((↑(List.length x.1):Int)≥(↑(List.length x.2):Int))) (((0:Int)≤(0:Int)∧(0:Int)≤(↑(List.length x.2):Int)∧(↑(List.length x.2):Int)≤(↑(List.length x.1):Int))∧rA Jd x [.bool (List.take (Int.toNat (↑(List.length x.2):Int)) x.1==x.2),.top,.top]) (rA Jd x [.bool false,.top,.top])) (fun x=>by kernel_rfl) fun(x:List UInt8×List UInt8) (hx:x.2.length<2^62∧x.1.length<2^63)=>(by
 dsimp only[rA,Jd,Az,AC]
 obtain⟨h1,h2⟩:=hx
 (repeat' first|(with_reducible first|rfl|exact True.intro|apply AN|apply And.intro|((first|apply AD|apply AL|apply AE|apply AM)<;>intro _))|(apply AA<;>intro _)|apply AK|refine Ae () ?_ ?_|((first|apply AR|apply AQ|apply AP|apply AO|apply AJ|apply AI|apply AH|apply AG|apply AF)<;>try dsimp only)|apply Ae|(refine Prod.forall.2 ?_;intro _;try dsimp only)|(intro _;try dsimp only))<;>(try dsimp only at*)<;>(try simp only[AU,List.length_cons,List.length_nil])<;>(try omega)
 ·simp
 ·rename_i h;rw[eq_comm,beq_eq_false_iff_ne];intro e;have:=congrArg List.length e;simp at this;omega)
def KK:Sig:= {X:=List UInt8×List UInt8,args:=fun x=>[.str x.1,.str x.2],pre:=fun x=>x.2.length<2^62∧x.1.length<2^63,Y:=Unit,post:=fun x y=>True,res:=fun x y=> .bool (x.1.take x.2.length==x.2),outs:=fun x y=>[.top,.top],keep:=false}
theorem a0m:Am G Tryz.prog 164 KK:=
 vcFun_okP [(183,0,Jd)] [] false (fun x=>[]) Tryz.func164 rfl (by decide) ⟨a0l,trivial⟩ (fun(x:List UInt8×List UInt8)=>(∀(y:Unit),True→True∧True∧True∧True)∧cA Jd [.str x.1,.str x.2] fun x_1 y=>rA KK x [.bool (List.take (List.length x_1.2) x_1.1==x_1.2),.top,.top]) (fun x=>by kernel_rfl) fun(x:List UInt8×List UInt8) (hx:x.2.length<2^62∧x.1.length<2^63)=>(by
 dsimp only[cA,rA,KK,Jd,Az,AC,mvL,lnL,mvE,lnE]
 obtain⟨h1,h2⟩:=hx
 (repeat' first|(with_reducible first|rfl|exact True.intro|apply AN|apply And.intro|((first|apply AD|apply AL|apply AE|apply AM)<;>intro _))|(apply AA<;>intro _)|apply AK|refine Ae () ?_ ?_|((first|apply AR|apply AQ|apply AP|apply AO|apply AJ|apply AI|apply AH|apply AG|apply AF)<;>try dsimp only)|apply Ae|(refine Prod.forall.2 ?_;intro _;try dsimp only)|(intro _;try dsimp only))<;>(try dsimp only at*)<;>(try simp only[AU,List.length_cons,List.length_nil])<;>(try omega))
end Go.My
end
section
set_option linter.unusedVariables false
set_option linter.unusedSimpArgs false
namespace Go.My
open Go.Eng Go.Proofs
variable {G:GInv}
def Er:Sig:= {X:=Int×Int×Int,args:=fun x=>[.int .i64 x.1,.int .i64 x.2.1,.int .i64 x.2.2],pre:=fun x=>True,Y:=Unit,post:=fun x y=>True,res:=fun x y=> .bool (inn x.1 x.2.1 x.2.2),outs:=fun x y=>[.top,.top,.top],keep:=false}
theorem NK:Am G Tryz.prog 57 Er:=
 vcFun_okP [] [] false (fun x=>[]) Tryz.func57 rfl (by decide) trivial (fun(x:Int×Int×Int)=>(∀(y:Unit),True→True∧True∧True∧True∧True)∧Aa (decide (x.1≥x.2.1)) (rA Er x [.bool (decide (x.1≤x.2.2)),.top,.top,.top]) (rA Er x [.bool false,.top,.top,.top])) (fun x=>by kernel_rfl) fun(x:Int×Int×Int) (hx:True)=>(by
 dsimp only[rA,Er,Az,AC]
 (repeat' first|(with_reducible first|rfl|exact True.intro|apply AN|apply And.intro|((first|apply AD|apply AL|apply AE|apply AM)<;>intro _))|(apply AA<;>intro _)|apply AK|refine Ae () ?_ ?_|((first|apply AR|apply AQ|apply AP|apply AO|apply AJ|apply AI|apply AH|apply AG|apply AF)<;>try dsimp only)|apply Ae|(refine Prod.forall.2 ?_;intro _;try dsimp only)|(intro _;try dsimp only))<;>(try dsimp only at*)<;>(try simp only[AU,List.length_cons,List.length_nil])<;>(try omega)
 all_goals simp [inn, *])
def Cy:Sig:= {X:=Int×Int×Int,args:=fun x=>[.int .i64 x.1,.int .i64 x.2.1,.int .i64 x.2.2],pre:=fun x=>True,Y:=Unit,post:=fun x y=>True,res:=fun x y=> .bool (inn x.1 x.2.1 x.2.2),outs:=fun x y=>[.top,.top,.top],keep:=false}
theorem Je:Am G Tryz.prog 64 Cy:=
 vcFun_okP [] [] false (fun x=>[]) Tryz.func64 rfl (by decide) trivial (fun(x:Int×Int×Int)=>(∀(y:Unit),True→True∧True∧True∧True∧True)∧Aa (decide (x.1≥x.2.1)) (rA Cy x [.bool (decide (x.1≤x.2.2)),.top,.top,.top]) (rA Cy x [.bool false,.top,.top,.top])) (fun x=>by kernel_rfl) fun(x:Int×Int×Int) (hx:True)=>(by
 dsimp only[rA,Cy,Az,AC]
 (repeat' first|(with_reducible first|rfl|exact True.intro|apply AN|apply And.intro|((first|apply AD|apply AL|apply AE|apply AM)<;>intro _))|(apply AA<;>intro _)|apply AK|refine Ae () ?_ ?_|((first|apply AR|apply AQ|apply AP|apply AO|apply AJ|apply AI|apply AH|apply AG|apply AF)<;>try dsimp only)|apply Ae|(refine Prod.forall.2 ?_;intro _;try dsimp only)|(intro _;try dsimp only))<;>(try dsimp only at*)<;>(try simp only[AU,List.length_cons,List.length_nil])<;>(try omega)
 all_goals simp [inn, *])
def Fw:Sig:= {X:=UInt8,args:=fun x=>[.int .u8 x.toNat],pre:=fun x=>True,Y:=Unit,post:=fun x y=>True,res:=fun x y=> .bool (Bl x),outs:=fun x y=>[.top],keep:=false}
theorem Rp:Am G Tryz.prog 162 Fw:=
 vcFun_okP [] [] false (fun x=>[]) Tryz.func162 rfl (by decide) trivial (fun(x:UInt8)=>(∀(y:Unit),True→True∧True∧True)∧Aa (decide ((↑(UInt8.toNat x):Int)≥(48:Int))) (rA Fw x [.bool (decide ((↑(UInt8.toNat x):Int)≤(57:Int))),.top]) (rA Fw x [.bool false,.top])) (fun x=>by kernel_rfl) fun(x:UInt8) (hx:True)=>(by
 dsimp only[rA,Fw,Az,AC]
 (repeat' first|(with_reducible first|rfl|exact True.intro|apply AN|apply And.intro|((first|apply AD|apply AL|apply AE|apply AM)<;>intro _))|(apply AA<;>intro _)|apply AK|refine Ae () ?_ ?_|((first|apply AR|apply AQ|apply AP|apply AO|apply AJ|apply AI|apply AH|apply AG|apply AF)<;>try dsimp only)|apply Ae|(refine Prod.forall.2 ?_;intro _;try dsimp only)|(intro _;try dsimp only))<;>(try dsimp only at*)<;>(try simp only[AU,List.length_cons,List.length_nil])<;>(try omega)
 all_goals(rw[Bool.eq_iff_iff];simp only[Bl,Bool.and_eq_true,Bool.or_eq_true,decide_eq_true_eq,Bool.not_eq_true',decide_eq_false_iff_not,bne_iff_ne,ne_eq,beq_iff_eq,Bool.not_not,reduceCtorEq,Bool.false_eq_true,true_iff,false_iff,iff_true,iff_false,not_true,not_false_eq_true]<;>omega))
def EG:Sig:= {X:=UInt8,args:=fun x=>[.int .u8 x.toNat],pre:=fun x=>True,Y:=Unit,post:=fun x y=>True,res:=fun x y=> .bool (Bl x),outs:=fun x y=>[.top],keep:=false}
theorem Rq:Am G Tryz.prog 126 EG:=
 vcFun_okP [] [] false (fun x=>[]) Tryz.func126 rfl (by decide) trivial (fun(x:UInt8)=>(∀(y:Unit),True→True∧True∧True)∧Aa (decide ((↑(UInt8.toNat x):Int)≥(48:Int))) (rA EG x [.bool (decide ((↑(UInt8.toNat x):Int)≤(57:Int))),.top]) (rA EG x [.bool false,.top])) (fun x=>by kernel_rfl) fun(x:UInt8) (hx:True)=>(by
 dsimp only[rA,EG,Az,AC]
 (repeat' first|(with_reducible first|rfl|exact True.intro|apply AN|apply And.intro|((first|apply AD|apply AL|apply AE|apply AM)<;>intro _))|(apply AA<;>intro _)|apply AK|refine Ae () ?_ ?_|((first|apply AR|apply AQ|apply AP|apply AO|apply AJ|apply AI|apply AH|apply AG|apply AF)<;>try dsimp only)|apply Ae|(refine Prod.forall.2 ?_;intro _;try dsimp only)|(intro _;try dsimp only))<;>(try dsimp only at*)<;>(try simp only[AU,List.length_cons,List.length_nil])<;>(try omega)
 all_goals(rw[Bool.eq_iff_iff];simp only[Bl,Bool.and_eq_true,Bool.or_eq_true,decide_eq_true_eq,Bool.not_eq_true',decide_eq_false_iff_not,bne_iff_ne,ne_eq,beq_iff_eq,Bool.not_not,reduceCtorEq,Bool.false_eq_true,true_iff,false_iff,iff_true,iff_false,not_true,not_false_eq_true]<;>omega))
def EH:Sig:= {X:=UInt8,args:=fun x=>[.int .u8 x.toNat],pre:=fun x=>True,Y:=Unit,post:=fun x y=>True,res:=fun x y=> .bool (Ce x),outs:=fun x y=>[.top],keep:=false}
theorem UI:Am G Tryz.prog 159 EH:=
 vcFun_okP [] [] false (fun x=>[]) Tryz.func159 rfl (by decide) trivial (fun(x:UInt8)=>(∀(y:Unit),True→True∧True∧True)∧Aa (decide ((↑(UInt8.toNat x):Int)≥(97:Int))) (Aa (decide ((↑(UInt8.toNat x):Int)≤(122:Int))) (rA EH x [.bool true,.top]) (Aa (decide ((↑(UInt8.toNat x):Int)≥(65:Int))) (Aa (decide ((↑(UInt8.toNat x):Int)≤(90:Int))) (rA EH x [.bool true,.top]) (rA EH x [.bool ((↑(UInt8.toNat x):Int)==(95:Int)),.top])) (rA EH x [.bool ((↑(UInt8.toNat x):Int)==(95:Int)),.top]))) (Aa (decide ((↑(UInt8.toNat x):Int)≥(65:Int))) (Aa (decide ((↑(UInt8.toNat x):Int)≤(90:Int))) (rA EH x [.bool true,.top]) (rA EH x [.bool ((↑(UInt8.toNat x):Int)==(95:Int)),.top])) (rA EH x [.bool ((↑(UInt8.toNat x):Int)==(95:Int)),.top]))) (fun x=>by kernel_rfl) fun(x:UInt8) (hx:True)=>(by
 dsimp only[rA,EH,Az,AC]
 (repeat' first|(with_reducible first|rfl|exact True.intro|apply AN|apply And.intro|((first|apply AD|apply AL|apply AE|apply AM)<;>intro _))|(apply AA<;>intro _)|apply AK|refine Ae () ?_ ?_|((first|apply AR|apply AQ|apply AP|apply AO|apply AJ|apply AI|apply AH|apply AG|apply AF)<;>try dsimp only)|apply Ae|(refine Prod.forall.2 ?_;intro _;try dsimp only)|(intro _;try dsimp only))<;>(try dsimp only at*)<;>(try simp only[AU,List.length_cons,List.length_nil])<;>(try omega)
 all_goals(rw[Bool.eq_iff_iff];simp only[Ce,Bool.and_eq_true,Bool.or_eq_true,decide_eq_true_eq,Bool.not_eq_true',decide_eq_false_iff_not,bne_iff_ne,ne_eq,beq_iff_eq,Bool.not_not,reduceCtorEq,Bool.false_eq_true,true_iff,false_iff,iff_true,iff_false,not_true,not_false_eq_true]<;>omega))
def Eh:Sig:= {X:=UInt8,args:=fun x=>[.int .u8 x.toNat],pre:=fun x=>True,Y:=Unit,post:=fun x y=>True,res:=fun x y=> .bool (Ce x),outs:=fun x y=>[.top],keep:=false}
theorem UJ:Am G Tryz.prog 124 Eh:=
 vcFun_okP [] [] false (fun x=>[]) Tryz.func124 rfl (by decide) trivial (fun(x:UInt8)=>(∀(y:Unit),True→True∧True∧True)∧Aa (decide ((↑(UInt8.toNat x):Int)≥(97:Int))) (Aa (decide ((↑(UInt8.toNat x):Int)≤(122:Int))) (rA Eh x [.bool true,.top]) (Aa (decide ((↑(UInt8.toNat x):Int)≥(65:Int))) (Aa (decide ((↑(UInt8.toNat x):Int)≤(90:Int))) (rA Eh x [.bool true,.top]) (rA Eh x [.bool ((↑(UInt8.toNat x):Int)==(95:Int)),.top])) (rA Eh x [.bool ((↑(UInt8.toNat x):Int)==(95:Int)),.top]))) (Aa (decide ((↑(UInt8.toNat x):Int)≥(65:Int))) (Aa (decide ((↑(UInt8.toNat x):Int)≤(90:Int))) (rA Eh x [.bool true,.top]) (rA Eh x [.bool ((↑(UInt8.toNat x):Int)==(95:Int)),.top])) (rA Eh x [.bool ((↑(UInt8.toNat x):Int)==(95:Int)),.top]))) (fun x=>by kernel_rfl) fun(x:UInt8) (hx:True)=>(by
 dsimp only[rA,Eh,Az,AC]
 (repeat' first|(with_reducible first|rfl|exact True.intro|apply AN|apply And.intro|((first|apply AD|apply AL|apply AE|apply AM)<;>intro _))|(apply AA<;>intro _)|apply AK|refine Ae () ?_ ?_|((first|apply AR|apply AQ|apply AP|apply AO|apply AJ|apply AI|apply AH|apply AG|apply AF)<;>try dsimp only)|apply Ae|(refine Prod.forall.2 ?_;intro _;try dsimp only)|(intro _;try dsimp only))<;>(try dsimp only at*)<;>(try simp only[AU,List.length_cons,List.length_nil])<;>(try omega)
 all_goals(rw[Bool.eq_iff_iff];simp only[Ce,Bool.and_eq_true,Bool.or_eq_true,decide_eq_true_eq,Bool.not_eq_true',decide_eq_false_iff_not,bne_iff_ne,ne_eq,beq_iff_eq,Bool.not_not,reduceCtorEq,Bool.false_eq_true,true_iff,false_iff,iff_true,iff_false,not_true,not_false_eq_true]<;>omega))
def Jf:Sig:= {X:=UInt8,args:=fun x=>[.int .u8 x.toNat],pre:=fun x=>True,Y:=Unit,post:=fun x y=>True,res:=fun x y=> .bool (BC x),outs:=fun x y=>[.top],keep:=false}
theorem a0n:Am G Tryz.prog 161 Jf:=
 vcFun_okP [(159,0,EH),(162,0,Fw)] [] false (fun x=>[]) Tryz.func161 rfl (by decide) ⟨UI,Rp,trivial⟩ (fun(x:UInt8)=>(∀(y:Unit),True→True∧True∧True)∧cA EH [AV.int IntKind.u8 (↑(UInt8.toNat x):Int)] fun x_1 y=>Aa (Ce x_1) (rA Jf x [.bool true,.top]) (cA Fw [AV.int IntKind.u8 (↑(UInt8.toNat x):Int)] fun x_2 y=>rA Jf x [.bool (Bl x_2),.top])) (fun x=>by kernel_rfl) fun(x:UInt8) (hx:True)=>(by
 dsimp only[cA,rA,Fw,EH,Jf,Az,AC,mvL,lnL,mvE,lnE]
 (repeat' first|(with_reducible first|rfl|exact True.intro|apply AN|apply And.intro|((first|apply AD|apply AL|apply AE|apply AM)<;>intro _))|(apply AA<;>intro _)|apply AK|refine Ae () ?_ ?_|((first|apply AR|apply AQ|apply AP|apply AO|apply AJ|apply AI|apply AH|apply AG|apply AF)<;>try dsimp only)|apply Ae|(refine Prod.forall.2 ?_;intro _;try dsimp only)|(intro _;try dsimp only))<;>(try dsimp only at*)<;>(try simp only[AU,List.length_cons,List.length_nil])<;>(try omega)
 all_goals simp [BC, *])
def Hb:Sig:= {X:=UInt8,args:=fun x=>[.int .u8 x.toNat],pre:=fun x=>True,Y:=Unit,post:=fun x y=>True,res:=fun x y=> .bool (BT x),outs:=fun x y=>[.top],keep:=false}
theorem UK:Am G Tryz.prog 169 Hb:=
 vcFun_okP [] [] false (fun x=>[]) Tryz.func169 rfl (by decide) trivial (fun(x:UInt8)=>(∀(y:Unit),True→True∧True∧True)∧Aa (decide ((↑(UInt8.toNat x):Int)≥(32:Int))) (rA Hb x [.bool (decide ((↑(UInt8.toNat x):Int)≤(126:Int))),.top]) (rA Hb x [.bool false,.top])) (fun x=>by kernel_rfl) fun(x:UInt8) (hx:True)=>(by
 dsimp only[rA,Hb,Az,AC]
 (repeat' first|(with_reducible first|rfl|exact True.intro|apply AN|apply And.intro|((first|apply AD|apply AL|apply AE|apply AM)<;>intro _))|(apply AA<;>intro _)|apply AK|refine Ae () ?_ ?_|((first|apply AR|apply AQ|apply AP|apply AO|apply AJ|apply AI|apply AH|apply AG|apply AF)<;>try dsimp only)|apply Ae|(refine Prod.forall.2 ?_;intro _;try dsimp only)|(intro _;try dsimp only))<;>(try dsimp only at*)<;>(try simp only[AU,List.length_cons,List.length_nil])<;>(try omega)
 all_goals(rw[Bool.eq_iff_iff];simp only[BT,Bool.and_eq_true,Bool.or_eq_true,decide_eq_true_eq,Bool.not_eq_true',decide_eq_false_iff_not,bne_iff_ne,ne_eq,beq_iff_eq,Bool.not_not,reduceCtorEq,Bool.false_eq_true,true_iff,false_iff,iff_true,iff_false,not_true,not_false_eq_true]<;>omega))
def KL:Sig:= {X:=UInt8,args:=fun x=>[.int .u8 x.toNat],pre:=fun x=>True,Y:=Unit,post:=fun x y=>True,res:=fun x y=> .bool (BS x),outs:=fun x y=>[.top],keep:=false}
theorem a0o:Am G Tryz.prog 165 KL:=
 vcFun_okP [] [] false (fun x=>[]) Tryz.func165 rfl (by decide) trivial (fun(x:UInt8)=>(∀(y:Unit),True→True∧True∧True)∧rA KL x [.bool ((↑(UInt8.toNat x):Int) != (10:Int)),.top]) (fun x=>by kernel_rfl) fun(x:UInt8) (hx:True)=>(by
 dsimp only[rA,KL,Az,AC]
 (repeat' first|(with_reducible first|rfl|exact True.intro|apply AN|apply And.intro|((first|apply AD|apply AL|apply AE|apply AM)<;>intro _))|(apply AA<;>intro _)|apply AK|refine Ae () ?_ ?_|((first|apply AR|apply AQ|apply AP|apply AO|apply AJ|apply AI|apply AH|apply AG|apply AF)<;>try dsimp only)|apply Ae|(refine Prod.forall.2 ?_;intro _;try dsimp only)|(intro _;try dsimp only))<;>(try dsimp only at*)<;>(try simp only[AU,List.length_cons,List.length_nil])<;>(try omega)
 all_goals(rw[Bool.eq_iff_iff];simp only[BS,Bool.and_eq_true,Bool.or_eq_true,decide_eq_true_eq,Bool.not_eq_true',decide_eq_false_iff_not,bne_iff_ne,ne_eq,beq_iff_eq,Bool.not_not,reduceCtorEq,Bool.false_eq_true,true_iff,false_iff,iff_true,iff_false,not_true,not_false_eq_true]<;>omega))
def Dx(p:UInt8→Bool)(x:List UInt8)(rs:Int→List (Nat×AV)):LS:= {
 ι:=Int,inv:=fun i=>0≤i∧i≤x.length∧∀e∈x.take i.toNat,p e=true,regs:=rs,als:=[],meas:=fun i=>x.length-i.toNat}
def GB:Sig:= {X:=List UInt8,args:=fun x=>[.str x],pre:=fun x=>x.length<2^63,Y:=Unit,post:=fun x y=>True,res:=fun x y=> .bool (x.all BT),outs:=fun x y=>[.top],keep:=false}
theorem UL:Am G Tryz.prog 167 GB:=
 vcFun_okP [] [] false (fun x=>[(2,Dx BT x fun i=>[(0,.str x),(3,.int .i64 i)])]) Tryz.func167 rfl (by decide) trivial (fun(x:List UInt8)=>(∀(y:Unit),True→True∧True∧True)∧eA (Dx BT x fun(i:Int)=>[((0:Nat),.str x),((3:Nat),.int .i64 i)]) [.str x,.int .i64 (0:Int)]∧∀(i:Int),((0:Int)≤i∧i≤(↑(List.length x):Int)∧∀(e:UInt8),e∈List.take (Int.toNat i) x→BT e=true)→Aa (decide (i<(↑(List.length x):Int))) (((0:Int)≤i∧i<(↑(List.length x):Int))∧∀(c:UInt8),x[Int.toNat i]? =some c→Aa (decide ((↑(UInt8.toNat c):Int)<(32:Int))) (rA GB x [.bool false,.top]) (((0:Int)≤i∧i<(↑(List.length x):Int))∧∀(c:UInt8),x[Int.toNat i]? =some c→Aa (decide ((↑(UInt8.toNat c):Int)>(126:Int))) (rA GB x [.bool false,.top]) (inR IntKind.i64 (i+(1:Int))∧eN (Dx BT x fun(i:Int)=>[((0:Nat),.str x),((3:Nat),.int .i64 i)]) i [.str x,.int .i64 (i+(1:Int))]))) (rA GB x [.bool true,.top])) (fun x=>by kernel_rfl) fun(x:List UInt8) (hx:x.length<2^63)=>(by
 dsimp only[eA,eN,Dx,rA,GB,Az,AC,Bt]
 (repeat' first|(with_reducible first|rfl|exact True.intro|apply AN|apply And.intro|((first|apply AD|apply AL|apply AE|apply AM)<;>intro _))|(apply AA<;>intro _)|apply AK|refine Ae () ?_ ?_|((first|apply AR|apply AQ|apply AP|apply AO|apply AJ|apply AI|apply AH|apply AG|apply AF)<;>try dsimp only)|apply Ae|(refine Prod.forall.2 ?_;intro _;try dsimp only)|(intro _;try dsimp only))<;>(try dsimp only at*)<;>(try simp only[AU,List.length_cons,List.length_nil])<;>(try omega)
 ·rename_i h;simp at h
 ·rename_i i hi hl c hc h;exact(NG hc (by(rw[Bool.eq_iff_iff];simp only[BT,Bool.and_eq_true,Bool.or_eq_true,decide_eq_true_eq,Bool.not_eq_true',decide_eq_false_iff_not,bne_iff_ne,ne_eq,beq_iff_eq,Bool.not_not,reduceCtorEq,Bool.false_eq_true,true_iff,false_iff,iff_true,iff_false,not_true,not_false_eq_true]<;>omega))).symm
 ·rename_i i hi hl c hc h d hd h2;exact(NG hd (by(rw[Bool.eq_iff_iff];simp only[BT,Bool.and_eq_true,Bool.or_eq_true,decide_eq_true_eq,Bool.not_eq_true',decide_eq_false_iff_not,bne_iff_ne,ne_eq,beq_iff_eq,Bool.not_not,reduceCtorEq,Bool.false_eq_true,true_iff,false_iff,iff_true,iff_false,not_true,not_false_eq_true]<;>omega))).symm
 ·rename_i i hi hl c hc h d hd h2 e he
  rw[hc] at hd;cases hd
  rw[DF hi.1] at he;exact Mm hi.2.2 hc (by(rw[Bool.eq_iff_iff];simp only[BT,Bool.and_eq_true,Bool.or_eq_true,decide_eq_true_eq,Bool.not_eq_true',decide_eq_false_iff_not,bne_iff_ne,ne_eq,beq_iff_eq,Bool.not_not,reduceCtorEq,Bool.false_eq_true,true_iff,false_iff,iff_true,iff_false,not_true,not_false_eq_true]<;>omega)) e he
 ·rename_i i hi hl;exact(Rm hi.2.2 (by omega)).symm)
def Jg:Sig:= {X:=List UInt8,args:=fun x=>[.str x,.clo (.func 161) []],pre:=fun x=>x.length<2^63,Y:=Unit,post:=fun x y=>True,res:=fun x y=> .str (x.takeWhile BC),outs:=fun x y=>[.top,.top],keep:=false}
theorem a0p:Am G Tryz.prog 160 Jg:=
 vcFun_okP [(161,0,Jf)] [] false (fun x=>[(2,Dx BC x fun i=>[(0,.str x),(1,.clo (.func 161) []),(5,.int .i64 i)])]) Tryz.func160 rfl (by decide) ⟨a0n,trivial⟩ (fun(x:List UInt8)=>(∀(y:Unit),True→True∧True∧True∧True)∧eA (Dx BC x fun(i:Int)=>[((0:Nat),.str x),((1:Nat),AV.clo (Fn.func (84:FuncId)) []),((5:Nat),.int .i64 i)]) [.str x,AV.clo (Fn.func (84:FuncId)) [],.int .i64 (0:Int)]∧∀(i:Int),((0:Int)≤i∧i≤(↑(List.length x):Int)∧∀(e:UInt8),e∈List.take (Int.toNat i) x→BC e=true)→Aa (decide (i<(↑(List.length x):Int))) (((0:Int)≤i∧i<(↑(List.length x):Int))∧∀(c:UInt8),x[Int.toNat i]? =some c→cA Jf [AV.int IntKind.u8 (↑(UInt8.toNat c):Int)] fun x_1 y=>Aa (BC x_1) (inR IntKind.i64 (i+(1:Int))∧eN (Dx BC x fun(i:Int)=>[((0:Nat),.str x),((1:Nat),AV.clo (Fn.func (84:FuncId)) []),((5:Nat),.int .i64 i)]) i [.str x,AV.clo (Fn.func (84:FuncId)) [],.int .i64 (i+(1:Int))]) (((0:Int)≤(0:Int)∧(0:Int)≤i∧i≤(↑(List.length x):Int))∧rA Jg x [.str (List.take (Int.toNat i) x),.top,.top])) (((0:Int)≤(0:Int)∧(0:Int)≤i∧i≤(↑(List.length x):Int))∧rA Jg x [.str (List.take (Int.toNat i) x),.top,.top])) (fun x=>by kernel_rfl) fun(x:List UInt8) (hx:x.length<2^63)=>(by
 dsimp only[cA,eA,eN,Dx,rA,Jf,Jg,Az,AC,mvL,lnL,mvE,lnE,Bt]
 (repeat' first|(with_reducible first|rfl|exact True.intro|apply AN|apply And.intro|((first|apply AD|apply AL|apply AE|apply AM)<;>intro _))|(apply AA<;>intro _)|apply AK|refine Ae () ?_ ?_|((first|apply AR|apply AQ|apply AP|apply AO|apply AJ|apply AI|apply AH|apply AG|apply AF)<;>try dsimp only)|apply Ae|(refine Prod.forall.2 ?_;intro _;try dsimp only)|(intro _;try dsimp only))<;>(try dsimp only at*)<;>(try simp only[AU,List.length_cons,List.length_nil])<;>(try omega)
 ·rename_i h;simp at h
 ·rename_i i hi hl c hc y _ hp e he
  rw[DF hi.1] at he;exact Mm hi.2.2 hc hp e he
 ·rename_i i hi hl c hc y _ hp
  exact Ht hi.2.2 (.inr ⟨c,hc,hp⟩)
 ·rename_i i hi hl
  exact Ht hi.2.2 (.inl (by omega)))
def Jh:Sig:= {X:=List UInt8,args:=fun x=>[.str x,.clo (.func 162) []],pre:=fun x=>x.length<2^63,Y:=Unit,post:=fun x y=>True,res:=fun x y=> .str (x.takeWhile Bl),outs:=fun x y=>[.top,.top],keep:=false}
theorem a0q:Am G Tryz.prog 160 Jh:=
 vcFun_okP [(162,0,Fw)] [] false (fun x=>[(2,Dx Bl x fun i=>[(0,.str x),(1,.clo (.func 162) []),(5,.int .i64 i)])]) Tryz.func160 rfl (by decide) ⟨Rp,trivial⟩ (fun(x:List UInt8)=>(∀(y:Unit),True→True∧True∧True∧True)∧eA (Dx Bl x fun(i:Int)=>[((0:Nat),.str x),((1:Nat),AV.clo (Fn.func (85:FuncId)) []),((5:Nat),.int .i64 i)]) [.str x,AV.clo (Fn.func (85:FuncId)) [],.int .i64 (0:Int)]∧∀(i:Int),((0:Int)≤i∧i≤(↑(List.length x):Int)∧∀(e:UInt8),e∈List.take (Int.toNat i) x→Bl e=true)→Aa (decide (i<(↑(List.length x):Int))) (((0:Int)≤i∧i<(↑(List.length x):Int))∧∀(c:UInt8),x[Int.toNat i]? =some c→cA Fw [AV.int IntKind.u8 (↑(UInt8.toNat c):Int)] fun x_1 y=>Aa (Bl x_1) (inR IntKind.i64 (i+(1:Int))∧eN (Dx Bl x fun(i:Int)=>[((0:Nat),.str x),((1:Nat),AV.clo (Fn.func (85:FuncId)) []),((5:Nat),.int .i64 i)]) i [.str x,AV.clo (Fn.func (85:FuncId)) [],.int .i64 (i+(1:Int))]) (((0:Int)≤(0:Int)∧(0:Int)≤i∧i≤(↑(List.length x):Int))∧rA Jh x [.str (List.take (Int.toNat i) x),.top,.top])) (((0:Int)≤(0:Int)∧(0:Int)≤i∧i≤(↑(List.length x):Int))∧rA Jh x [.str (List.take (Int.toNat i) x),.top,.top])) (fun x=>by kernel_rfl) fun(x:List UInt8) (hx:x.length<2^63)=>(by
 dsimp only[cA,eA,eN,Dx,rA,Fw,Jh,Az,AC,mvL,lnL,mvE,lnE,Bt]
 (repeat' first|(with_reducible first|rfl|exact True.intro|apply AN|apply And.intro|((first|apply AD|apply AL|apply AE|apply AM)<;>intro _))|(apply AA<;>intro _)|apply AK|refine Ae () ?_ ?_|((first|apply AR|apply AQ|apply AP|apply AO|apply AJ|apply AI|apply AH|apply AG|apply AF)<;>try dsimp only)|apply Ae|(refine Prod.forall.2 ?_;intro _;try dsimp only)|(intro _;try dsimp only))<;>(try dsimp only at*)<;>(try simp only[AU,List.length_cons,List.length_nil])<;>(try omega)
 ·rename_i h;simp at h
 ·rename_i i hi hl c hc y _ hp e he
  rw[DF hi.1] at he;exact Mm hi.2.2 hc hp e he
 ·rename_i i hi hl c hc y _ hp
  exact Ht hi.2.2 (.inr ⟨c,hc,hp⟩)
 ·rename_i i hi hl
  exact Ht hi.2.2 (.inl (by omega)))
def Ji:Sig:= {X:=List UInt8,args:=fun x=>[.str x,.clo (.func 165) []],pre:=fun x=>x.length<2^63,Y:=Unit,post:=fun x y=>True,res:=fun x y=> .str (x.takeWhile BS),outs:=fun x y=>[.top,.top],keep:=false}
theorem a0r:Am G Tryz.prog 160 Ji:=
 vcFun_okP [(165,0,KL)] [] false (fun x=>[(2,Dx BS x fun i=>[(0,.str x),(1,.clo (.func 165) []),(5,.int .i64 i)])]) Tryz.func160 rfl (by decide) ⟨a0o,trivial⟩ (fun(x:List UInt8)=>(∀(y:Unit),True→True∧True∧True∧True)∧eA (Dx BS x fun(i:Int)=>[((0:Nat),.str x),((1:Nat),AV.clo (Fn.func (88:FuncId)) []),((5:Nat),.int .i64 i)]) [.str x,AV.clo (Fn.func (88:FuncId)) [],.int .i64 (0:Int)]∧∀(i:Int),((0:Int)≤i∧i≤(↑(List.length x):Int)∧∀(e:UInt8),e∈List.take (Int.toNat i) x→BS e=true)→Aa (decide (i<(↑(List.length x):Int))) (((0:Int)≤i∧i<(↑(List.length x):Int))∧∀(c:UInt8),x[Int.toNat i]? =some c→cA KL [AV.int IntKind.u8 (↑(UInt8.toNat c):Int)] fun x_1 y=>Aa (BS x_1) (inR IntKind.i64 (i+(1:Int))∧eN (Dx BS x fun(i:Int)=>[((0:Nat),.str x),((1:Nat),AV.clo (Fn.func (88:FuncId)) []),((5:Nat),.int .i64 i)]) i [.str x,AV.clo (Fn.func (88:FuncId)) [],.int .i64 (i+(1:Int))]) (((0:Int)≤(0:Int)∧(0:Int)≤i∧i≤(↑(List.length x):Int))∧rA Ji x [.str (List.take (Int.toNat i) x),.top,.top])) (((0:Int)≤(0:Int)∧(0:Int)≤i∧i≤(↑(List.length x):Int))∧rA Ji x [.str (List.take (Int.toNat i) x),.top,.top])) (fun x=>by kernel_rfl) fun(x:List UInt8) (hx:x.length<2^63)=>(by
 dsimp only[cA,eA,eN,Dx,rA,Ji,KL,Az,AC,mvL,lnL,mvE,lnE,Bt]
 (repeat' first|(with_reducible first|rfl|exact True.intro|apply AN|apply And.intro|((first|apply AD|apply AL|apply AE|apply AM)<;>intro _))|(apply AA<;>intro _)|apply AK|refine Ae () ?_ ?_|((first|apply AR|apply AQ|apply AP|apply AO|apply AJ|apply AI|apply AH|apply AG|apply AF)<;>try dsimp only)|apply Ae|(refine Prod.forall.2 ?_;intro _;try dsimp only)|(intro _;try dsimp only))<;>(try dsimp only at*)<;>(try simp only[AU,List.length_cons,List.length_nil])<;>(try omega)
 ·rename_i h;simp at h
 ·rename_i i hi hl c hc y _ hp e he
  rw[DF hi.1] at he;exact Mm hi.2.2 hc hp e he
 ·rename_i i hi hl c hc y _ hp
  exact Ht hi.2.2 (.inr ⟨c,hc,hp⟩)
 ·rename_i i hi hl
  exact Ht hi.2.2 (.inl (by omega)))
end Go.My
end
section
set_option linter.unusedVariables false
set_option linter.unusedSimpArgs false
namespace Go.My
open Go.Eng Go.Proofs
variable {G:GInv}
def byA:UInt8→List AV:=fun c=>[.int .u8 c.toNat]
theorem CT(c:UInt8):byA c=[.int .u8 c.toNat]:=rfl
def cur(b:List UInt8)(i h:Int):List AV:=[.sl false 0 1 UInt8 byA b,.int .i64 i,.int .i64 h]
def Ad(b:List UInt8)(i:Int):Prop:=(0≤i∧i≤b.length)∧b.length≤2^21
theorem Rr{n:Int}(h1: -9223372036854775808≤n)(h2:n≤9223372036854775807):IntKind.i64.wrap n=n:=Nb ⟨by simp [IntKind.min,IntKind.bits,IntKind.signed];omega,by simp [IntKind.max,IntKind.bits,IntKind.signed];omega⟩
theorem UM(a:Int):0≤Di .and .i64 a 255∧Di .and .i64 a 255≤255:=by
 unfold Di
 have h:(BitVec.ofInt IntKind.i64.bits a&&& BitVec.ofInt IntKind.i64.bits 255).toNat≤255:=by
  rw[BitVec.toNat_and]
  exact Nat.le_trans Nat.and_le_right (by decide)
 simp only
 rw[Rr (by omega) (by omega)]
 omega
theorem Rs(a:Int):0≤Di .and .i64 a 1073741823∧Di .and .i64 a 1073741823≤1073741823:=by
 unfold Di
 have h:(BitVec.ofInt IntKind.i64.bits a&&& BitVec.ofInt IntKind.i64.bits 1073741823).toNat≤1073741823:=by
  rw[BitVec.toNat_and]
  exact Nat.le_trans Nat.and_le_right (by decide)
 simp only
 rw[Rr (by omega) (by omega)]
 omega
theorem Hc{a n:Int}(h0:0≤a)(hn:0<n):0≤a.tmod n∧a.tmod n<n:=⟨Int.tmod_nonneg n h0,Int.tmod_lt_of_pos a hn⟩
def EZ:Sig:= {X:=List UInt8×Int×Int,args:=fun x=>[.box 0 (cur x.1 x.2.1 x.2.2)],pre:=fun x=>Ad x.1 x.2.1,Y:=Int×Int×Int,post:=fun x y=>(0≤y.1∧y.1≤255)∧Ad x.1 y.2.1,res:=fun x y=> .int .i64 y.1,outs:=fun x y=>[.box 0 (cur x.1 y.2.1 y.2.2)],keep:=true}
theorem UN:Am G Tryz.prog 50 EZ:=
 vcFun_okP [] [] true (fun x=>[]) Tryz.func50 rfl (by decide) trivial (fun(x:List UInt8×Int×Int)=>True∧true=true∧true=true∧(0:Int)≤(33:Int)∧(0:Int)≤(45:Int)∧true=true∧true=true∧Aa (decide (x.2.1<(↑(List.length x.1):Int))) (true=true∧true=true∧((0:Int)≤x.2.1∧x.2.1<(↑(List.length x.1):Int))∧∀(e:UInt8),x.1[Int.toNat x.2.1]? =some e→rA EZ x [.int .i64 (Di BinOp.and IntKind.i64 (IntKind.wrap IntKind.i64 (Di BinOp.and IntKind.i64 (Di BinOp.xor IntKind.i64 (shI false IntKind.i64 (IntKind.wrap IntKind.i64 (IntKind.wrap IntKind.i64 (x.2.2*(6364136223846793005:Int))+(1442695040888963407:Int))) (33:Int)) (shI false IntKind.i64 (IntKind.wrap IntKind.i64 (IntKind.wrap IntKind.i64 (x.2.2*(6364136223846793005:Int))+(1442695040888963407:Int))) (45:Int))) (255:Int)+IntKind.wrap IntKind.i64 (↑(UInt8.toNat e):Int))) (255:Int)),.box 0 [AV.sl false (0:Nat) (1:Nat) UInt8 byA x.1,.int .i64 (IntKind.wrap IntKind.i64 (x.2.1+(1:Int))),.int .i64 (IntKind.wrap IntKind.i64 (IntKind.wrap IntKind.i64 (x.2.2*(6364136223846793005:Int))+(1442695040888963407:Int)))]]) (rA EZ x [.int .i64 (Di BinOp.and IntKind.i64 (Di BinOp.xor IntKind.i64 (shI false IntKind.i64 (IntKind.wrap IntKind.i64 (IntKind.wrap IntKind.i64 (x.2.2*(6364136223846793005:Int))+(1442695040888963407:Int))) (33:Int)) (shI false IntKind.i64 (IntKind.wrap IntKind.i64 (IntKind.wrap IntKind.i64 (x.2.2*(6364136223846793005:Int))+(1442695040888963407:Int))) (45:Int))) (255:Int)),.box 0 [AV.sl false (0:Nat) (1:Nat) UInt8 byA x.1,.int .i64 x.2.1,.int .i64 (IntKind.wrap IntKind.i64 (IntKind.wrap IntKind.i64 (x.2.2*(6364136223846793005:Int))+(1442695040888963407:Int)))]])) (fun x=>by kernel_rfl) fun(x:List UInt8×Int×Int) (hx:Ad x.1 x.2.1)=>(by
 dsimp only[CT,cur,rA,EZ,Az,AC]
 obtain⟨b,i,h⟩:=x;dsimp only at hx ⊢
 have hx:Ad b i:=hx
 have hb:=hx.1;have hl:=hx.2
 (repeat' first|(with_reducible first|rfl|exact True.intro|apply AN|apply And.intro|((first|apply AD|apply AL|apply AE|apply AM)<;>intro _))|(apply AA<;>intro _)|apply AK|refine Ae () ?_ ?_|((first|apply AR|apply AQ|apply AP|apply AO|apply AJ|apply AI|apply AH|apply AG|apply AF)<;>try dsimp only)|apply Ae|(refine Prod.forall.2 ?_;intro _;try dsimp only)|(intro _;try dsimp only))
 all_goals first
  |rfl
  |omega
  |exact(UM _).1
  |exact(UM _).2
  |exact hx
  |(rw[Rr (by omega) (by omega)];exact⟨by omega,hl⟩)
  |skip)
def Da:Sig:= {X:=List UInt8×Int×Int×Int,args:=fun x=>[.box 0 (cur x.1 x.2.1 x.2.2.1),.int .i64 x.2.2.2],pre:=fun x=>Ad x.1 x.2.1,Y:=Int×Int×Int,post:=fun x y=>((0<x.2.2.2→0≤y.1∧y.1<x.2.2.2)∧(x.2.2.2≤0→y.1=0))∧Ad x.1 y.2.1,res:=fun x y=> .int .i64 y.1,outs:=fun x y=>[.box 0 (cur x.1 y.2.1 y.2.2),.top],keep:=true}
theorem Gb:Am G Tryz.prog 51 Da:=
 vcFun_okP [(50,0,EZ)] [] false (fun x=>[]) Tryz.func51 rfl (by decide) ⟨UN,trivial⟩ (fun(x:List UInt8×Int×Int×Int)=>True∧Aa (decide (x.2.2.2≤(0:Int))) (rA Da x [.int .i64 (0:Int),.box 0 [AV.sl false (0:Nat) (1:Nat) UInt8 byA x.1,.int .i64 x.2.1,.int .i64 x.2.2.1],.top]) (Aa (decide (x.2.2.2≤(256:Int))) (cA EZ [.box 0 [AV.sl false (0:Nat) (1:Nat) UInt8 byA x.1,.int .i64 x.2.1,.int .i64 x.2.2.1]] fun x_1 y=>x.2.2.2≠(0:Int)∧rA Da x [.int .i64 (Int.tmod y.1 x.2.2.2),.box 0 [AV.sl false (0:Nat) (1:Nat) UInt8 byA x_1.1,.int .i64 y.2.1,.int .i64 y.2.2],.top]) (cA EZ [.box 0 [AV.sl false (0:Nat) (1:Nat) UInt8 byA x.1,.int .i64 x.2.1,.int .i64 x.2.2.1]] fun x_1 y=>cA EZ [.box 0 [AV.sl false (0:Nat) (1:Nat) UInt8 byA x_1.1,.int .i64 y.2.1,.int .i64 y.2.2]] fun x_2 y_1=>cA EZ [.box 0 [AV.sl false (0:Nat) (1:Nat) UInt8 byA x_2.1,.int .i64 y_1.2.1,.int .i64 y_1.2.2]] fun x_3 y_2=>cA EZ [.box 0 [AV.sl false (0:Nat) (1:Nat) UInt8 byA x_3.1,.int .i64 y_2.2.1,.int .i64 y_2.2.2]] fun x_4 y_3=>inR IntKind.i64 (y.1*(16777216:Int))∧inR IntKind.i64 (y_1.1*(65536:Int))∧inR IntKind.i64 (y.1*(16777216:Int)+y_1.1*(65536:Int))∧inR IntKind.i64 (y_2.1*(256:Int))∧inR IntKind.i64 (y.1*(16777216:Int)+y_1.1*(65536:Int)+y_2.1*(256:Int))∧inR IntKind.i64 (y.1*(16777216:Int)+y_1.1*(65536:Int)+y_2.1*(256:Int)+y_3.1)∧x.2.2.2≠(0:Int)∧rA Da x [.int .i64 (Int.tmod (y.1*(16777216:Int)+y_1.1*(65536:Int)+y_2.1*(256:Int)+y_3.1) x.2.2.2),.box 0 [AV.sl false (0:Nat) (1:Nat) UInt8 byA x_4.1,.int .i64 y_3.2.1,.int .i64 y_3.2.2],.top]))) (fun x=>by kernel_rfl) fun(x:List UInt8×Int×Int×Int) (hx:Ad x.1 x.2.1)=>(by
 dsimp only[CT,cA,cur,rA,Da,EZ,Az,AC,mvL,lnL,mvE,lnE]
 obtain⟨b,i,h,n⟩:=x;dsimp only at hx ⊢
 have hx:Ad b i:=hx
 (repeat' first|(with_reducible first|rfl|exact True.intro|apply AN|apply And.intro|((first|apply AD|apply AL|apply AE|apply AM)<;>intro _))|(apply AA<;>intro _)|apply AK|refine Ae () ?_ ?_|((first|apply AR|apply AQ|apply AP|apply AO|apply AJ|apply AI|apply AH|apply AG|apply AF)<;>try dsimp only)|apply Ae|(refine Prod.forall.2 ?_;intro _;try dsimp only)|(intro _;try dsimp only))
 all_goals(repeat(rename(_∧_)∧Ad _ _=>hq;obtain⟨⟨_,_⟩,_⟩:=hq))
 all_goals first
  |rfl
  |assumption
  |omega
  |exact(Hc (by omega) (by omega)).1
  |exact(Hc (by omega) (by omega)).2
  |skip)
def Hv:Sig:= {X:=List UInt8×Int×Int×Int,args:=fun x=>[.box 0 (cur x.1 x.2.1 x.2.2.1),.int .i64 x.2.2.2],pre:=fun x=>Ad x.1 x.2.1,Y:=Bool×Int×Int,post:=fun x y=>Ad x.1 y.2.1,res:=fun x y=> .bool y.1,outs:=fun x y=>[.box 0 (cur x.1 y.2.1 y.2.2),.top],keep:=true}
theorem KM:Am G Tryz.prog 55 Hv:=
 vcFun_okP [(51,0,Da)] [] false (fun x=>[]) Tryz.func55 rfl (by decide) ⟨Gb,trivial⟩ (fun(x:List UInt8×Int×Int×Int)=>True∧cA Da [.box 0 [AV.sl false (0:Nat) (1:Nat) UInt8 byA x.1,.int .i64 x.2.1,.int .i64 x.2.2.1],.int .i64 x.2.2.2] fun x_1 y=>rA Hv x [.bool (y.1==(0:Int)),.box 0 [AV.sl false (0:Nat) (1:Nat) UInt8 byA x_1.1,.int .i64 y.2.1,.int .i64 y.2.2],.top]) (fun x=>by kernel_rfl) fun(x:List UInt8×Int×Int×Int) (hx:Ad x.1 x.2.1)=>(by
 dsimp only[CT,cA,cur,rA,Da,Hv,Az,AC,mvL,lnL,mvE,lnE]
 obtain⟨b,i,h,n⟩:=x;dsimp only at hx ⊢
 have hx:Ad b i:=hx
 (repeat' first|(with_reducible first|rfl|exact True.intro|apply AN|apply And.intro|((first|apply AD|apply AL|apply AE|apply AM)<;>intro _))|(apply AA<;>intro _)|apply AK|refine Ae () ?_ ?_|((first|apply AR|apply AQ|apply AP|apply AO|apply AJ|apply AI|apply AH|apply AG|apply AF)<;>try dsimp only)|apply Ae|(refine Prod.forall.2 ?_;intro _;try dsimp only)|(intro _;try dsimp only))
 all_goals(repeat(rename(_∧_)∧Ad _ _=>hq;obtain⟨⟨_,_⟩,_⟩:=hq))
 all_goals first
  |rfl
  |assumption
  |skip)
def Hw:Sig:= {X:=List UInt8×Int×Int×List (List UInt8),args:=fun x=>[.box 0 (cur x.1 x.2.1 x.2.2.1),.sl false 0 1 (List UInt8) As x.2.2.2],pre:=fun x=>Ad x.1 x.2.1∧x.2.2.2≠[]∧x.2.2.2.length<2^30,Y:=List UInt8×Int×Int,post:=fun x y=>y.1∈x.2.2.2∧Ad x.1 y.2.1,res:=fun x y=> .str y.1,outs:=fun x y=>[.box 0 (cur x.1 y.2.1 y.2.2),.top],keep:=true}
theorem KN:Am G Tryz.prog 123 Hw:=
 vcFun_okP [(51,0,Da)] [] false (fun x=>[]) Tryz.func123 rfl (by decide) ⟨Gb,trivial⟩ (fun(x:List UInt8×Int×Int×List (List UInt8))=>True∧cA Da [.box 0 [AV.sl false (0:Nat) (1:Nat) UInt8 byA x.1,.int .i64 x.2.1,.int .i64 x.2.2.1],.int .i64 (↑(List.length x.2.2.2):Int)] fun x_1 y=>((0:Int)≤y.1∧y.1<(↑(List.length x.2.2.2):Int))∧∀(e:List UInt8),x.2.2.2[Int.toNat y.1]? =some e→rA Hw x [.str e,.box 0 [AV.sl false (0:Nat) (1:Nat) UInt8 byA x_1.1,.int .i64 y.2.1,.int .i64 y.2.2],.top]) (fun x=>by kernel_rfl) fun(x:List UInt8×Int×Int×List (List UInt8)) (hx:Ad x.1 x.2.1∧x.2.2.2≠[]∧x.2.2.2.length<2^30)=>(by
 dsimp only[CT,cA,cur,rA,Da,Hw,Az,AC,mvL,lnL,mvE,lnE]
 obtain⟨b,i,h,l⟩:=x;dsimp only at hx ⊢
 obtain⟨hx,hn,hl⟩:=hx
 have hp:0<l.length:=by cases l with|nil=>exact(hn rfl).elim|cons _ _=>simp
 (repeat' first|(with_reducible first|rfl|exact True.intro|apply AN|apply And.intro|((first|apply AD|apply AL|apply AE|apply AM)<;>intro _))|(apply AA<;>intro _)|apply AK|refine Ae () ?_ ?_|((first|apply AR|apply AQ|apply AP|apply AO|apply AJ|apply AI|apply AH|apply AG|apply AF)<;>try dsimp only)|apply Ae|(refine Prod.forall.2 ?_;intro _;try dsimp only)|(intro _;try dsimp only))
 all_goals(repeat(rename(_∧_)∧Ad _ _=>hq;obtain⟨⟨_,_⟩,_⟩:=hq))
 all_goals first
  |rfl
  |assumption
  |exact Cv ‹_›
  |omega
  |skip)
end Go.My
end
section
set_option linter.unusedVariables false
set_option linter.unusedSimpArgs false
namespace Go.My
open Go.Eng Go.Proofs
variable {G:GInv}
structure Md where
 cv:Value
 b:List UInt8
 i:Int
 h:Int
 t:List UInt8
def mad(m:Md):AV:= .box 0 [.bv m.cv (cur m.b m.i m.h),.str m.t]
def Dm(m:Md)(i h:Int)(t:List UInt8):AV:= .box 0 [.bv m.cv (cur m.b i h),.str t]
def mdP(m:Md):Prop:=Ad m.b m.i
theorem KO{p q:Md→Prop}(a:Value)(b:List UInt8)(c d:Int)(e:List UInt8)(h2:q ⟨a,b,c,d,e⟩)(h1:p ⟨a,b,c,d,e⟩):∃x,p x∧q x:=⟨_,h1,h2⟩
theorem KP{T:Type}{p q:Md×T→Prop}(a:Value)(b:List UInt8)(c d:Int)(e:List UInt8)(v:T)(h2:q (⟨a,b,c,d,e⟩,v))(h1:p (⟨a,b,c,d,e⟩,v)):∃x,p x∧q x:=⟨_,h1,h2⟩
def vB:Nat→Nat
 |0=>200
 |n+1=>4*vB n
theorem Rt:∀n,n≤3→200≤vB n∧vB n≤12800
 |0,_=>by simp [vB]
 |1,_=>by simp [vB]
 |2,_=>by simp [vB]
 |3,_=>by simp [vB]
theorem a0s(n:Nat):vB (n+1)=4*vB n:=rfl
def sB:Nat→Nat
 |0=>39000
 |n+1=>7*sB n
theorem a0t:∀n,n≤2→39000≤sB n∧sB n≤1911000
 |0,_=>by simp [sB]
 |1,_=>by simp [sB]
 |2,_=>by simp [sB]
theorem a0u(n:Nat):sB (n+1)=7*sB n:=rfl
theorem Jj{l:List (List UInt8)}{y:List UInt8}{n:Nat}(h:y∈l)(hl:l.all (fun s=>decide (s.length≤n))=true):y.length≤n:=by
 rw[List.all_eq_true] at hl
 exact of_decide_eq_true (hl y h)
def Ba:Sig:= {X:=Md,args:=fun x=>[mad x],pre:=fun x=>mdP x,Y:=List UInt8×Int×Int,post:=fun x y=>y.1.length≤23∧Ad x.b y.2.1,res:=fun x y=> .str y.1,outs:=fun x y=>[Dm x y.2.1 y.2.2 x.t],keep:=true}
theorem Mp:Am G Tryz.prog 157 Ba:=
 vcFun_okP [(123,0,Hw)] [(38,⟨List UInt8,As⟩)] false (fun x=>[]) Tryz.func157 rfl (by decide) ⟨KN,trivial⟩ (fun(x:Md)=>True∧∃(x_1:List UInt8),#[(97:UInt8)].toList=x_1∧∃(x_2:List UInt8),#[(98:UInt8)].toList=x_2∧∃(x_3:List UInt8),#[(118:UInt8),(97:UInt8),(108:UInt8),(117:UInt8),(101:UInt8)].toList=x_3∧∃(x_4:List UInt8),#[(116:UInt8),(111:UInt8),(116:UInt8),(97:UInt8),(108:UInt8)].toList=x_4∧∃(x_5:List UInt8),#[(115:UInt8),(111:UInt8),(109:UInt8),(101:UInt8),(76:UInt8),(111:UInt8),(110:UInt8),(103:UInt8),(101:UInt8),(114:UInt8),(78:UInt8),(97:UInt8),(109:UInt8),(101:UInt8)].toList=x_5∧∃(x_6:List UInt8),#[(120:UInt8),(49:UInt8)].toList=x_6∧∃(x_7:List UInt8),#[(116:UInt8),(104:UInt8),(101:UInt8),(86:UInt8),(101:UInt8),(114:UInt8),(121:UInt8),(76:UInt8),(111:UInt8),(110:UInt8),(103:UInt8),(101:UInt8),(115:UInt8),(116:UInt8),(78:UInt8),(97:UInt8),(109:UInt8),(101:UInt8),(79:UInt8),(102:UInt8),(65:UInt8),(108:UInt8),(108:UInt8)].toList=x_7∧∃(x_8:List UInt8×Int×Int×List (List UInt8)),(Ad x_8.1 x_8.2.1∧x_8.2.2.2≠[]∧List.length x_8.2.2.2<(1073741824:Nat))∧x.cv=x.cv∧AV.sl false (0:Nat) (1:Nat) UInt8 byA x.b=AV.sl false (0:Nat) (1:Nat) UInt8 byA x_8.1∧x.i=x_8.2.1∧x.h=x_8.2.2.1∧AV.sl false (0:Nat) (1:Nat) (List UInt8) (fun(x:List UInt8)=>fzL (As x)) [x_1,x_2,x_3,x_4,x_5,x_6,x_7]=AV.sl false (0:Nat) (1:Nat) (List UInt8) As x_8.2.2.2∧∀(y:List UInt8×Int×Int),y.1∈x_8.2.2.2∧Ad x_8.1 y.2.1→x.cv=x.cv∧rA Ba x [.str y.1,.box 0 [AV.bv x.cv [AV.sl false (0:Nat) (1:Nat) UInt8 byA x_8.1,.int .i64 y.2.1,.int .i64 y.2.2],.str x.t]]) (fun x=>by kernel_rfl) fun(x:Md) (hx:mdP x)=>(by
 dsimp only[CT,cur,mad,Dm,rA,Ba,Az,AC]
 obtain⟨cv,b,i,h,t⟩:=x;dsimp only at hx ⊢
 have hx:Ad b i:=hx
 (repeat' first|(with_reducible first|rfl|exact True.intro|apply AN|apply And.intro|((first|apply AD|apply AL|apply AE|apply AM)<;>intro _))|(apply AA<;>intro _)|apply AK|refine Ae () ?_ ?_|((first|apply AR|apply AQ|apply AP|apply AO|apply AJ|apply AI|apply AH|apply AG|apply AF)<;>try dsimp only)|apply Ae|(refine Prod.forall.2 ?_;intro _;try dsimp only)|(intro _;try dsimp only))
 all_goals first
  |rfl
  |exact hx
  |(simp;done)
  |(rename _=[]=>hq;cases hq;done)
  |exact Jj (And.left ‹_›) (by decide)
  |exact And.right (show _∈_∧Ad _ _ by assumption)
  |skip)
def Bj(n:Nat):Sig:= {X:=Md×Int,args:=fun x=>[mad x.1,.int .i64 x.2],pre:=fun x=>(mdP x.1∧n≤3)∧x.2≤n∧ -5≤x.2,Y:=List UInt8×Int×Int,post:=fun x y=>y.1.length≤vB n∧Ad x.1.b y.2.1,res:=fun x y=> .str y.1,outs:=fun x y=>[Dm x.1 y.2.1 y.2.2 x.1.t,.top],keep:=true}
def liB(v:Nat)(i:Int)(l:Nat):Prop:=(i=0∧l=0)∨(i=1∧l≤v)∨(i=2∧l≤2*v+2)∨(i=3∧l≤3*v+4)
theorem a0v{v:Nat}:liB v 0 ([]:List UInt8).length:= .inl ⟨rfl,rfl⟩
theorem a0w{v:Nat}{i:Int}{l:Nat}(h:liB v i l):(0≤i∧i≤3)∧l≤3*v+4:=by unfold liB at h;omega
theorem a0x{v:Nat}{b:List UInt8}{i m c e:Int}{s y:List UInt8}(h:(liB v i s.length∧m≤3)∧Ad b c)(hm:i<m)(hi:¬i>0)(hy:y.length≤v∧Ad b e):liB v (i+1) (s++y).length:=by obtain⟨⟨h,_⟩,_⟩:=h;obtain⟨hy,_⟩:=hy;unfold liB at h ⊢;rw[List.length_append];omega
theorem a0y{v:Nat}{b:List UInt8}{i m c e:Int}{s y:List UInt8}(h:(liB v i s.length∧m≤3)∧Ad b c)(hm:i<m)(hp:i>0)(hy:y.length≤v∧Ad b e):liB v (i+1) (s++[44,32]++y).length:=by obtain⟨⟨h,_⟩,_⟩:=h;obtain⟨hy,_⟩:=hy;unfold liB at h ⊢;simp only[List.length_append,List.length_cons,List.length_nil];omega
def lmL(n:Nat)(x:Md×Int):LS:= {
 ι:=Int×Int×Int×Int×List UInt8,inv:=fun i=>(liB (vB n) i.1 i.2.2.2.2.length∧i.2.2.2.1≤3)∧Ad x.1.b i.2.1,regs:=fun i=>[(0,Dm x.1 i.2.1 i.2.2.1 x.1.t),(1,.int .i64 x.2),(5,.str i.2.2.2.2),(6,.int .i64 i.2.2.2.1),(7,.int .i64 i.1)],als:=[],meas:=fun i=>4-i.1.toNat}
def DH(n:Nat):Sig:= {X:=Md×Int,args:=fun x=>[mad x.1,.int .i64 x.2],pre:=fun x=>(mdP x.1∧n≤3)∧x.2≤n+1∧ -4≤x.2,Y:=List UInt8×Int×Int,post:=fun x y=>y.1.length≤3*vB n+7∧Ad x.1.b y.2.1,res:=fun x y=> .str y.1,outs:=fun x y=>[Dm x.1 y.2.1 y.2.2 x.1.t,.top],keep:=true}
theorem a0z(n:Nat)(hc:Am G Go.Proofs.Tryz.prog 181 (Bj n)):Am G Tryz.prog 195 (DH n):=
 vcFun_okP [(51,0,Da),(181,0,(Bj n)),(55,0,Hv)] [] false (fun x=>[(4,lmL n x)]) Tryz.func195 rfl (by decide) ⟨Gb,hc,KM,trivial⟩ (fun(x:Md×Int)=>True∧∃(x_1:List UInt8×Int×Int×Int),Ad x_1.1 x_1.2.1∧x.1.cv=x.1.cv∧AV.sl false (0:Nat) (1:Nat) UInt8 byA x.1.b=AV.sl false (0:Nat) (1:Nat) UInt8 byA x_1.1∧x.1.i=x_1.2.1∧x.1.h=x_1.2.2.1∧(4:Int)=x_1.2.2.2∧∀(y:Int×Int×Int),(((0:Int)<x_1.2.2.2→(0:Int)≤y.1∧y.1<x_1.2.2.2)∧(x_1.2.2.2≤(0:Int)→y.1=(0:Int)))∧Ad x_1.1 y.2.1→x.1.cv=x.1.cv∧eA (lmL n x) [.box 0 [AV.bv x.1.cv [AV.sl false (0:Nat) (1:Nat) UInt8 byA x_1.1,.int .i64 y.2.1,.int .i64 y.2.2],.str x.1.t],.int .i64 x.2,.str #[].toList,.int .i64 y.1,.int .i64 (0:Int)]∧∀(i:Int×Int×Int×Int×List UInt8),(liB (vB n) i.1 (List.length i.2.2.2.2)∧i.2.2.2.1≤(3:Int))∧Ad x.1.b i.2.1→Aa (decide (i.1<i.2.2.2.1)) (Aa (decide (i.1>(0:Int))) ((↑(List.length i.2.2.2.2+(2:Nat)):Int)≤IntKind.max IntKind.i64∧inR IntKind.i64 (x.2-(1:Int))∧cA (Bj n) [.box 0 [AV.bv x.1.cv [AV.sl false (0:Nat) (1:Nat) UInt8 byA x.1.b,.int .i64 i.2.1,.int .i64 i.2.2.1],.str x.1.t],.int .i64 (x.2-(1:Int))] fun x_2 y=>(↑(List.length (i.2.2.2.2++ #[(44:UInt8),(32:UInt8)].toList)+List.length y.1):Int)≤IntKind.max IntKind.i64∧inR IntKind.i64 (i.1+(1:Int))∧eN (lmL n x) i [.box 0 [AV.bv x_2.1.cv [AV.sl false (0:Nat) (1:Nat) UInt8 byA x_2.1.b,.int .i64 y.2.1,.int .i64 y.2.2],.str x_2.1.t],.int .i64 x.2,.str (i.2.2.2.2++ #[(44:UInt8),(32:UInt8)].toList++y.1),.int .i64 i.2.2.2.1,.int .i64 (i.1+(1:Int))]) (inR IntKind.i64 (x.2-(1:Int))∧cA (Bj n) [.box 0 [AV.bv x.1.cv [AV.sl false (0:Nat) (1:Nat) UInt8 byA x.1.b,.int .i64 i.2.1,.int .i64 i.2.2.1],.str x.1.t],.int .i64 (x.2-(1:Int))] fun x_2 y=>(↑(List.length i.2.2.2.2+List.length y.1):Int)≤IntKind.max IntKind.i64∧inR IntKind.i64 (i.1+(1:Int))∧eN (lmL n x) i [.box 0 [AV.bv x_2.1.cv [AV.sl false (0:Nat) (1:Nat) UInt8 byA x_2.1.b,.int .i64 y.2.1,.int .i64 y.2.2],.str x_2.1.t],.int .i64 x.2,.str (i.2.2.2.2++y.1),.int .i64 i.2.2.2.1,.int .i64 (i.1+(1:Int))])) (Aa (decide (i.2.2.2.1>(0:Int))) (∃(x_2:List UInt8×Int×Int×Int),Ad x_2.1 x_2.2.1∧x.1.cv=x.1.cv∧AV.sl false (0:Nat) (1:Nat) UInt8 byA x.1.b=AV.sl false (0:Nat) (1:Nat) UInt8 byA x_2.1∧i.2.1=x_2.2.1∧i.2.2.1=x_2.2.2.1∧(5:Int)=x_2.2.2.2∧∀(y:Bool×Int×Int),Ad x_2.1 y.2.1→x.1.cv=x.1.cv∧Aa y.1 ((↑(List.length i.2.2.2.2+(1:Nat)):Int)≤IntKind.max IntKind.i64∧rA (DH n) x [.str (i.2.2.2.2++ #[(44:UInt8)].toList),.box 0 [AV.bv x.1.cv [AV.sl false (0:Nat) (1:Nat) UInt8 byA x_2.1,.int .i64 y.2.1,.int .i64 y.2.2],.str x.1.t],.top]) (rA (DH n) x [.str i.2.2.2.2,.box 0 [AV.bv x.1.cv [AV.sl false (0:Nat) (1:Nat) UInt8 byA x_2.1,.int .i64 y.2.1,.int .i64 y.2.2],.str x.1.t],.top])) (rA (DH n) x [.str i.2.2.2.2,.box 0 [AV.bv x.1.cv [AV.sl false (0:Nat) (1:Nat) UInt8 byA x.1.b,.int .i64 i.2.1,.int .i64 i.2.2.1],.str x.1.t],.top]))) (fun x=>by kernel_rfl) fun(x:Md×Int) (hx:(mdP x.1∧n≤3)∧x.2≤n+1∧ -4≤x.2)=>(by
 dsimp only[CT,cA,cur,eA,eN,lmL,mad,Dm,rA,DH,Bj,Az,AC,mvL,lnL,mvE,lnE,Bt]
 obtain⟨⟨cv,b,i,h,t⟩,d⟩:=x;dsimp only at hx ⊢
 obtain⟨⟨hx,hn⟩,hd,hd2⟩:=hx
 have hx:Ad b i:=hx
 have hv:=Rt n hn
 (repeat' first|(apply KP<;>try dsimp only)|(with_reducible first|rfl|exact True.intro|apply AN|apply And.intro|((first|apply AD|apply AL|apply AE|apply AM)<;>intro _))|(apply AA<;>intro _)|apply AK|refine Ae () ?_ ?_|((first|apply AR|apply AQ|apply AP|apply AO|apply AJ|apply AI|apply AH|apply AG|apply AF)<;>try dsimp only)|apply Ae|(refine Prod.forall.2 ?_;intro _;try dsimp only)|(intro _;try dsimp only))
 all_goals(repeat(rename((_→_)∧(_→_))∧Ad _ _=>hq;obtain⟨⟨_,_⟩,_⟩:=hq))
 all_goals first
  |rfl
  |(with_reducible assumption)
  |exact a0v
  |omega
  |exact hx
  |exact And.right (show(_∧_)∧Ad _ _ by assumption)
  |exact And.right (show _≤_∧Ad _ _ by assumption)
  |exact a0y ‹_› ‹_› ‹_› ‹_›
  |exact a0x ‹_› ‹_› ‹_› ‹_›
  |(have hq:=a0w (And.left (And.left (show(liB _ _ _∧_)∧_ by assumption)));(try simp only[AU,List.length_append,List.length_cons,List.length_nil]);omega)
  |skip)
theorem UO{k:Int}(h:((0:Int)<16→0≤k∧k<16)∧((16:Int)≤0→k=0)):0≤k∧k<16:=h.1 (by decide)
theorem tm5{k:Int}(h:0≤k):0≤k.tmod 5∧k.tmod 5<5:=Hc h (by decide)
def Cg(n:Nat):Sig:= {X:=Md×Int,args:=fun x=>[mad x.1,.int .i64 x.2],pre:=fun x=>(mdP x.1∧n+1≤3)∧x.2≤(n+1:Nat)∧ -5≤x.2,Y:=List UInt8×Int×Int,post:=fun x y=>y.1.length≤vB (n+1)∧Ad x.1.b y.2.1,res:=fun x y=> .str y.1,outs:=fun x y=>[Dm x.1 y.2.1 y.2.2 x.1.t,.top],keep:=true}
set_option maxHeartbeats 8000000 in
theorem a0A(n:Nat)(hc:Am G Go.Proofs.Tryz.prog 181 (Bj n)):Am G Tryz.prog 181 (Cg n):=
 vcFun_okP [(51,0,Da),(157,0,Ba),(123,0,Hw),(195,0,(DH n)),(181,0,(Bj n))] [(38,⟨List UInt8,As⟩)] false (fun x=>[]) Tryz.func181 rfl (by decide) ⟨Gb,Mp,KN,(a0z n hc),hc,trivial⟩ (fun(x:Md×Int)=>True∧∃(x_1:List UInt8×Int×Int×Int),Ad x_1.1 x_1.2.1∧x.1.cv=x.1.cv∧AV.sl false (0:Nat) (1:Nat) UInt8 byA x.1.b=AV.sl false (0:Nat) (1:Nat) UInt8 byA x_1.1∧x.1.i=x_1.2.1∧x.1.h=x_1.2.2.1∧(16:Int)=x_1.2.2.2∧∀(y:Int×Int×Int),(((0:Int)<x_1.2.2.2→(0:Int)≤y.1∧y.1<x_1.2.2.2)∧(x_1.2.2.2≤(0:Int)→y.1=(0:Int)))∧Ad x_1.1 y.2.1→x.1.cv=x.1.cv∧Aa (decide (x.2≤(0:Int))) ((5:Int)≠(0:Int)∧Aa (Int.tmod y.1 (5:Int)==(0:Int)) (cA Ba [.box 0 [AV.bv x.1.cv [AV.sl false (0:Nat) (1:Nat) UInt8 byA x_1.1,.int .i64 y.2.1,.int .i64 y.2.2],.str x.1.t]] fun x_2 y=>rA (Cg n) x [.str y.1,.box 0 [AV.bv x_2.cv [AV.sl false (0:Nat) (1:Nat) UInt8 byA x_2.b,.int .i64 y.2.1,.int .i64 y.2.2],.str x_2.t],.top]) (Aa (Int.tmod y.1 (5:Int)==(1:Int)) (cA Ba [.box 0 [AV.bv x.1.cv [AV.sl false (0:Nat) (1:Nat) UInt8 byA x_1.1,.int .i64 y.2.1,.int .i64 y.2.2],.str x.1.t]] fun x_2 y=>rA (Cg n) x [.str y.1,.box 0 [AV.bv x_2.cv [AV.sl false (0:Nat) (1:Nat) UInt8 byA x_2.b,.int .i64 y.2.1,.int .i64 y.2.2],.str x_2.t],.top]) (Aa (Int.tmod y.1 (5:Int)==(2:Int)) (cA Ba [.box 0 [AV.bv x.1.cv [AV.sl false (0:Nat) (1:Nat) UInt8 byA x_1.1,.int .i64 y.2.1,.int .i64 y.2.2],.str x.1.t]] fun x_2 y=>rA (Cg n) x [.str y.1,.box 0 [AV.bv x_2.cv [AV.sl false (0:Nat) (1:Nat) UInt8 byA x_2.b,.int .i64 y.2.1,.int .i64 y.2.2],.str x_2.t],.top]) (Aa (Int.tmod y.1 (5:Int)==(3:Int)) (∃(x_2:List UInt8),#[(48:UInt8)].toList=x_2∧∃(x_3:List UInt8),#[(49:UInt8),(50:UInt8)].toList=x_3∧∃(x_4:List UInt8),#[(49:UInt8),(50:UInt8),(51:UInt8),(52:UInt8),(53:UInt8),(54:UInt8),(55:UInt8)].toList=x_4∧∃(x_5:List UInt8×Int×Int×List (List UInt8)),(Ad x_5.1 x_5.2.1∧x_5.2.2.2≠[]∧List.length x_5.2.2.2<(1073741824:Nat))∧x.1.cv=x.1.cv∧AV.sl false (0:Nat) (1:Nat) UInt8 byA x_1.1=AV.sl false (0:Nat) (1:Nat) UInt8 byA x_5.1∧y.2.1=x_5.2.1∧y.2.2=x_5.2.2.1∧AV.sl false (0:Nat) (1:Nat) (List UInt8) (fun(x:List UInt8)=>fzL (As x)) [x_2,x_3,x_4]=AV.sl false (0:Nat) (1:Nat) (List UInt8) As x_5.2.2.2∧∀(y:List UInt8×Int×Int),y.1∈x_5.2.2.2∧Ad x_5.1 y.2.1→x.1.cv=x.1.cv∧rA (Cg n) x [.str y.1,.box 0 [AV.bv x.1.cv [AV.sl false (0:Nat) (1:Nat) UInt8 byA x_5.1,.int .i64 y.2.1,.int .i64 y.2.2],.str x.1.t],.top]) (Aa (Int.tmod y.1 (5:Int)==(4:Int)) (∃(x_2:List UInt8),#[(39:UInt8),(115:UInt8),(97:UInt8),(105:UInt8),(100:UInt8),(39:UInt8)].toList=x_2∧∃(x_3:List UInt8),#[(39:UInt8),(39:UInt8)].toList=x_3∧∃(x_4:List UInt8),#[(39:UInt8),(97:UInt8),(32:UInt8),(108:UInt8),(111:UInt8),(110:UInt8),(103:UInt8),(101:UInt8),(114:UInt8),(32:UInt8),(116:UInt8),(101:UInt8),(120:UInt8),(116:UInt8),(32:UInt8),(104:UInt8),(101:UInt8),(114:UInt8),(101:UInt8),(39:UInt8)].toList=x_4∧∃(x_5:List UInt8×Int×Int×List (List UInt8)),(Ad x_5.1 x_5.2.1∧x_5.2.2.2≠[]∧List.length x_5.2.2.2<(1073741824:Nat))∧x.1.cv=x.1.cv∧AV.sl false (0:Nat) (1:Nat) UInt8 byA x_1.1=AV.sl false (0:Nat) (1:Nat) UInt8 byA x_5.1∧y.2.1=x_5.2.1∧y.2.2=x_5.2.2.1∧AV.sl false (0:Nat) (1:Nat) (List UInt8) (fun(x:List UInt8)=>fzL (As x)) [x_2,x_3,x_4]=AV.sl false (0:Nat) (1:Nat) (List UInt8) As x_5.2.2.2∧∀(y:List UInt8×Int×Int),y.1∈x_5.2.2.2∧Ad x_5.1 y.2.1→x.1.cv=x.1.cv∧rA (Cg n) x [.str y.1,.box 0 [AV.bv x.1.cv [AV.sl false (0:Nat) (1:Nat) UInt8 byA x_5.1,.int .i64 y.2.1,.int .i64 y.2.2],.str x.1.t],.top]) (Aa (Int.tmod y.1 (5:Int)==(5:Int)) (cA Ba [.box 0 [AV.bv x.1.cv [AV.sl false (0:Nat) (1:Nat) UInt8 byA x_1.1,.int .i64 y.2.1,.int .i64 y.2.2],.str x.1.t]] fun x_2 y=>(↑(List.length y.1+(1:Nat)):Int)≤IntKind.max IntKind.i64∧cA (DH n) [.box 0 [AV.bv x_2.cv [AV.sl false (0:Nat) (1:Nat) UInt8 byA x_2.b,.int .i64 y.2.1,.int .i64 y.2.2],.str x_2.t],.int .i64 x.2] fun x_3 y_1=>(↑(List.length (y.1++ #[(40:UInt8)].toList)+List.length y_1.1):Int)≤IntKind.max IntKind.i64∧(↑(List.length (y.1++ #[(40:UInt8)].toList++y_1.1)+(1:Nat)):Int)≤IntKind.max IntKind.i64∧rA (Cg n) x [.str (y.1++ #[(40:UInt8)].toList++y_1.1++ #[(41:UInt8)].toList),.box 0 [AV.bv x_3.1.cv [AV.sl false (0:Nat) (1:Nat) UInt8 byA x_3.1.b,.int .i64 y_1.2.1,.int .i64 y_1.2.2],.str x_3.1.t],.top]) (Aa (Int.tmod y.1 (5:Int)==(6:Int)) (cA Ba [.box 0 [AV.bv x.1.cv [AV.sl false (0:Nat) (1:Nat) UInt8 byA x_1.1,.int .i64 y.2.1,.int .i64 y.2.2],.str x.1.t]] fun x_2 y=>(↑(List.length y.1+(1:Nat)):Int)≤IntKind.max IntKind.i64∧cA (DH n) [.box 0 [AV.bv x_2.cv [AV.sl false (0:Nat) (1:Nat) UInt8 byA x_2.b,.int .i64 y.2.1,.int .i64 y.2.2],.str x_2.t],.int .i64 x.2] fun x_3 y_1=>(↑(List.length (y.1++ #[(40:UInt8)].toList)+List.length y_1.1):Int)≤IntKind.max IntKind.i64∧(↑(List.length (y.1++ #[(40:UInt8)].toList++y_1.1)+(1:Nat)):Int)≤IntKind.max IntKind.i64∧rA (Cg n) x [.str (y.1++ #[(40:UInt8)].toList++y_1.1++ #[(41:UInt8)].toList),.box 0 [AV.bv x_3.1.cv [AV.sl false (0:Nat) (1:Nat) UInt8 byA x_3.1.b,.int .i64 y_1.2.1,.int .i64 y_1.2.2],.str x_3.1.t],.top]) (Aa (Int.tmod y.1 (5:Int)==(7:Int)) (cA Ba [.box 0 [AV.bv x.1.cv [AV.sl false (0:Nat) (1:Nat) UInt8 byA x_1.1,.int .i64 y.2.1,.int .i64 y.2.2],.str x.1.t]] fun x_2 y=>(↑(List.length y.1+(1:Nat)):Int)≤IntKind.max IntKind.i64∧cA (DH n) [.box 0 [AV.bv x_2.cv [AV.sl false (0:Nat) (1:Nat) UInt8 byA x_2.b,.int .i64 y.2.1,.int .i64 y.2.2],.str x_2.t],.int .i64 x.2] fun x_3 y_1=>(↑(List.length (y.1++ #[(40:UInt8)].toList)+List.length y_1.1):Int)≤IntKind.max IntKind.i64∧(↑(List.length (y.1++ #[(40:UInt8)].toList++y_1.1)+(1:Nat)):Int)≤IntKind.max IntKind.i64∧rA (Cg n) x [.str (y.1++ #[(40:UInt8)].toList++y_1.1++ #[(41:UInt8)].toList),.box 0 [AV.bv x_3.1.cv [AV.sl false (0:Nat) (1:Nat) UInt8 byA x_3.1.b,.int .i64 y_1.2.1,.int .i64 y_1.2.2],.str x_3.1.t],.top]) (Aa (Int.tmod y.1 (5:Int)==(8:Int)) (cA (DH n) [.box 0 [AV.bv x.1.cv [AV.sl false (0:Nat) (1:Nat) UInt8 byA x_1.1,.int .i64 y.2.1,.int .i64 y.2.2],.str x.1.t],.int .i64 x.2] fun x_2 y=>(↑((1:Nat)+List.length y.1):Int)≤IntKind.max IntKind.i64∧(↑(List.length (#[(91:UInt8)].toList++y.1)+(1:Nat)):Int)≤IntKind.max IntKind.i64∧rA (Cg n) x [.str (#[(91:UInt8)].toList++y.1++ #[(93:UInt8)].toList),.box 0 [AV.bv x_2.1.cv [AV.sl false (0:Nat) (1:Nat) UInt8 byA x_2.1.b,.int .i64 y.2.1,.int .i64 y.2.2],.str x_2.1.t],.top]) (Aa (Int.tmod y.1 (5:Int)==(9:Int)) (cA Ba [.box 0 [AV.bv x.1.cv [AV.sl false (0:Nat) (1:Nat) UInt8 byA x_1.1,.int .i64 y.2.1,.int .i64 y.2.2],.str x.1.t]] fun x_2 y=>(↑(List.length y.1+(1:Nat)):Int)≤IntKind.max IntKind.i64∧cA Ba [.box 0 [AV.bv x_2.cv [AV.sl false (0:Nat) (1:Nat) UInt8 byA x_2.b,.int .i64 y.2.1,.int .i64 y.2.2],.str x_2.t]] fun x_3 y_1=>(↑(List.length (y.1++ #[(46:UInt8)].toList)+List.length y_1.1):Int)≤IntKind.max IntKind.i64∧(↑(List.length (y.1++ #[(46:UInt8)].toList++y_1.1)+(1:Nat)):Int)≤IntKind.max IntKind.i64∧cA (DH n) [.box 0 [AV.bv x_3.cv [AV.sl false (0:Nat) (1:Nat) UInt8 byA x_3.b,.int .i64 y_1.2.1,.int .i64 y_1.2.2],.str x_3.t],.int .i64 x.2] fun x_4 y_2=>(↑(List.length (y.1++ #[(46:UInt8)].toList++y_1.1++ #[(40:UInt8)].toList)+List.length y_2.1):Int)≤IntKind.max IntKind.i64∧(↑(List.length (y.1++ #[(46:UInt8)].toList++y_1.1++ #[(40:UInt8)].toList++y_2.1)+(1:Nat)):Int)≤IntKind.max IntKind.i64∧rA (Cg n) x [.str (y.1++ #[(46:UInt8)].toList++y_1.1++ #[(40:UInt8)].toList++y_2.1++ #[(41:UInt8)].toList),.box 0 [AV.bv x_4.1.cv [AV.sl false (0:Nat) (1:Nat) UInt8 byA x_4.1.b,.int .i64 y_2.2.1,.int .i64 y_2.2.2],.str x_4.1.t],.top]) (Aa (Int.tmod y.1 (5:Int)==(10:Int)) (∃(x_2:List UInt8),#[(43:UInt8)].toList=x_2∧∃(x_3:List UInt8),#[(45:UInt8)].toList=x_3∧∃(x_4:List UInt8),#[(42:UInt8)].toList=x_4∧∃(x_5:List UInt8),#[(38:UInt8),(38:UInt8)].toList=x_5∧∃(x_6:List UInt8),#[(124:UInt8),(124:UInt8)].toList=x_6∧∃(x_7:List UInt8),#[(61:UInt8),(61:UInt8)].toList=x_7∧∃(x_8:List UInt8),#[(60:UInt8)].toList=x_8∧∃(x_9:List UInt8×Int×Int×List (List UInt8)),(Ad x_9.1 x_9.2.1∧x_9.2.2.2≠[]∧List.length x_9.2.2.2<(1073741824:Nat))∧x.1.cv=x.1.cv∧AV.sl false (0:Nat) (1:Nat) UInt8 byA x_1.1=AV.sl false (0:Nat) (1:Nat) UInt8 byA x_9.1∧y.2.1=x_9.2.1∧y.2.2=x_9.2.2.1∧AV.sl false (0:Nat) (1:Nat) (List UInt8) (fun(x:List UInt8)=>fzL (As x)) [x_2,x_3,x_4,x_5,x_6,x_7,x_8]=AV.sl false (0:Nat) (1:Nat) (List UInt8) As x_9.2.2.2∧∀(y:List UInt8×Int×Int),y.1∈x_9.2.2.2∧Ad x_9.1 y.2.1→x.1.cv=x.1.cv∧inR IntKind.i64 (x.2-(1:Int))∧cA (Bj n) [.box 0 [AV.bv x.1.cv [AV.sl false (0:Nat) (1:Nat) UInt8 byA x_9.1,.int .i64 y.2.1,.int .i64 y.2.2],.str x.1.t],.int .i64 (x.2-(1:Int))] fun x_10 y_1=>(↑(List.length y_1.1+(1:Nat)):Int)≤IntKind.max IntKind.i64∧(↑(List.length (y_1.1++ #[(32:UInt8)].toList)+List.length y.1):Int)≤IntKind.max IntKind.i64∧(↑(List.length (y_1.1++ #[(32:UInt8)].toList++y.1)+(1:Nat)):Int)≤IntKind.max IntKind.i64∧inR IntKind.i64 (x.2-(1:Int))∧cA (Bj n) [.box 0 [AV.bv x_10.1.cv [AV.sl false (0:Nat) (1:Nat) UInt8 byA x_10.1.b,.int .i64 y_1.2.1,.int .i64 y_1.2.2],.str x_10.1.t],.int .i64 (x.2-(1:Int))] fun x_11 y_2=>(↑(List.length (y_1.1++ #[(32:UInt8)].toList++y.1++ #[(32:UInt8)].toList)+List.length y_2.1):Int)≤IntKind.max IntKind.i64∧(↑(List.length (y_1.1++ #[(32:UInt8)].toList++y.1++ #[(32:UInt8)].toList++y_2.1)+(1:Nat)):Int)≤IntKind.max IntKind.i64∧(↑(List.length (y_1.1++ #[(32:UInt8)].toList++y.1++ #[(32:UInt8)].toList++y_2.1++ #[(32:UInt8)].toList)+List.length y.1):Int)≤IntKind.max IntKind.i64∧(↑(List.length (y_1.1++ #[(32:UInt8)].toList++y.1++ #[(32:UInt8)].toList++y_2.1++ #[(32:UInt8)].toList++y.1)+(1:Nat)):Int)≤IntKind.max IntKind.i64∧cA Ba [.box 0 [AV.bv x_11.1.cv [AV.sl false (0:Nat) (1:Nat) UInt8 byA x_11.1.b,.int .i64 y_2.2.1,.int .i64 y_2.2.2],.str x_11.1.t]] fun x_12 y_3=>(↑(List.length (y_1.1++ #[(32:UInt8)].toList++y.1++ #[(32:UInt8)].toList++y_2.1++ #[(32:UInt8)].toList++y.1++ #[(32:UInt8)].toList)+List.length y_3.1):Int)≤IntKind.max IntKind.i64∧rA (Cg n) x [.str (y_1.1++ #[(32:UInt8)].toList++y.1++ #[(32:UInt8)].toList++y_2.1++ #[(32:UInt8)].toList++y.1++ #[(32:UInt8)].toList++y_3.1),.box 0 [AV.bv x_12.cv [AV.sl false (0:Nat) (1:Nat) UInt8 byA x_12.b,.int .i64 y_3.2.1,.int .i64 y_3.2.2],.str x_12.t],.top]) (Aa (Int.tmod y.1 (5:Int)==(11:Int)) (∃(x_2:List UInt8),#[(43:UInt8)].toList=x_2∧∃(x_3:List UInt8),#[(45:UInt8)].toList=x_3∧∃(x_4:List UInt8),#[(42:UInt8)].toList=x_4∧∃(x_5:List UInt8),#[(38:UInt8),(38:UInt8)].toList=x_5∧∃(x_6:List UInt8),#[(124:UInt8),(124:UInt8)].toList=x_6∧∃(x_7:List UInt8),#[(61:UInt8),(61:UInt8)].toList=x_7∧∃(x_8:List UInt8),#[(60:UInt8)].toList=x_8∧∃(x_9:List UInt8×Int×Int×List (List UInt8)),(Ad x_9.1 x_9.2.1∧x_9.2.2.2≠[]∧List.length x_9.2.2.2<(1073741824:Nat))∧x.1.cv=x.1.cv∧AV.sl false (0:Nat) (1:Nat) UInt8 byA x_1.1=AV.sl false (0:Nat) (1:Nat) UInt8 byA x_9.1∧y.2.1=x_9.2.1∧y.2.2=x_9.2.2.1∧AV.sl false (0:Nat) (1:Nat) (List UInt8) (fun(x:List UInt8)=>fzL (As x)) [x_2,x_3,x_4,x_5,x_6,x_7,x_8]=AV.sl false (0:Nat) (1:Nat) (List UInt8) As x_9.2.2.2∧∀(y:List UInt8×Int×Int),y.1∈x_9.2.2.2∧Ad x_9.1 y.2.1→x.1.cv=x.1.cv∧inR IntKind.i64 (x.2-(1:Int))∧cA (Bj n) [.box 0 [AV.bv x.1.cv [AV.sl false (0:Nat) (1:Nat) UInt8 byA x_9.1,.int .i64 y.2.1,.int .i64 y.2.2],.str x.1.t],.int .i64 (x.2-(1:Int))] fun x_10 y_1=>(↑(List.length y_1.1+(1:Nat)):Int)≤IntKind.max IntKind.i64∧(↑(List.length (y_1.1++ #[(32:UInt8)].toList)+List.length y.1):Int)≤IntKind.max IntKind.i64∧(↑(List.length (y_1.1++ #[(32:UInt8)].toList++y.1)+(1:Nat)):Int)≤IntKind.max IntKind.i64∧inR IntKind.i64 (x.2-(1:Int))∧cA (Bj n) [.box 0 [AV.bv x_10.1.cv [AV.sl false (0:Nat) (1:Nat) UInt8 byA x_10.1.b,.int .i64 y_1.2.1,.int .i64 y_1.2.2],.str x_10.1.t],.int .i64 (x.2-(1:Int))] fun x_11 y_2=>(↑(List.length (y_1.1++ #[(32:UInt8)].toList++y.1++ #[(32:UInt8)].toList)+List.length y_2.1):Int)≤IntKind.max IntKind.i64∧(↑(List.length (y_1.1++ #[(32:UInt8)].toList++y.1++ #[(32:UInt8)].toList++y_2.1)+(1:Nat)):Int)≤IntKind.max IntKind.i64∧(↑(List.length (y_1.1++ #[(32:UInt8)].toList++y.1++ #[(32:UInt8)].toList++y_2.1++ #[(32:UInt8)].toList)+List.length y.1):Int)≤IntKind.max IntKind.i64∧(↑(List.length (y_1.1++ #[(32:UInt8)].toList++y.1++ #[(32:UInt8)].toList++y_2.1++ #[(32:UInt8)].toList++y.1)+(1:Nat)):Int)≤IntKind.max IntKind.i64∧cA Ba [.box 0 [AV.bv x_11.1.cv [AV.sl false (0:Nat) (1:Nat) UInt8 byA x_11.1.b,.int .i64 y_2.2.1,.int .i64 y_2.2.2],.str x_11.1.t]] fun x_12 y_3=>(↑(List.length (y_1.1++ #[(32:UInt8)].toList++y.1++ #[(32:UInt8)].toList++y_2.1++ #[(32:UInt8)].toList++y.1++ #[(32:UInt8)].toList)+List.length y_3.1):Int)≤IntKind.max IntKind.i64∧rA (Cg n) x [.str (y_1.1++ #[(32:UInt8)].toList++y.1++ #[(32:UInt8)].toList++y_2.1++ #[(32:UInt8)].toList++y.1++ #[(32:UInt8)].toList++y_3.1),.box 0 [AV.bv x_12.cv [AV.sl false (0:Nat) (1:Nat) UInt8 byA x_12.b,.int .i64 y_3.2.1,.int .i64 y_3.2.2],.str x_12.t],.top]) (Aa (Int.tmod y.1 (5:Int)==(12:Int)) (inR IntKind.i64 (x.2-(1:Int))∧cA (Bj n) [.box 0 [AV.bv x.1.cv [AV.sl false (0:Nat) (1:Nat) UInt8 byA x_1.1,.int .i64 y.2.1,.int .i64 y.2.2],.str x.1.t],.int .i64 (x.2-(1:Int))] fun x_2 y=>(↑((1:Nat)+List.length y.1):Int)≤IntKind.max IntKind.i64∧(↑(List.length (#[(40:UInt8)].toList++y.1)+(1:Nat)):Int)≤IntKind.max IntKind.i64∧rA (Cg n) x [.str (#[(40:UInt8)].toList++y.1++ #[(41:UInt8)].toList),.box 0 [AV.bv x_2.1.cv [AV.sl false (0:Nat) (1:Nat) UInt8 byA x_2.1.b,.int .i64 y.2.1,.int .i64 y.2.2],.str x_2.1.t],.top]) (Aa (Int.tmod y.1 (5:Int)==(13:Int)) (cA Ba [.box 0 [AV.bv x.1.cv [AV.sl false (0:Nat) (1:Nat) UInt8 byA x_1.1,.int .i64 y.2.1,.int .i64 y.2.2],.str x.1.t]] fun x_2 y=>(↑(List.length y.1+(3:Nat)):Int)≤IntKind.max IntKind.i64∧cA Ba [.box 0 [AV.bv x_2.cv [AV.sl false (0:Nat) (1:Nat) UInt8 byA x_2.b,.int .i64 y.2.1,.int .i64 y.2.2],.str x_2.t]] fun x_3 y_1=>(↑(List.length (y.1++ #[(32:UInt8),(60:UInt8),(32:UInt8)].toList)+List.length y_1.1):Int)≤IntKind.max IntKind.i64∧(↑(List.length (y.1++ #[(32:UInt8),(60:UInt8),(32:UInt8)].toList++y_1.1)+(3:Nat)):Int)≤IntKind.max IntKind.i64∧inR IntKind.i64 (x.2-(1:Int))∧cA (Bj n) [.box 0 [AV.bv x_3.cv [AV.sl false (0:Nat) (1:Nat) UInt8 byA x_3.b,.int .i64 y_1.2.1,.int .i64 y_1.2.2],.str x_3.t],.int .i64 (x.2-(1:Int))] fun x_4 y_2=>(↑(List.length (y.1++ #[(32:UInt8),(60:UInt8),(32:UInt8)].toList++y_1.1++ #[(32:UInt8),(63:UInt8),(32:UInt8)].toList)+List.length y_2.1):Int)≤IntKind.max IntKind.i64∧(↑(List.length (y.1++ #[(32:UInt8),(60:UInt8),(32:UInt8)].toList++y_1.1++ #[(32:UInt8),(63:UInt8),(32:UInt8)].toList++y_2.1)+(3:Nat)):Int)≤IntKind.max IntKind.i64∧inR IntKind.i64 (x.2-(1:Int))∧cA (Bj n) [.box 0 [AV.bv x_4.1.cv [AV.sl false (0:Nat) (1:Nat) UInt8 byA x_4.1.b,.int .i64 y_2.2.1,.int .i64 y_2.2.2],.str x_4.1.t],.int .i64 (x.2-(1:Int))] fun x_5 y_3=>(↑(List.length (y.1++ #[(32:UInt8),(60:UInt8),(32:UInt8)].toList++y_1.1++ #[(32:UInt8),(63:UInt8),(32:UInt8)].toList++y_2.1++ #[(32:UInt8),(58:UInt8),(32:UInt8)].toList)+List.length y_3.1):Int)≤IntKind.max IntKind.i64∧rA (Cg n) x [.str (y.1++ #[(32:UInt8),(60:UInt8),(32:UInt8)].toList++y_1.1++ #[(32:UInt8),(63:UInt8),(32:UInt8)].toList++y_2.1++ #[(32:UInt8),(58:UInt8),(32:UInt8)].toList++y_3.1),.box 0 [AV.bv x_5.1.cv [AV.sl false (0:Nat) (1:Nat) UInt8 byA x_5.1.b,.int .i64 y_3.2.1,.int .i64 y_3.2.2],.str x_5.1.t],.top]) (Aa (Int.tmod y.1 (5:Int)==(14:Int)) (∃(x_2:List UInt8),#[].toList=x_2∧∃(x_3:List UInt8),#[(97:UInt8)].toList=x_3∧∃(x_4:List UInt8),#[(97:UInt8),(44:UInt8),(32:UInt8),(98:UInt8)].toList=x_4∧∃(x_5:List UInt8×Int×Int×List (List UInt8)),(Ad x_5.1 x_5.2.1∧x_5.2.2.2≠[]∧List.length x_5.2.2.2<(1073741824:Nat))∧x.1.cv=x.1.cv∧AV.sl false (0:Nat) (1:Nat) UInt8 byA x_1.1=AV.sl false (0:Nat) (1:Nat) UInt8 byA x_5.1∧y.2.1=x_5.2.1∧y.2.2=x_5.2.2.1∧AV.sl false (0:Nat) (1:Nat) (List UInt8) (fun(x:List UInt8)=>fzL (As x)) [x_2,x_3,x_4]=AV.sl false (0:Nat) (1:Nat) (List UInt8) As x_5.2.2.2∧∀(y:List UInt8×Int×Int),y.1∈x_5.2.2.2∧Ad x_5.1 y.2.1→x.1.cv=x.1.cv∧(↑((1:Nat)+List.length y.1):Int)≤IntKind.max IntKind.i64∧(↑(List.length (#[(40:UInt8)].toList++y.1)+(5:Nat)):Int)≤IntKind.max IntKind.i64∧inR IntKind.i64 (x.2-(1:Int))∧cA (Bj n) [.box 0 [AV.bv x.1.cv [AV.sl false (0:Nat) (1:Nat) UInt8 byA x_5.1,.int .i64 y.2.1,.int .i64 y.2.2],.str x.1.t],.int .i64 (x.2-(1:Int))] fun x_6 y_1=>(↑(List.length (#[(40:UInt8)].toList++y.1++ #[(41:UInt8),(32:UInt8),(61:UInt8),(62:UInt8),(32:UInt8)].toList)+List.length y_1.1):Int)≤IntKind.max IntKind.i64∧rA (Cg n) x [.str (#[(40:UInt8)].toList++y.1++ #[(41:UInt8),(32:UInt8),(61:UInt8),(62:UInt8),(32:UInt8)].toList++y_1.1),.box 0 [AV.bv x_6.1.cv [AV.sl false (0:Nat) (1:Nat) UInt8 byA x_6.1.b,.int .i64 y_1.2.1,.int .i64 y_1.2.2],.str x_6.1.t],.top]) (cA Ba [.box 0 [AV.bv x.1.cv [AV.sl false (0:Nat) (1:Nat) UInt8 byA x_1.1,.int .i64 y.2.1,.int .i64 y.2.2],.str x.1.t]] fun x_2 y=>(↑(List.length y.1+(6:Nat)):Int)≤IntKind.max IntKind.i64∧cA (DH n) [.box 0 [AV.bv x_2.cv [AV.sl false (0:Nat) (1:Nat) UInt8 byA x_2.b,.int .i64 y.2.1,.int .i64 y.2.2],.str x_2.t],.int .i64 x.2] fun x_3 y_1=>(↑(List.length (y.1++ #[(46:UInt8),(46:UInt8),(97:UInt8),(100:UInt8),(100:UInt8),(40:UInt8)].toList)+List.length y_1.1):Int)≤IntKind.max IntKind.i64∧(↑(List.length (y.1++ #[(46:UInt8),(46:UInt8),(97:UInt8),(100:UInt8),(100:UInt8),(40:UInt8)].toList++y_1.1)+(10:Nat)):Int)≤IntKind.max IntKind.i64∧rA (Cg n) x [.str (y.1++ #[(46:UInt8),(46:UInt8),(97:UInt8),(100:UInt8),(100:UInt8),(40:UInt8)].toList++y_1.1++ #[(41:UInt8),(46:UInt8),(46:UInt8),(99:UInt8),(108:UInt8),(111:UInt8),(115:UInt8),(101:UInt8),(40:UInt8),(41:UInt8)].toList),.box 0 [AV.bv x_3.1.cv [AV.sl false (0:Nat) (1:Nat) UInt8 byA x_3.1.b,.int .i64 y_1.2.1,.int .i64 y_1.2.2],.str x_3.1.t],.top])))))))))))))))) (Aa (y.1==(0:Int)) (cA Ba [.box 0 [AV.bv x.1.cv [AV.sl false (0:Nat) (1:Nat) UInt8 byA x_1.1,.int .i64 y.2.1,.int .i64 y.2.2],.str x.1.t]] fun x_2 y=>rA (Cg n) x [.str y.1,.box 0 [AV.bv x_2.cv [AV.sl false (0:Nat) (1:Nat) UInt8 byA x_2.b,.int .i64 y.2.1,.int .i64 y.2.2],.str x_2.t],.top]) (Aa (y.1==(1:Int)) (cA Ba [.box 0 [AV.bv x.1.cv [AV.sl false (0:Nat) (1:Nat) UInt8 byA x_1.1,.int .i64 y.2.1,.int .i64 y.2.2],.str x.1.t]] fun x_2 y=>rA (Cg n) x [.str y.1,.box 0 [AV.bv x_2.cv [AV.sl false (0:Nat) (1:Nat) UInt8 byA x_2.b,.int .i64 y.2.1,.int .i64 y.2.2],.str x_2.t],.top]) (Aa (y.1==(2:Int)) (cA Ba [.box 0 [AV.bv x.1.cv [AV.sl false (0:Nat) (1:Nat) UInt8 byA x_1.1,.int .i64 y.2.1,.int .i64 y.2.2],.str x.1.t]] fun x_2 y=>rA (Cg n) x [.str y.1,.box 0 [AV.bv x_2.cv [AV.sl false (0:Nat) (1:Nat) UInt8 byA x_2.b,.int .i64 y.2.1,.int .i64 y.2.2],.str x_2.t],.top]) (Aa (y.1==(3:Int)) (∃(x_2:List UInt8),#[(48:UInt8)].toList=x_2∧∃(x_3:List UInt8),#[(49:UInt8),(50:UInt8)].toList=x_3∧∃(x_4:List UInt8),#[(49:UInt8),(50:UInt8),(51:UInt8),(52:UInt8),(53:UInt8),(54:UInt8),(55:UInt8)].toList=x_4∧∃(x_5:List UInt8×Int×Int×List (List UInt8)),(Ad x_5.1 x_5.2.1∧x_5.2.2.2≠[]∧List.length x_5.2.2.2<(1073741824:Nat))∧x.1.cv=x.1.cv∧AV.sl false (0:Nat) (1:Nat) UInt8 byA x_1.1=AV.sl false (0:Nat) (1:Nat) UInt8 byA x_5.1∧y.2.1=x_5.2.1∧y.2.2=x_5.2.2.1∧AV.sl false (0:Nat) (1:Nat) (List UInt8) (fun(x:List UInt8)=>fzL (As x)) [x_2,x_3,x_4]=AV.sl false (0:Nat) (1:Nat) (List UInt8) As x_5.2.2.2∧∀(y:List UInt8×Int×Int),y.1∈x_5.2.2.2∧Ad x_5.1 y.2.1→x.1.cv=x.1.cv∧rA (Cg n) x [.str y.1,.box 0 [AV.bv x.1.cv [AV.sl false (0:Nat) (1:Nat) UInt8 byA x_5.1,.int .i64 y.2.1,.int .i64 y.2.2],.str x.1.t],.top]) (Aa (y.1==(4:Int)) (∃(x_2:List UInt8),#[(39:UInt8),(115:UInt8),(97:UInt8),(105:UInt8),(100:UInt8),(39:UInt8)].toList=x_2∧∃(x_3:List UInt8),#[(39:UInt8),(39:UInt8)].toList=x_3∧∃(x_4:List UInt8),#[(39:UInt8),(97:UInt8),(32:UInt8),(108:UInt8),(111:UInt8),(110:UInt8),(103:UInt8),(101:UInt8),(114:UInt8),(32:UInt8),(116:UInt8),(101:UInt8),(120:UInt8),(116:UInt8),(32:UInt8),(104:UInt8),(101:UInt8),(114:UInt8),(101:UInt8),(39:UInt8)].toList=x_4∧∃(x_5:List UInt8×Int×Int×List (List UInt8)),(Ad x_5.1 x_5.2.1∧x_5.2.2.2≠[]∧List.length x_5.2.2.2<(1073741824:Nat))∧x.1.cv=x.1.cv∧AV.sl false (0:Nat) (1:Nat) UInt8 byA x_1.1=AV.sl false (0:Nat) (1:Nat) UInt8 byA x_5.1∧y.2.1=x_5.2.1∧y.2.2=x_5.2.2.1∧AV.sl false (0:Nat) (1:Nat) (List UInt8) (fun(x:List UInt8)=>fzL (As x)) [x_2,x_3,x_4]=AV.sl false (0:Nat) (1:Nat) (List UInt8) As x_5.2.2.2∧∀(y:List UInt8×Int×Int),y.1∈x_5.2.2.2∧Ad x_5.1 y.2.1→x.1.cv=x.1.cv∧rA (Cg n) x [.str y.1,.box 0 [AV.bv x.1.cv [AV.sl false (0:Nat) (1:Nat) UInt8 byA x_5.1,.int .i64 y.2.1,.int .i64 y.2.2],.str x.1.t],.top]) (Aa (y.1==(5:Int)) (cA Ba [.box 0 [AV.bv x.1.cv [AV.sl false (0:Nat) (1:Nat) UInt8 byA x_1.1,.int .i64 y.2.1,.int .i64 y.2.2],.str x.1.t]] fun x_2 y=>(↑(List.length y.1+(1:Nat)):Int)≤IntKind.max IntKind.i64∧cA (DH n) [.box 0 [AV.bv x_2.cv [AV.sl false (0:Nat) (1:Nat) UInt8 byA x_2.b,.int .i64 y.2.1,.int .i64 y.2.2],.str x_2.t],.int .i64 x.2] fun x_3 y_1=>(↑(List.length (y.1++ #[(40:UInt8)].toList)+List.length y_1.1):Int)≤IntKind.max IntKind.i64∧(↑(List.length (y.1++ #[(40:UInt8)].toList++y_1.1)+(1:Nat)):Int)≤IntKind.max IntKind.i64∧rA (Cg n) x [.str (y.1++ #[(40:UInt8)].toList++y_1.1++ #[(41:UInt8)].toList),.box 0 [AV.bv x_3.1.cv [AV.sl false (0:Nat) (1:Nat) UInt8 byA x_3.1.b,.int .i64 y_1.2.1,.int .i64 y_1.2.2],.str x_3.1.t],.top]) (Aa (y.1==(6:Int)) (cA Ba [.box 0 [AV.bv x.1.cv [AV.sl false (0:Nat) (1:Nat) UInt8 byA x_1.1,.int .i64 y.2.1,.int .i64 y.2.2],.str x.1.t]] fun x_2 y=>(↑(List.length y.1+(1:Nat)):Int)≤IntKind.max IntKind.i64∧cA (DH n) [.box 0 [AV.bv x_2.cv [AV.sl false (0:Nat) (1:Nat) UInt8 byA x_2.b,.int .i64 y.2.1,.int .i64 y.2.2],.str x_2.t],.int .i64 x.2] fun x_3 y_1=>(↑(List.length (y.1++ #[(40:UInt8)].toList)+List.length y_1.1):Int)≤IntKind.max IntKind.i64∧(↑(List.length (y.1++ #[(40:UInt8)].toList++y_1.1)+(1:Nat)):Int)≤IntKind.max IntKind.i64∧rA (Cg n) x [.str (y.1++ #[(40:UInt8)].toList++y_1.1++ #[(41:UInt8)].toList),.box 0 [AV.bv x_3.1.cv [AV.sl false (0:Nat) (1:Nat) UInt8 byA x_3.1.b,.int .i64 y_1.2.1,.int .i64 y_1.2.2],.str x_3.1.t],.top]) (Aa (y.1==(7:Int)) (cA Ba [.box 0 [AV.bv x.1.cv [AV.sl false (0:Nat) (1:Nat) UInt8 byA x_1.1,.int .i64 y.2.1,.int .i64 y.2.2],.str x.1.t]] fun x_2 y=>(↑(List.length y.1+(1:Nat)):Int)≤IntKind.max IntKind.i64∧cA (DH n) [.box 0 [AV.bv x_2.cv [AV.sl false (0:Nat) (1:Nat) UInt8 byA x_2.b,.int .i64 y.2.1,.int .i64 y.2.2],.str x_2.t],.int .i64 x.2] fun x_3 y_1=>(↑(List.length (y.1++ #[(40:UInt8)].toList)+List.length y_1.1):Int)≤IntKind.max IntKind.i64∧(↑(List.length (y.1++ #[(40:UInt8)].toList++y_1.1)+(1:Nat)):Int)≤IntKind.max IntKind.i64∧rA (Cg n) x [.str (y.1++ #[(40:UInt8)].toList++y_1.1++ #[(41:UInt8)].toList),.box 0 [AV.bv x_3.1.cv [AV.sl false (0:Nat) (1:Nat) UInt8 byA x_3.1.b,.int .i64 y_1.2.1,.int .i64 y_1.2.2],.str x_3.1.t],.top]) (Aa (y.1==(8:Int)) (cA (DH n) [.box 0 [AV.bv x.1.cv [AV.sl false (0:Nat) (1:Nat) UInt8 byA x_1.1,.int .i64 y.2.1,.int .i64 y.2.2],.str x.1.t],.int .i64 x.2] fun x_2 y=>(↑((1:Nat)+List.length y.1):Int)≤IntKind.max IntKind.i64∧(↑(List.length (#[(91:UInt8)].toList++y.1)+(1:Nat)):Int)≤IntKind.max IntKind.i64∧rA (Cg n) x [.str (#[(91:UInt8)].toList++y.1++ #[(93:UInt8)].toList),.box 0 [AV.bv x_2.1.cv [AV.sl false (0:Nat) (1:Nat) UInt8 byA x_2.1.b,.int .i64 y.2.1,.int .i64 y.2.2],.str x_2.1.t],.top]) (Aa (y.1==(9:Int)) (cA Ba [.box 0 [AV.bv x.1.cv [AV.sl false (0:Nat) (1:Nat) UInt8 byA x_1.1,.int .i64 y.2.1,.int .i64 y.2.2],.str x.1.t]] fun x_2 y=>(↑(List.length y.1+(1:Nat)):Int)≤IntKind.max IntKind.i64∧cA Ba [.box 0 [AV.bv x_2.cv [AV.sl false (0:Nat) (1:Nat) UInt8 byA x_2.b,.int .i64 y.2.1,.int .i64 y.2.2],.str x_2.t]] fun x_3 y_1=>(↑(List.length (y.1++ #[(46:UInt8)].toList)+List.length y_1.1):Int)≤IntKind.max IntKind.i64∧(↑(List.length (y.1++ #[(46:UInt8)].toList++y_1.1)+(1:Nat)):Int)≤IntKind.max IntKind.i64∧cA (DH n) [.box 0 [AV.bv x_3.cv [AV.sl false (0:Nat) (1:Nat) UInt8 byA x_3.b,.int .i64 y_1.2.1,.int .i64 y_1.2.2],.str x_3.t],.int .i64 x.2] fun x_4 y_2=>(↑(List.length (y.1++ #[(46:UInt8)].toList++y_1.1++ #[(40:UInt8)].toList)+List.length y_2.1):Int)≤IntKind.max IntKind.i64∧(↑(List.length (y.1++ #[(46:UInt8)].toList++y_1.1++ #[(40:UInt8)].toList++y_2.1)+(1:Nat)):Int)≤IntKind.max IntKind.i64∧rA (Cg n) x [.str (y.1++ #[(46:UInt8)].toList++y_1.1++ #[(40:UInt8)].toList++y_2.1++ #[(41:UInt8)].toList),.box 0 [AV.bv x_4.1.cv [AV.sl false (0:Nat) (1:Nat) UInt8 byA x_4.1.b,.int .i64 y_2.2.1,.int .i64 y_2.2.2],.str x_4.1.t],.top]) (Aa (y.1==(10:Int)) (∃(x_2:List UInt8),#[(43:UInt8)].toList=x_2∧∃(x_3:List UInt8),#[(45:UInt8)].toList=x_3∧∃(x_4:List UInt8),#[(42:UInt8)].toList=x_4∧∃(x_5:List UInt8),#[(38:UInt8),(38:UInt8)].toList=x_5∧∃(x_6:List UInt8),#[(124:UInt8),(124:UInt8)].toList=x_6∧∃(x_7:List UInt8),#[(61:UInt8),(61:UInt8)].toList=x_7∧∃(x_8:List UInt8),#[(60:UInt8)].toList=x_8∧∃(x_9:List UInt8×Int×Int×List (List UInt8)),(Ad x_9.1 x_9.2.1∧x_9.2.2.2≠[]∧List.length x_9.2.2.2<(1073741824:Nat))∧x.1.cv=x.1.cv∧AV.sl false (0:Nat) (1:Nat) UInt8 byA x_1.1=AV.sl false (0:Nat) (1:Nat) UInt8 byA x_9.1∧y.2.1=x_9.2.1∧y.2.2=x_9.2.2.1∧AV.sl false (0:Nat) (1:Nat) (List UInt8) (fun(x:List UInt8)=>fzL (As x)) [x_2,x_3,x_4,x_5,x_6,x_7,x_8]=AV.sl false (0:Nat) (1:Nat) (List UInt8) As x_9.2.2.2∧∀(y:List UInt8×Int×Int),y.1∈x_9.2.2.2∧Ad x_9.1 y.2.1→x.1.cv=x.1.cv∧inR IntKind.i64 (x.2-(1:Int))∧cA (Bj n) [.box 0 [AV.bv x.1.cv [AV.sl false (0:Nat) (1:Nat) UInt8 byA x_9.1,.int .i64 y.2.1,.int .i64 y.2.2],.str x.1.t],.int .i64 (x.2-(1:Int))] fun x_10 y_1=>(↑(List.length y_1.1+(1:Nat)):Int)≤IntKind.max IntKind.i64∧(↑(List.length (y_1.1++ #[(32:UInt8)].toList)+List.length y.1):Int)≤IntKind.max IntKind.i64∧(↑(List.length (y_1.1++ #[(32:UInt8)].toList++y.1)+(1:Nat)):Int)≤IntKind.max IntKind.i64∧inR IntKind.i64 (x.2-(1:Int))∧cA (Bj n) [.box 0 [AV.bv x_10.1.cv [AV.sl false (0:Nat) (1:Nat) UInt8 byA x_10.1.b,.int .i64 y_1.2.1,.int .i64 y_1.2.2],.str x_10.1.t],.int .i64 (x.2-(1:Int))] fun x_11 y_2=>(↑(List.length (y_1.1++ #[(32:UInt8)].toList++y.1++ #[(32:UInt8)].toList)+List.length y_2.1):Int)≤IntKind.max IntKind.i64∧(↑(List.length (y_1.1++ #[(32:UInt8)].toList++y.1++ #[(32:UInt8)].toList++y_2.1)+(1:Nat)):Int)≤IntKind.max IntKind.i64∧(↑(List.length (y_1.1++ #[(32:UInt8)].toList++y.1++ #[(32:UInt8)].toList++y_2.1++ #[(32:UInt8)].toList)+List.length y.1):Int)≤IntKind.max IntKind.i64∧(↑(List.length (y_1.1++ #[(32:UInt8)].toList++y.1++ #[(32:UInt8)].toList++y_2.1++ #[(32:UInt8)].toList++y.1)+(1:Nat)):Int)≤IntKind.max IntKind.i64∧cA Ba [.box 0 [AV.bv x_11.1.cv [AV.sl false (0:Nat) (1:Nat) UInt8 byA x_11.1.b,.int .i64 y_2.2.1,.int .i64 y_2.2.2],.str x_11.1.t]] fun x_12 y_3=>(↑(List.length (y_1.1++ #[(32:UInt8)].toList++y.1++ #[(32:UInt8)].toList++y_2.1++ #[(32:UInt8)].toList++y.1++ #[(32:UInt8)].toList)+List.length y_3.1):Int)≤IntKind.max IntKind.i64∧rA (Cg n) x [.str (y_1.1++ #[(32:UInt8)].toList++y.1++ #[(32:UInt8)].toList++y_2.1++ #[(32:UInt8)].toList++y.1++ #[(32:UInt8)].toList++y_3.1),.box 0 [AV.bv x_12.cv [AV.sl false (0:Nat) (1:Nat) UInt8 byA x_12.b,.int .i64 y_3.2.1,.int .i64 y_3.2.2],.str x_12.t],.top]) (Aa (y.1==(11:Int)) (∃(x_2:List UInt8),#[(43:UInt8)].toList=x_2∧∃(x_3:List UInt8),#[(45:UInt8)].toList=x_3∧∃(x_4:List UInt8),#[(42:UInt8)].toList=x_4∧∃(x_5:List UInt8),#[(38:UInt8),(38:UInt8)].toList=x_5∧∃(x_6:List UInt8),#[(124:UInt8),(124:UInt8)].toList=x_6∧∃(x_7:List UInt8),#[(61:UInt8),(61:UInt8)].toList=x_7∧∃(x_8:List UInt8),#[(60:UInt8)].toList=x_8∧∃(x_9:List UInt8×Int×Int×List (List UInt8)),(Ad x_9.1 x_9.2.1∧x_9.2.2.2≠[]∧List.length x_9.2.2.2<(1073741824:Nat))∧x.1.cv=x.1.cv∧AV.sl false (0:Nat) (1:Nat) UInt8 byA x_1.1=AV.sl false (0:Nat) (1:Nat) UInt8 byA x_9.1∧y.2.1=x_9.2.1∧y.2.2=x_9.2.2.1∧AV.sl false (0:Nat) (1:Nat) (List UInt8) (fun(x:List UInt8)=>fzL (As x)) [x_2,x_3,x_4,x_5,x_6,x_7,x_8]=AV.sl false (0:Nat) (1:Nat) (List UInt8) As x_9.2.2.2∧∀(y:List UInt8×Int×Int),y.1∈x_9.2.2.2∧Ad x_9.1 y.2.1→x.1.cv=x.1.cv∧inR IntKind.i64 (x.2-(1:Int))∧cA (Bj n) [.box 0 [AV.bv x.1.cv [AV.sl false (0:Nat) (1:Nat) UInt8 byA x_9.1,.int .i64 y.2.1,.int .i64 y.2.2],.str x.1.t],.int .i64 (x.2-(1:Int))] fun x_10 y_1=>(↑(List.length y_1.1+(1:Nat)):Int)≤IntKind.max IntKind.i64∧(↑(List.length (y_1.1++ #[(32:UInt8)].toList)+List.length y.1):Int)≤IntKind.max IntKind.i64∧(↑(List.length (y_1.1++ #[(32:UInt8)].toList++y.1)+(1:Nat)):Int)≤IntKind.max IntKind.i64∧inR IntKind.i64 (x.2-(1:Int))∧cA (Bj n) [.box 0 [AV.bv x_10.1.cv [AV.sl false (0:Nat) (1:Nat) UInt8 byA x_10.1.b,.int .i64 y_1.2.1,.int .i64 y_1.2.2],.str x_10.1.t],.int .i64 (x.2-(1:Int))] fun x_11 y_2=>(↑(List.length (y_1.1++ #[(32:UInt8)].toList++y.1++ #[(32:UInt8)].toList)+List.length y_2.1):Int)≤IntKind.max IntKind.i64∧(↑(List.length (y_1.1++ #[(32:UInt8)].toList++y.1++ #[(32:UInt8)].toList++y_2.1)+(1:Nat)):Int)≤IntKind.max IntKind.i64∧(↑(List.length (y_1.1++ #[(32:UInt8)].toList++y.1++ #[(32:UInt8)].toList++y_2.1++ #[(32:UInt8)].toList)+List.length y.1):Int)≤IntKind.max IntKind.i64∧(↑(List.length (y_1.1++ #[(32:UInt8)].toList++y.1++ #[(32:UInt8)].toList++y_2.1++ #[(32:UInt8)].toList++y.1)+(1:Nat)):Int)≤IntKind.max IntKind.i64∧cA Ba [.box 0 [AV.bv x_11.1.cv [AV.sl false (0:Nat) (1:Nat) UInt8 byA x_11.1.b,.int .i64 y_2.2.1,.int .i64 y_2.2.2],.str x_11.1.t]] fun x_12 y_3=>(↑(List.length (y_1.1++ #[(32:UInt8)].toList++y.1++ #[(32:UInt8)].toList++y_2.1++ #[(32:UInt8)].toList++y.1++ #[(32:UInt8)].toList)+List.length y_3.1):Int)≤IntKind.max IntKind.i64∧rA (Cg n) x [.str (y_1.1++ #[(32:UInt8)].toList++y.1++ #[(32:UInt8)].toList++y_2.1++ #[(32:UInt8)].toList++y.1++ #[(32:UInt8)].toList++y_3.1),.box 0 [AV.bv x_12.cv [AV.sl false (0:Nat) (1:Nat) UInt8 byA x_12.b,.int .i64 y_3.2.1,.int .i64 y_3.2.2],.str x_12.t],.top]) (Aa (y.1==(12:Int)) (inR IntKind.i64 (x.2-(1:Int))∧cA (Bj n) [.box 0 [AV.bv x.1.cv [AV.sl false (0:Nat) (1:Nat) UInt8 byA x_1.1,.int .i64 y.2.1,.int .i64 y.2.2],.str x.1.t],.int .i64 (x.2-(1:Int))] fun x_2 y=>(↑((1:Nat)+List.length y.1):Int)≤IntKind.max IntKind.i64∧(↑(List.length (#[(40:UInt8)].toList++y.1)+(1:Nat)):Int)≤IntKind.max IntKind.i64∧rA (Cg n) x [.str (#[(40:UInt8)].toList++y.1++ #[(41:UInt8)].toList),.box 0 [AV.bv x_2.1.cv [AV.sl false (0:Nat) (1:Nat) UInt8 byA x_2.1.b,.int .i64 y.2.1,.int .i64 y.2.2],.str x_2.1.t],.top]) (Aa (y.1==(13:Int)) (cA Ba [.box 0 [AV.bv x.1.cv [AV.sl false (0:Nat) (1:Nat) UInt8 byA x_1.1,.int .i64 y.2.1,.int .i64 y.2.2],.str x.1.t]] fun x_2 y=>(↑(List.length y.1+(3:Nat)):Int)≤IntKind.max IntKind.i64∧cA Ba [.box 0 [AV.bv x_2.cv [AV.sl false (0:Nat) (1:Nat) UInt8 byA x_2.b,.int .i64 y.2.1,.int .i64 y.2.2],.str x_2.t]] fun x_3 y_1=>(↑(List.length (y.1++ #[(32:UInt8),(60:UInt8),(32:UInt8)].toList)+List.length y_1.1):Int)≤IntKind.max IntKind.i64∧(↑(List.length (y.1++ #[(32:UInt8),(60:UInt8),(32:UInt8)].toList++y_1.1)+(3:Nat)):Int)≤IntKind.max IntKind.i64∧inR IntKind.i64 (x.2-(1:Int))∧cA (Bj n) [.box 0 [AV.bv x_3.cv [AV.sl false (0:Nat) (1:Nat) UInt8 byA x_3.b,.int .i64 y_1.2.1,.int .i64 y_1.2.2],.str x_3.t],.int .i64 (x.2-(1:Int))] fun x_4 y_2=>(↑(List.length (y.1++ #[(32:UInt8),(60:UInt8),(32:UInt8)].toList++y_1.1++ #[(32:UInt8),(63:UInt8),(32:UInt8)].toList)+List.length y_2.1):Int)≤IntKind.max IntKind.i64∧(↑(List.length (y.1++ #[(32:UInt8),(60:UInt8),(32:UInt8)].toList++y_1.1++ #[(32:UInt8),(63:UInt8),(32:UInt8)].toList++y_2.1)+(3:Nat)):Int)≤IntKind.max IntKind.i64∧inR IntKind.i64 (x.2-(1:Int))∧cA (Bj n) [.box 0 [AV.bv x_4.1.cv [AV.sl false (0:Nat) (1:Nat) UInt8 byA x_4.1.b,.int .i64 y_2.2.1,.int .i64 y_2.2.2],.str x_4.1.t],.int .i64 (x.2-(1:Int))] fun x_5 y_3=>(↑(List.length (y.1++ #[(32:UInt8),(60:UInt8),(32:UInt8)].toList++y_1.1++ #[(32:UInt8),(63:UInt8),(32:UInt8)].toList++y_2.1++ #[(32:UInt8),(58:UInt8),(32:UInt8)].toList)+List.length y_3.1):Int)≤IntKind.max IntKind.i64∧rA (Cg n) x [.str (y.1++ #[(32:UInt8),(60:UInt8),(32:UInt8)].toList++y_1.1++ #[(32:UInt8),(63:UInt8),(32:UInt8)].toList++y_2.1++ #[(32:UInt8),(58:UInt8),(32:UInt8)].toList++y_3.1),.box 0 [AV.bv x_5.1.cv [AV.sl false (0:Nat) (1:Nat) UInt8 byA x_5.1.b,.int .i64 y_3.2.1,.int .i64 y_3.2.2],.str x_5.1.t],.top]) (Aa (y.1==(14:Int)) (∃(x_2:List UInt8),#[].toList=x_2∧∃(x_3:List UInt8),#[(97:UInt8)].toList=x_3∧∃(x_4:List UInt8),#[(97:UInt8),(44:UInt8),(32:UInt8),(98:UInt8)].toList=x_4∧∃(x_5:List UInt8×Int×Int×List (List UInt8)),(Ad x_5.1 x_5.2.1∧x_5.2.2.2≠[]∧List.length x_5.2.2.2<(1073741824:Nat))∧x.1.cv=x.1.cv∧AV.sl false (0:Nat) (1:Nat) UInt8 byA x_1.1=AV.sl false (0:Nat) (1:Nat) UInt8 byA x_5.1∧y.2.1=x_5.2.1∧y.2.2=x_5.2.2.1∧AV.sl false (0:Nat) (1:Nat) (List UInt8) (fun(x:List UInt8)=>fzL (As x)) [x_2,x_3,x_4]=AV.sl false (0:Nat) (1:Nat) (List UInt8) As x_5.2.2.2∧∀(y:List UInt8×Int×Int),y.1∈x_5.2.2.2∧Ad x_5.1 y.2.1→x.1.cv=x.1.cv∧(↑((1:Nat)+List.length y.1):Int)≤IntKind.max IntKind.i64∧(↑(List.length (#[(40:UInt8)].toList++y.1)+(5:Nat)):Int)≤IntKind.max IntKind.i64∧inR IntKind.i64 (x.2-(1:Int))∧cA (Bj n) [.box 0 [AV.bv x.1.cv [AV.sl false (0:Nat) (1:Nat) UInt8 byA x_5.1,.int .i64 y.2.1,.int .i64 y.2.2],.str x.1.t],.int .i64 (x.2-(1:Int))] fun x_6 y_1=>(↑(List.length (#[(40:UInt8)].toList++y.1++ #[(41:UInt8),(32:UInt8),(61:UInt8),(62:UInt8),(32:UInt8)].toList)+List.length y_1.1):Int)≤IntKind.max IntKind.i64∧rA (Cg n) x [.str (#[(40:UInt8)].toList++y.1++ #[(41:UInt8),(32:UInt8),(61:UInt8),(62:UInt8),(32:UInt8)].toList++y_1.1),.box 0 [AV.bv x_6.1.cv [AV.sl false (0:Nat) (1:Nat) UInt8 byA x_6.1.b,.int .i64 y_1.2.1,.int .i64 y_1.2.2],.str x_6.1.t],.top]) (cA Ba [.box 0 [AV.bv x.1.cv [AV.sl false (0:Nat) (1:Nat) UInt8 byA x_1.1,.int .i64 y.2.1,.int .i64 y.2.2],.str x.1.t]] fun x_2 y=>(↑(List.length y.1+(6:Nat)):Int)≤IntKind.max IntKind.i64∧cA (DH n) [.box 0 [AV.bv x_2.cv [AV.sl false (0:Nat) (1:Nat) UInt8 byA x_2.b,.int .i64 y.2.1,.int .i64 y.2.2],.str x_2.t],.int .i64 x.2] fun x_3 y_1=>(↑(List.length (y.1++ #[(46:UInt8),(46:UInt8),(97:UInt8),(100:UInt8),(100:UInt8),(40:UInt8)].toList)+List.length y_1.1):Int)≤IntKind.max IntKind.i64∧(↑(List.length (y.1++ #[(46:UInt8),(46:UInt8),(97:UInt8),(100:UInt8),(100:UInt8),(40:UInt8)].toList++y_1.1)+(10:Nat)):Int)≤IntKind.max IntKind.i64∧rA (Cg n) x [.str (y.1++ #[(46:UInt8),(46:UInt8),(97:UInt8),(100:UInt8),(100:UInt8),(40:UInt8)].toList++y_1.1++ #[(41:UInt8),(46:UInt8),(46:UInt8),(99:UInt8),(108:UInt8),(111:UInt8),(115:UInt8),(101:UInt8),(40:UInt8),(41:UInt8)].toList),.box 0 [AV.bv x_3.1.cv [AV.sl false (0:Nat) (1:Nat) UInt8 byA x_3.1.b,.int .i64 y_1.2.1,.int .i64 y_1.2.2],.str x_3.1.t],.top]))))))))))))))))) (fun x=>by kernel_rfl) fun(x:Md×Int) (hx:(mdP x.1∧n+1≤3)∧x.2≤(n+1:Nat)∧ -5≤x.2)=>(by
 dsimp only[CT,cA,cur,mad,Dm,rA,DH,Ba,Bj,Cg,Az,AC,mvL,lnL,mvE,lnE]
 obtain⟨⟨cv,b,i,h,t⟩,d⟩:=x;dsimp only at hx ⊢
 obtain⟨⟨hx,hn⟩,hd,hd2⟩:=hx
 have hx:Ad b i:=hx
 have hv:=Rt n (by omega);have hv2:=a0s n
 (repeat' first|(apply KP<;>try dsimp only)|(apply KO<;>try dsimp only)|(with_reducible first|rfl|exact True.intro|apply AN|apply And.intro|((first|apply AD|apply AL|apply AE|apply AM)<;>intro _))|(apply AA<;>intro _)|apply AK|refine Ae () ?_ ?_|((first|apply AR|apply AQ|apply AP|apply AO|apply AJ|apply AI|apply AH|apply AG|apply AF)<;>try dsimp only)|apply Ae|(refine Prod.forall.2 ?_;intro _;try dsimp only)|(intro _;try dsimp only))
 all_goals(try(have hk:=UO (And.left (show(((0:Int)<16→_)∧(_→_))∧Ad _ _ by assumption));have hk5:=tm5 hk.1))
 all_goals(repeat(rename _∈_∧Ad _ _=>hq;obtain⟨hq1,_⟩:=hq;have hq2:=Jj (n:=20) hq1 (by decide);clear hq1))
 all_goals(repeat(rename _∧Ad _ _=>hq;obtain⟨_,_⟩:=hq))
 all_goals first
  |rfl
  |(with_reducible assumption)
  |exact hx
  |(show Ad _ _;with_reducible assumption)
  |(rename _=[]=>hq;cases hq;done)
  |omega
  |(simp only[AU,List.length_append,List.length_cons,List.length_nil];omega)
  |skip)
def Gc:Sig:= {X:=Md×Int,args:=fun x=>[mad x.1,.int .i64 x.2],pre:=fun x=>(mdP x.1∧0≤3)∧x.2≤(0:Nat)∧ -5≤x.2,Y:=List UInt8×Int×Int,post:=fun x y=>y.1.length≤vB 0∧Ad x.1.b y.2.1,res:=fun x y=> .str y.1,outs:=fun x y=>[Dm x.1 y.2.1 y.2.2 x.1.t,.top],keep:=true}
set_option maxHeartbeats 8000000 in
theorem a0B:Am G Tryz.prog 181 Gc:=
 vcFun_okP [(51,0,Da),(157,0,Ba),(123,0,Hw)] [(38,⟨List UInt8,As⟩)] false (fun x=>[]) Tryz.func181 rfl (by decide) ⟨Gb,Mp,KN,trivial⟩ (fun(x:Md×Int)=>True∧∃(x_1:List UInt8×Int×Int×Int),Ad x_1.1 x_1.2.1∧x.1.cv=x.1.cv∧AV.sl false (0:Nat) (1:Nat) UInt8 byA x.1.b=AV.sl false (0:Nat) (1:Nat) UInt8 byA x_1.1∧x.1.i=x_1.2.1∧x.1.h=x_1.2.2.1∧(16:Int)=x_1.2.2.2∧∀(y:Int×Int×Int),(((0:Int)<x_1.2.2.2→(0:Int)≤y.1∧y.1<x_1.2.2.2)∧(x_1.2.2.2≤(0:Int)→y.1=(0:Int)))∧Ad x_1.1 y.2.1→x.1.cv=x.1.cv∧Aa (decide (x.2≤(0:Int))) ((5:Int)≠(0:Int)∧Aa (Int.tmod y.1 (5:Int)==(0:Int)) (cA Ba [.box 0 [AV.bv x.1.cv [AV.sl false (0:Nat) (1:Nat) UInt8 byA x_1.1,.int .i64 y.2.1,.int .i64 y.2.2],.str x.1.t]] fun x_2 y=>rA Gc x [.str y.1,.box 0 [AV.bv x_2.cv [AV.sl false (0:Nat) (1:Nat) UInt8 byA x_2.b,.int .i64 y.2.1,.int .i64 y.2.2],.str x_2.t],.top]) (Aa (Int.tmod y.1 (5:Int)==(1:Int)) (cA Ba [.box 0 [AV.bv x.1.cv [AV.sl false (0:Nat) (1:Nat) UInt8 byA x_1.1,.int .i64 y.2.1,.int .i64 y.2.2],.str x.1.t]] fun x_2 y=>rA Gc x [.str y.1,.box 0 [AV.bv x_2.cv [AV.sl false (0:Nat) (1:Nat) UInt8 byA x_2.b,.int .i64 y.2.1,.int .i64 y.2.2],.str x_2.t],.top]) (Aa (Int.tmod y.1 (5:Int)==(2:Int)) (cA Ba [.box 0 [AV.bv x.1.cv [AV.sl false (0:Nat) (1:Nat) UInt8 byA x_1.1,.int .i64 y.2.1,.int .i64 y.2.2],.str x.1.t]] fun x_2 y=>rA Gc x [.str y.1,.box 0 [AV.bv x_2.cv [AV.sl false (0:Nat) (1:Nat) UInt8 byA x_2.b,.int .i64 y.2.1,.int .i64 y.2.2],.str x_2.t],.top]) (Aa (Int.tmod y.1 (5:Int)==(3:Int)) (∃(x_2:List UInt8),#[(48:UInt8)].toList=x_2∧∃(x_3:List UInt8),#[(49:UInt8),(50:UInt8)].toList=x_3∧∃(x_4:List UInt8),#[(49:UInt8),(50:UInt8),(51:UInt8),(52:UInt8),(53:UInt8),(54:UInt8),(55:UInt8)].toList=x_4∧∃(x_5:List UInt8×Int×Int×List (List UInt8)),(Ad x_5.1 x_5.2.1∧x_5.2.2.2≠[]∧List.length x_5.2.2.2<(1073741824:Nat))∧x.1.cv=x.1.cv∧AV.sl false (0:Nat) (1:Nat) UInt8 byA x_1.1=AV.sl false (0:Nat) (1:Nat) UInt8 byA x_5.1∧y.2.1=x_5.2.1∧y.2.2=x_5.2.2.1∧AV.sl false (0:Nat) (1:Nat) (List UInt8) (fun(x:List UInt8)=>fzL (As x)) [x_2,x_3,x_4]=AV.sl false (0:Nat) (1:Nat) (List UInt8) As x_5.2.2.2∧∀(y:List UInt8×Int×Int),y.1∈x_5.2.2.2∧Ad x_5.1 y.2.1→x.1.cv=x.1.cv∧rA Gc x [.str y.1,.box 0 [AV.bv x.1.cv [AV.sl false (0:Nat) (1:Nat) UInt8 byA x_5.1,.int .i64 y.2.1,.int .i64 y.2.2],.str x.1.t],.top]) (Aa (Int.tmod y.1 (5:Int)==(4:Int)) (∃(x_2:List UInt8),#[(39:UInt8),(115:UInt8),(97:UInt8),(105:UInt8),(100:UInt8),(39:UInt8)].toList=x_2∧∃(x_3:List UInt8),#[(39:UInt8),(39:UInt8)].toList=x_3∧∃(x_4:List UInt8),#[(39:UInt8),(97:UInt8),(32:UInt8),(108:UInt8),(111:UInt8),(110:UInt8),(103:UInt8),(101:UInt8),(114:UInt8),(32:UInt8),(116:UInt8),(101:UInt8),(120:UInt8),(116:UInt8),(32:UInt8),(104:UInt8),(101:UInt8),(114:UInt8),(101:UInt8),(39:UInt8)].toList=x_4∧∃(x_5:List UInt8×Int×Int×List (List UInt8)),(Ad x_5.1 x_5.2.1∧x_5.2.2.2≠[]∧List.length x_5.2.2.2<(1073741824:Nat))∧x.1.cv=x.1.cv∧AV.sl false (0:Nat) (1:Nat) UInt8 byA x_1.1=AV.sl false (0:Nat) (1:Nat) UInt8 byA x_5.1∧y.2.1=x_5.2.1∧y.2.2=x_5.2.2.1∧AV.sl false (0:Nat) (1:Nat) (List UInt8) (fun(x:List UInt8)=>fzL (As x)) [x_2,x_3,x_4]=AV.sl false (0:Nat) (1:Nat) (List UInt8) As x_5.2.2.2∧∀(y:List UInt8×Int×Int),y.1∈x_5.2.2.2∧Ad x_5.1 y.2.1→x.1.cv=x.1.cv∧rA Gc x [.str y.1,.box 0 [AV.bv x.1.cv [AV.sl false (0:Nat) (1:Nat) UInt8 byA x_5.1,.int .i64 y.2.1,.int .i64 y.2.2],.str x.1.t],.top]) (Aa (Int.tmod y.1 (5:Int)==(5:Int)) (cA Ba [.box 0 [AV.bv x.1.cv [AV.sl false (0:Nat) (1:Nat) UInt8 byA x_1.1,.int .i64 y.2.1,.int .i64 y.2.2],.str x.1.t]] fun x y=>(↑(List.length y.1+(1:Nat)):Int)≤IntKind.max IntKind.i64∧False) (Aa (Int.tmod y.1 (5:Int)==(6:Int)) (cA Ba [.box 0 [AV.bv x.1.cv [AV.sl false (0:Nat) (1:Nat) UInt8 byA x_1.1,.int .i64 y.2.1,.int .i64 y.2.2],.str x.1.t]] fun x y=>(↑(List.length y.1+(1:Nat)):Int)≤IntKind.max IntKind.i64∧False) (Aa (Int.tmod y.1 (5:Int)==(7:Int)) (cA Ba [.box 0 [AV.bv x.1.cv [AV.sl false (0:Nat) (1:Nat) UInt8 byA x_1.1,.int .i64 y.2.1,.int .i64 y.2.2],.str x.1.t]] fun x y=>(↑(List.length y.1+(1:Nat)):Int)≤IntKind.max IntKind.i64∧False) (Aa (Int.tmod y.1 (5:Int)==(8:Int)) False (Aa (Int.tmod y.1 (5:Int)==(9:Int)) (cA Ba [.box 0 [AV.bv x.1.cv [AV.sl false (0:Nat) (1:Nat) UInt8 byA x_1.1,.int .i64 y.2.1,.int .i64 y.2.2],.str x.1.t]] fun x y=>(↑(List.length y.1+(1:Nat)):Int)≤IntKind.max IntKind.i64∧cA Ba [.box 0 [AV.bv x.cv [AV.sl false (0:Nat) (1:Nat) UInt8 byA x.b,.int .i64 y.2.1,.int .i64 y.2.2],.str x.t]] fun x y_1=>(↑(List.length (y.1++ #[(46:UInt8)].toList)+List.length y_1.1):Int)≤IntKind.max IntKind.i64∧(↑(List.length (y.1++ #[(46:UInt8)].toList++y_1.1)+(1:Nat)):Int)≤IntKind.max IntKind.i64∧False) (Aa (Int.tmod y.1 (5:Int)==(10:Int)) (∃(x_2:List UInt8),#[(43:UInt8)].toList=x_2∧∃(x_3:List UInt8),#[(45:UInt8)].toList=x_3∧∃(x_4:List UInt8),#[(42:UInt8)].toList=x_4∧∃(x_5:List UInt8),#[(38:UInt8),(38:UInt8)].toList=x_5∧∃(x_6:List UInt8),#[(124:UInt8),(124:UInt8)].toList=x_6∧∃(x_7:List UInt8),#[(61:UInt8),(61:UInt8)].toList=x_7∧∃(x_8:List UInt8),#[(60:UInt8)].toList=x_8∧∃(x_9:List UInt8×Int×Int×List (List UInt8)),(Ad x_9.1 x_9.2.1∧x_9.2.2.2≠[]∧List.length x_9.2.2.2<(1073741824:Nat))∧x.1.cv=x.1.cv∧AV.sl false (0:Nat) (1:Nat) UInt8 byA x_1.1=AV.sl false (0:Nat) (1:Nat) UInt8 byA x_9.1∧y.2.1=x_9.2.1∧y.2.2=x_9.2.2.1∧AV.sl false (0:Nat) (1:Nat) (List UInt8) (fun(x:List UInt8)=>fzL (As x)) [x_2,x_3,x_4,x_5,x_6,x_7,x_8]=AV.sl false (0:Nat) (1:Nat) (List UInt8) As x_9.2.2.2∧∀(y:List UInt8×Int×Int),y.1∈x_9.2.2.2∧Ad x_9.1 y.2.1→x.1.cv=x.1.cv∧inR IntKind.i64 (x.2-(1:Int))∧False) (Aa (Int.tmod y.1 (5:Int)==(11:Int)) (∃(x_2:List UInt8),#[(43:UInt8)].toList=x_2∧∃(x_3:List UInt8),#[(45:UInt8)].toList=x_3∧∃(x_4:List UInt8),#[(42:UInt8)].toList=x_4∧∃(x_5:List UInt8),#[(38:UInt8),(38:UInt8)].toList=x_5∧∃(x_6:List UInt8),#[(124:UInt8),(124:UInt8)].toList=x_6∧∃(x_7:List UInt8),#[(61:UInt8),(61:UInt8)].toList=x_7∧∃(x_8:List UInt8),#[(60:UInt8)].toList=x_8∧∃(x_9:List UInt8×Int×Int×List (List UInt8)),(Ad x_9.1 x_9.2.1∧x_9.2.2.2≠[]∧List.length x_9.2.2.2<(1073741824:Nat))∧x.1.cv=x.1.cv∧AV.sl false (0:Nat) (1:Nat) UInt8 byA x_1.1=AV.sl false (0:Nat) (1:Nat) UInt8 byA x_9.1∧y.2.1=x_9.2.1∧y.2.2=x_9.2.2.1∧AV.sl false (0:Nat) (1:Nat) (List UInt8) (fun(x:List UInt8)=>fzL (As x)) [x_2,x_3,x_4,x_5,x_6,x_7,x_8]=AV.sl false (0:Nat) (1:Nat) (List UInt8) As x_9.2.2.2∧∀(y:List UInt8×Int×Int),y.1∈x_9.2.2.2∧Ad x_9.1 y.2.1→x.1.cv=x.1.cv∧inR IntKind.i64 (x.2-(1:Int))∧False) (Aa (Int.tmod y.1 (5:Int)==(12:Int)) (inR IntKind.i64 (x.2-(1:Int))∧False) (Aa (Int.tmod y.1 (5:Int)==(13:Int)) (cA Ba [.box 0 [AV.bv x.1.cv [AV.sl false (0:Nat) (1:Nat) UInt8 byA x_1.1,.int .i64 y.2.1,.int .i64 y.2.2],.str x.1.t]] fun x_2 y=>(↑(List.length y.1+(3:Nat)):Int)≤IntKind.max IntKind.i64∧cA Ba [.box 0 [AV.bv x_2.cv [AV.sl false (0:Nat) (1:Nat) UInt8 byA x_2.b,.int .i64 y.2.1,.int .i64 y.2.2],.str x_2.t]] fun x_3 y_1=>(↑(List.length (y.1++ #[(32:UInt8),(60:UInt8),(32:UInt8)].toList)+List.length y_1.1):Int)≤IntKind.max IntKind.i64∧(↑(List.length (y.1++ #[(32:UInt8),(60:UInt8),(32:UInt8)].toList++y_1.1)+(3:Nat)):Int)≤IntKind.max IntKind.i64∧inR IntKind.i64 (x.2-(1:Int))∧False) (Aa (Int.tmod y.1 (5:Int)==(14:Int)) (∃(x_2:List UInt8),#[].toList=x_2∧∃(x_3:List UInt8),#[(97:UInt8)].toList=x_3∧∃(x_4:List UInt8),#[(97:UInt8),(44:UInt8),(32:UInt8),(98:UInt8)].toList=x_4∧∃(x_5:List UInt8×Int×Int×List (List UInt8)),(Ad x_5.1 x_5.2.1∧x_5.2.2.2≠[]∧List.length x_5.2.2.2<(1073741824:Nat))∧x.1.cv=x.1.cv∧AV.sl false (0:Nat) (1:Nat) UInt8 byA x_1.1=AV.sl false (0:Nat) (1:Nat) UInt8 byA x_5.1∧y.2.1=x_5.2.1∧y.2.2=x_5.2.2.1∧AV.sl false (0:Nat) (1:Nat) (List UInt8) (fun(x:List UInt8)=>fzL (As x)) [x_2,x_3,x_4]=AV.sl false (0:Nat) (1:Nat) (List UInt8) As x_5.2.2.2∧∀(y:List UInt8×Int×Int),y.1∈x_5.2.2.2∧Ad x_5.1 y.2.1→x.1.cv=x.1.cv∧(↑((1:Nat)+List.length y.1):Int)≤IntKind.max IntKind.i64∧(↑(List.length (#[(40:UInt8)].toList++y.1)+(5:Nat)):Int)≤IntKind.max IntKind.i64∧inR IntKind.i64 (x.2-(1:Int))∧False) (cA Ba [.box 0 [AV.bv x.1.cv [AV.sl false (0:Nat) (1:Nat) UInt8 byA x_1.1,.int .i64 y.2.1,.int .i64 y.2.2],.str x.1.t]] fun x y=>(↑(List.length y.1+(6:Nat)):Int)≤IntKind.max IntKind.i64∧False)))))))))))))))) (Aa (y.1==(0:Int)) (cA Ba [.box 0 [AV.bv x.1.cv [AV.sl false (0:Nat) (1:Nat) UInt8 byA x_1.1,.int .i64 y.2.1,.int .i64 y.2.2],.str x.1.t]] fun x_2 y=>rA Gc x [.str y.1,.box 0 [AV.bv x_2.cv [AV.sl false (0:Nat) (1:Nat) UInt8 byA x_2.b,.int .i64 y.2.1,.int .i64 y.2.2],.str x_2.t],.top]) (Aa (y.1==(1:Int)) (cA Ba [.box 0 [AV.bv x.1.cv [AV.sl false (0:Nat) (1:Nat) UInt8 byA x_1.1,.int .i64 y.2.1,.int .i64 y.2.2],.str x.1.t]] fun x_2 y=>rA Gc x [.str y.1,.box 0 [AV.bv x_2.cv [AV.sl false (0:Nat) (1:Nat) UInt8 byA x_2.b,.int .i64 y.2.1,.int .i64 y.2.2],.str x_2.t],.top]) (Aa (y.1==(2:Int)) (cA Ba [.box 0 [AV.bv x.1.cv [AV.sl false (0:Nat) (1:Nat) UInt8 byA x_1.1,.int .i64 y.2.1,.int .i64 y.2.2],.str x.1.t]] fun x_2 y=>rA Gc x [.str y.1,.box 0 [AV.bv x_2.cv [AV.sl false (0:Nat) (1:Nat) UInt8 byA x_2.b,.int .i64 y.2.1,.int .i64 y.2.2],.str x_2.t],.top]) (Aa (y.1==(3:Int)) (∃(x_2:List UInt8),#[(48:UInt8)].toList=x_2∧∃(x_3:List UInt8),#[(49:UInt8),(50:UInt8)].toList=x_3∧∃(x_4:List UInt8),#[(49:UInt8),(50:UInt8),(51:UInt8),(52:UInt8),(53:UInt8),(54:UInt8),(55:UInt8)].toList=x_4∧∃(x_5:List UInt8×Int×Int×List (List UInt8)),(Ad x_5.1 x_5.2.1∧x_5.2.2.2≠[]∧List.length x_5.2.2.2<(1073741824:Nat))∧x.1.cv=x.1.cv∧AV.sl false (0:Nat) (1:Nat) UInt8 byA x_1.1=AV.sl false (0:Nat) (1:Nat) UInt8 byA x_5.1∧y.2.1=x_5.2.1∧y.2.2=x_5.2.2.1∧AV.sl false (0:Nat) (1:Nat) (List UInt8) (fun(x:List UInt8)=>fzL (As x)) [x_2,x_3,x_4]=AV.sl false (0:Nat) (1:Nat) (List UInt8) As x_5.2.2.2∧∀(y:List UInt8×Int×Int),y.1∈x_5.2.2.2∧Ad x_5.1 y.2.1→x.1.cv=x.1.cv∧rA Gc x [.str y.1,.box 0 [AV.bv x.1.cv [AV.sl false (0:Nat) (1:Nat) UInt8 byA x_5.1,.int .i64 y.2.1,.int .i64 y.2.2],.str x.1.t],.top]) (Aa (y.1==(4:Int)) (∃(x_2:List UInt8),#[(39:UInt8),(115:UInt8),(97:UInt8),(105:UInt8),(100:UInt8),(39:UInt8)].toList=x_2∧∃(x_3:List UInt8),#[(39:UInt8),(39:UInt8)].toList=x_3∧∃(x_4:List UInt8),#[(39:UInt8),(97:UInt8),(32:UInt8),(108:UInt8),(111:UInt8),(110:UInt8),(103:UInt8),(101:UInt8),(114:UInt8),(32:UInt8),(116:UInt8),(101:UInt8),(120:UInt8),(116:UInt8),(32:UInt8),(104:UInt8),(101:UInt8),(114:UInt8),(101:UInt8),(39:UInt8)].toList=x_4∧∃(x_5:List UInt8×Int×Int×List (List UInt8)),(Ad x_5.1 x_5.2.1∧x_5.2.2.2≠[]∧List.length x_5.2.2.2<(1073741824:Nat))∧x.1.cv=x.1.cv∧AV.sl false (0:Nat) (1:Nat) UInt8 byA x_1.1=AV.sl false (0:Nat) (1:Nat) UInt8 byA x_5.1∧y.2.1=x_5.2.1∧y.2.2=x_5.2.2.1∧AV.sl false (0:Nat) (1:Nat) (List UInt8) (fun(x:List UInt8)=>fzL (As x)) [x_2,x_3,x_4]=AV.sl false (0:Nat) (1:Nat) (List UInt8) As x_5.2.2.2∧∀(y:List UInt8×Int×Int),y.1∈x_5.2.2.2∧Ad x_5.1 y.2.1→x.1.cv=x.1.cv∧rA Gc x [.str y.1,.box 0 [AV.bv x.1.cv [AV.sl false (0:Nat) (1:Nat) UInt8 byA x_5.1,.int .i64 y.2.1,.int .i64 y.2.2],.str x.1.t],.top]) (Aa (y.1==(5:Int)) (cA Ba [.box 0 [AV.bv x.1.cv [AV.sl false (0:Nat) (1:Nat) UInt8 byA x_1.1,.int .i64 y.2.1,.int .i64 y.2.2],.str x.1.t]] fun x y=>(↑(List.length y.1+(1:Nat)):Int)≤IntKind.max IntKind.i64∧False) (Aa (y.1==(6:Int)) (cA Ba [.box 0 [AV.bv x.1.cv [AV.sl false (0:Nat) (1:Nat) UInt8 byA x_1.1,.int .i64 y.2.1,.int .i64 y.2.2],.str x.1.t]] fun x y=>(↑(List.length y.1+(1:Nat)):Int)≤IntKind.max IntKind.i64∧False) (Aa (y.1==(7:Int)) (cA Ba [.box 0 [AV.bv x.1.cv [AV.sl false (0:Nat) (1:Nat) UInt8 byA x_1.1,.int .i64 y.2.1,.int .i64 y.2.2],.str x.1.t]] fun x y=>(↑(List.length y.1+(1:Nat)):Int)≤IntKind.max IntKind.i64∧False) (Aa (y.1==(8:Int)) False (Aa (y.1==(9:Int)) (cA Ba [.box 0 [AV.bv x.1.cv [AV.sl false (0:Nat) (1:Nat) UInt8 byA x_1.1,.int .i64 y.2.1,.int .i64 y.2.2],.str x.1.t]] fun x y=>(↑(List.length y.1+(1:Nat)):Int)≤IntKind.max IntKind.i64∧cA Ba [.box 0 [AV.bv x.cv [AV.sl false (0:Nat) (1:Nat) UInt8 byA x.b,.int .i64 y.2.1,.int .i64 y.2.2],.str x.t]] fun x y_1=>(↑(List.length (y.1++ #[(46:UInt8)].toList)+List.length y_1.1):Int)≤IntKind.max IntKind.i64∧(↑(List.length (y.1++ #[(46:UInt8)].toList++y_1.1)+(1:Nat)):Int)≤IntKind.max IntKind.i64∧False) (Aa (y.1==(10:Int)) (∃(x_2:List UInt8),#[(43:UInt8)].toList=x_2∧∃(x_3:List UInt8),#[(45:UInt8)].toList=x_3∧∃(x_4:List UInt8),#[(42:UInt8)].toList=x_4∧∃(x_5:List UInt8),#[(38:UInt8),(38:UInt8)].toList=x_5∧∃(x_6:List UInt8),#[(124:UInt8),(124:UInt8)].toList=x_6∧∃(x_7:List UInt8),#[(61:UInt8),(61:UInt8)].toList=x_7∧∃(x_8:List UInt8),#[(60:UInt8)].toList=x_8∧∃(x_9:List UInt8×Int×Int×List (List UInt8)),(Ad x_9.1 x_9.2.1∧x_9.2.2.2≠[]∧List.length x_9.2.2.2<(1073741824:Nat))∧x.1.cv=x.1.cv∧AV.sl false (0:Nat) (1:Nat) UInt8 byA x_1.1=AV.sl false (0:Nat) (1:Nat) UInt8 byA x_9.1∧y.2.1=x_9.2.1∧y.2.2=x_9.2.2.1∧AV.sl false (0:Nat) (1:Nat) (List UInt8) (fun(x:List UInt8)=>fzL (As x)) [x_2,x_3,x_4,x_5,x_6,x_7,x_8]=AV.sl false (0:Nat) (1:Nat) (List UInt8) As x_9.2.2.2∧∀(y:List UInt8×Int×Int),y.1∈x_9.2.2.2∧Ad x_9.1 y.2.1→x.1.cv=x.1.cv∧inR IntKind.i64 (x.2-(1:Int))∧False) (Aa (y.1==(11:Int)) (∃(x_2:List UInt8),#[(43:UInt8)].toList=x_2∧∃(x_3:List UInt8),#[(45:UInt8)].toList=x_3∧∃(x_4:List UInt8),#[(42:UInt8)].toList=x_4∧∃(x_5:List UInt8),#[(38:UInt8),(38:UInt8)].toList=x_5∧∃(x_6:List UInt8),#[(124:UInt8),(124:UInt8)].toList=x_6∧∃(x_7:List UInt8),#[(61:UInt8),(61:UInt8)].toList=x_7∧∃(x_8:List UInt8),#[(60:UInt8)].toList=x_8∧∃(x_9:List UInt8×Int×Int×List (List UInt8)),(Ad x_9.1 x_9.2.1∧x_9.2.2.2≠[]∧List.length x_9.2.2.2<(1073741824:Nat))∧x.1.cv=x.1.cv∧AV.sl false (0:Nat) (1:Nat) UInt8 byA x_1.1=AV.sl false (0:Nat) (1:Nat) UInt8 byA x_9.1∧y.2.1=x_9.2.1∧y.2.2=x_9.2.2.1∧AV.sl false (0:Nat) (1:Nat) (List UInt8) (fun(x:List UInt8)=>fzL (As x)) [x_2,x_3,x_4,x_5,x_6,x_7,x_8]=AV.sl false (0:Nat) (1:Nat) (List UInt8) As x_9.2.2.2∧∀(y:List UInt8×Int×Int),y.1∈x_9.2.2.2∧Ad x_9.1 y.2.1→x.1.cv=x.1.cv∧inR IntKind.i64 (x.2-(1:Int))∧False) (Aa (y.1==(12:Int)) (inR IntKind.i64 (x.2-(1:Int))∧False) (Aa (y.1==(13:Int)) (cA Ba [.box 0 [AV.bv x.1.cv [AV.sl false (0:Nat) (1:Nat) UInt8 byA x_1.1,.int .i64 y.2.1,.int .i64 y.2.2],.str x.1.t]] fun x_2 y=>(↑(List.length y.1+(3:Nat)):Int)≤IntKind.max IntKind.i64∧cA Ba [.box 0 [AV.bv x_2.cv [AV.sl false (0:Nat) (1:Nat) UInt8 byA x_2.b,.int .i64 y.2.1,.int .i64 y.2.2],.str x_2.t]] fun x_3 y_1=>(↑(List.length (y.1++ #[(32:UInt8),(60:UInt8),(32:UInt8)].toList)+List.length y_1.1):Int)≤IntKind.max IntKind.i64∧(↑(List.length (y.1++ #[(32:UInt8),(60:UInt8),(32:UInt8)].toList++y_1.1)+(3:Nat)):Int)≤IntKind.max IntKind.i64∧inR IntKind.i64 (x.2-(1:Int))∧False) (Aa (y.1==(14:Int)) (∃(x_2:List UInt8),#[].toList=x_2∧∃(x_3:List UInt8),#[(97:UInt8)].toList=x_3∧∃(x_4:List UInt8),#[(97:UInt8),(44:UInt8),(32:UInt8),(98:UInt8)].toList=x_4∧∃(x_5:List UInt8×Int×Int×List (List UInt8)),(Ad x_5.1 x_5.2.1∧x_5.2.2.2≠[]∧List.length x_5.2.2.2<(1073741824:Nat))∧x.1.cv=x.1.cv∧AV.sl false (0:Nat) (1:Nat) UInt8 byA x_1.1=AV.sl false (0:Nat) (1:Nat) UInt8 byA x_5.1∧y.2.1=x_5.2.1∧y.2.2=x_5.2.2.1∧AV.sl false (0:Nat) (1:Nat) (List UInt8) (fun(x:List UInt8)=>fzL (As x)) [x_2,x_3,x_4]=AV.sl false (0:Nat) (1:Nat) (List UInt8) As x_5.2.2.2∧∀(y:List UInt8×Int×Int),y.1∈x_5.2.2.2∧Ad x_5.1 y.2.1→x.1.cv=x.1.cv∧(↑((1:Nat)+List.length y.1):Int)≤IntKind.max IntKind.i64∧(↑(List.length (#[(40:UInt8)].toList++y.1)+(5:Nat)):Int)≤IntKind.max IntKind.i64∧inR IntKind.i64 (x.2-(1:Int))∧False) (cA Ba [.box 0 [AV.bv x.1.cv [AV.sl false (0:Nat) (1:Nat) UInt8 byA x_1.1,.int .i64 y.2.1,.int .i64 y.2.2],.str x.1.t]] fun x y=>(↑(List.length y.1+(6:Nat)):Int)≤IntKind.max IntKind.i64∧False))))))))))))))))) (fun x=>by kernel_rfl) fun(x:Md×Int) (hx:(mdP x.1∧0≤3)∧x.2≤(0:Nat)∧ -5≤x.2)=>(by
 dsimp only[CT,cA,cur,mad,Dm,rA,Ba,Gc,Az,AC,mvL,lnL,mvE,lnE]
 obtain⟨⟨cv,b,i,h,t⟩,d⟩:=x;dsimp only at hx ⊢
 obtain⟨⟨hx,hn⟩,hd,hd2⟩:=hx
 have hx:Ad b i:=hx
 have hv:=Rt 0 (by omega)
 (repeat' first|(apply KP<;>try dsimp only)|(apply KO<;>try dsimp only)|(with_reducible first|rfl|exact True.intro|apply AN|apply And.intro|((first|apply AD|apply AL|apply AE|apply AM)<;>intro _))|(apply AA<;>intro _)|apply AK|refine Ae () ?_ ?_|((first|apply AR|apply AQ|apply AP|apply AO|apply AJ|apply AI|apply AH|apply AG|apply AF)<;>try dsimp only)|apply Ae|(refine Prod.forall.2 ?_;intro _;try dsimp only)|(intro _;try dsimp only))
 all_goals(try(have hk:=UO (And.left (show(((0:Int)<16→_)∧(_→_))∧Ad _ _ by assumption));have hk5:=tm5 hk.1))
 all_goals(repeat(rename _∈_∧Ad _ _=>hq;obtain⟨hq1,_⟩:=hq;have hq2:=Jj (n:=20) hq1 (by decide);clear hq1))
 all_goals(repeat(rename _∧Ad _ _=>hq;obtain⟨_,_⟩:=hq))
 all_goals first
  |rfl
  |(with_reducible assumption)
  |exact hx
  |(show Ad _ _;with_reducible assumption)
  |(rename _=[]=>hq;cases hq;done)
  |omega
  |(simp only[AU,List.length_append,List.length_cons,List.length_nil];omega)
  |skip)
theorem Ru:∀n,Am G Go.Proofs.Tryz.prog 181 (Bj n)
 |0=>a0B
 |n+1=>a0A n (Ru n)
end Go.My
end
