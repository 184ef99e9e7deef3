/- joined -/
import Derived.Test.YtblmpjljedglaaaGreatDoorQD
import Derived.Test.YtblmpjljedglaaaGreatDoorProg
import Derived.WalkKit
import Derived.Lib.Bytealg
import Derived.Laws.Externs
set_option linter.unusedSimpArgs false
set_option linter.unusedVariables false
section
namespace Go.My
open Go.Eng
variable {k:Int}{ns:List Nd}
def inn(x a b:Int):Bool:=decide (a≤x)&&decide (x≤b)
def BG(l:List Nd)(k:Int):Bool:=decide (0≤k)&&decide (k<l.length)
def Bf(k:Int):Bool:=inn k 1 11
def KK(k:Int):Bool:=inn k 12 17
def Fj(k:Int):Bool:=decide (k=12)||(decide (k=20)||decide (k=19))
def EE(k:Int):Bool:=decide (k=18)
def Ep(k:Int):Bool:=decide (k=1)
def Fx(k:Int):Bool:=decide (k=5)
def Fk(k:Int):Bool:=KK k||decide (k=19)
def HJ(k:Int):Bool:=Fj k||decide (k=21)
def Gj(p:Int→Bool)(ks:List Int):Bool:=match ks.getLast? with
 |some k=>p k&&ks.dropLast.all Ep
 |none=>false
def DV(k:Int)(ks:List Int):Bool:=
 if k=1∨k=2∨k=3∨k=19 then decide (ks.length=0)
 else if k=4 then ks.all Bf
 else if k=5 then decide (1≤ks.length)&&ks.all Bf
 else if k=7 then decide (2≤ks.length)&&ks.all Bf
 else if k=8 then decide (ks.length=3)&&ks.all Bf
 else if k=6∨k=11∨k=13∨k=14 then decide (ks.length=1)&&ks.all Bf
 else if k=12∨k=15 then decide (ks.length≤1)&&ks.all Bf
 else if k=9 then Gj Bf ks
 else if k=10 then decide (2≤ks.length)&&(Bf (ks.headD 0)&&(ks.drop 1).all Fx)
 else if k=16 then(decide (2≤ks.length)&&decide (ks.length≤3))&&(Bf (ks.headD 0)&&(ks.drop 1).all EE)
 else if k=17 then decide (ks.length=2)&&(Bf (ks.headD 0)&&EE (ks.getD 1 0))
 else if k=18 then ks.all Fk
 else if k=20 then Gj EE ks
 else if k=21 then ks.all Fj
 else if k=22 then ks.all HJ
 else false
def Ab(ns:List Nd)(c:Int):Nd:=ns.getD c.toNat ⟨0,[],[],false⟩
def Bc(ns:List Nd)(c:Int):Int:=(Ab ns c).kind
def Dk(ns:List Nd)(x:Nd)(i:Nat)(c:Int):Bool:=
 let y:=Ab ns c
 if y.kind=5 then match y.kids with
  |[]=>false
  |h::_=>BG ns h&& !(decide (x.kind=10)&&(decide (0<i)&& !decide (Bc ns h=1)))
 else true
def FQ(ns:List Nd)(x:Nd):Bool:=(x.kids.zipIdx).all fun p=>Dk ns x p.2 p.1
def Er(l:List Int)(k:Int):Bool:=l.all fun c=>decide (0≤c)&&decide (c<k)
def Iq(k:Int):Bool:=KK k||(Fj k||decide (k=21))
def Jg(ns:List Nd)(k:Int)(x:Nd):Bool:=
 decide (x.kids.length≤12)&&(EO x.kind x.text&&((Er x.kids k&&decide x.kids.Nodup)&&(DV x.kind (x.kids.map (Bc ns))&&(FQ ns x&&(Iq x.kind|| !x.blank)))))
def Cs(ns:List Nd)(k:Int):Bool:=BG ns k&&Jg ns k (Ab ns k)
def mx(ds:List Int):List Int→Int→Int
 |[],d=>d
 |c::l,d=>mx ds l (max d (ds.getD c.toNat 0))
def CW(ns:List Nd):Nat→Option (List Int)
 |0=>some []
 |n+1=>match CW ns n with
  |none=>none
  |some ds=>if Cs ns n then(if 14≤mx ds (Ab ns n).kids 0 then none else some (ds++[mx ds (Ab ns n).kids 0+1])) else none
def Cx(ns:List Nd)(k:Int):Int:=if BG ns k then match CW ns (k.toNat+1) with
    |none=>0
    |some ds=>ds.getD k.toNat 0
 else 0
def CX(ns:List Nd):List Int:=ns.flatMap (·.kids)
def Dl(ns:List Nd):Bool:=
 (decide (1≤ns.length)&&decide (ns.length≤300))&&(decide (Bc ns (ns.length-1)=22)&&(!decide (Cx ns (ns.length-1)=0)&&((List.range (ns.length-1)).all fun i=>decide ((CX ns).count (i:Int)=1))))
theorem BB{l:List Nd}:BG l k=true↔0≤k∧k<l.length:=by simp [BG]
theorem BA{c:Int}{x:Nd}(h:ns[c.toNat]? =some x):Ab ns c=x:=by
 simp [Ab,List.getD,h]
theorem SA(ds:List Int):∀(l:List Int) (d:Int),d≤mx ds l d
 |[],d=>Int.le_refl d
 |c::l,d=>by unfold mx;have:=SA ds l (max d (ds.getD c.toNat 0));omega
theorem KL{ns:List Nd}:∀ {n:Nat} {ds:List Int},CW ns n=some ds→ds.length=n
 |0,ds,h=>by cases h;rfl
 |n+1,ds,h=>by
  unfold CW at h
  split at h
  ·cases h
  ·rename_i ds' hd
   split at h
   ·split at h
    ·cases h
    ·simp at h;rw[←h];simp [KL hd]
   ·cases h
theorem NO{ns:List Nd}:∀ {n:Nat} {ds:List Int},CW ns n=some ds→∀d∈ds,1≤d∧d≤14
 |0,ds,h=>by cases h;simp
 |n+1,ds,h=>by
  unfold CW at h
  split at h
  ·cases h
  ·rename_i ds' hd
   split at h
   ·split at h
    ·cases h
    ·simp at h;rw[←h]
     intro d hdm
     rcases List.mem_append.1 hdm with hdm|hdm
     ·exact NO hd d hdm
     ·simp at hdm
      have:=SA ds' (Ab ns n).kids 0
      omega
   ·cases h
theorem XH{ns:List Nd}:∀ {n:Nat} {ds:List Int},CW ns n=some ds→∀i,i<n→Cs ns i=true
 |0,ds,h,i,hi=>by omega
 |n+1,ds,h,i,hi=>by
  unfold CW at h
  split at h
  ·cases h
  ·rename_i ds' hd
   split at h
   ·rename_i hok
    by_cases e:i=n
    ·subst e;exact hok
    ·exact XH hd i (by omega)
   ·cases h
theorem XI{n m:Nat}(h:CW ns n=none)(hm:n≤m):CW ns m=none:=by
 induction m with
 |zero=>obtain rfl:n=0:=by omega
        exact h
 |succ m ih=>
  by_cases e:n=m+1
  ·subst e;exact h
  ·unfold CW;rw[ih (by omega)]
theorem Qi(h:Cx ns k≠0):BG ns k=true∧(∃ds,CW ns (k.toNat+1)=some ds)∧∀i:Nat,(i:Int)≤k→Cs ns i=true:=by
 unfold Cx at h
 split at h
 ·rename_i hn
  split at h
  ·exact(h rfl).elim
  ·rename_i ds hd
   exact⟨hn,⟨ds,hd⟩,fun i hi=>XH hd i (by have:=BB.1 hn;omega)⟩
 ·exact(h rfl).elim
theorem XJ{ns:List Nd}{k:Int}:0≤Cx ns k:=by
 unfold Cx
 split
 ·split
  ·exact Int.le_refl 0
  ·rename_i ds hd
   rw[List.getD]
   cases h:ds[k.toNat]? with
   |none=>simp
   |some d=>have:=NO hd d (List.mem_of_getElem? h);simp;omega
 ·exact Int.le_refl 0
theorem b1K{ds:List Int}(hn:BG ns k=true)(h:CW ns (k.toNat+1)=some ds):Cx ns k≠0:=by
 unfold Cx
 rw[if_pos hn,h]
 have hl:=KL h
 have:ds[k.toNat]? =some ds[k.toNat]:=by simp
 simp only[List.getD,this,Option.getD_some]
 have:=NO h ds[k.toNat] (by simp)
 omega
theorem EF(h:Cs ns k=true):(0≤k∧k<ns.length)∧(Ab ns k).kids.length≤12∧EO (Ab ns k).kind (Ab ns k).text=true∧
 (∀c∈(Ab ns k).kids,0≤c∧c<k)∧(Ab ns k).kids.Nodup∧DV (Ab ns k).kind ((Ab ns k).kids.map (Bc ns))=true∧FQ ns (Ab ns k)=true:=by
 simp only[Cs,Jg,Bool.and_eq_true,decide_eq_true_eq,Er,List.all_eq_true] at h
 exact⟨BB.1 h.1,h.2.1,h.2.2.1,h.2.2.2.1.1,h.2.2.2.1.2,h.2.2.2.2.1,h.2.2.2.2.2.1⟩
end Go.My
end
section
namespace Go.My
open Go.Eng Go.Proofs Go.RowKit
variable {G:GInv}
def CR(s:List UInt8)(c:UInt8):Int:=match Eo (fun d=>decide (d.toNat=c.toNat)) s with
 |none=> -1
 |some i=>i
theorem a3x:∀(s:List UInt8) (c:UInt8),Lib.indexByte s c=CR s c
 |[],c=>rfl
 |b::s,c=>by
  unfold Lib.indexByte CR Eo
  have e:(b==c)=decide (b.toNat=c.toNat):=by
   rw[Bool.eq_iff_iff];simp [UInt8.toNat_inj]
  rw[e]
  by_cases h:b.toNat=c.toNat
  ·simp [h]
  ·have ih:=a3x s c
   unfold CR at ih
   simp only[h,decide_false,Bool.false_eq_true,if_false]
   rw[ih]
   cases hh:Eo (fun d=>decide (d.toNat=c.toNat)) s with
   |none=>simp
   |some i=>simp
set_option maxHeartbeats 1000000 in
set_option maxRecDepth 100000 in
theorem b1L(s:ByteArray)(c:Int)(w:World):
 Calls Tryz.prog 235 #[.string s,.int .u8 c] w fun e w'=>e= .returned (.int .i64 (Lib.indexByte s.data.toList c.toNat.toUInt8))∧w'=w:=by
 go_enter Tryz.func235,Tryz.ntmps235
 go_wp2
 rw[run_callFunc_extern Tryz.func245 (by kernel_rfl) (by kernel_rfl) (by kernel_rfl) (e:=Extern.BytealgIndexByte.indexByte) (by kernel_rfl),Lib.run_indexByteString]
 simp only[Result.andThen]
 rw[Oper.upon_value]
 go_wp2
 go_ret
 exact⟨rfl,rfl⟩
def NP:Sig:= {X:=List UInt8×UInt8,args:=fun x=>[.str x.1,.int .u8 x.2.toNat],pre:=fun _=>True,Y:=Unit,post:=fun _ _=>True,res:=fun x _=> .int .i64 (CR x.1 x.2),outs:=fun _ _=>[.top,.top],keep:=false}
theorem XK:Ai G Tryz.prog 235 NP:=by
 refine⟨⟨⟨_,Tryz.func235,by kernel_rfl,by kernel_rfl⟩,fun x y _ _=>⟨trivial,trivial,trivial,trivial⟩⟩,?_⟩
 rintro⟨l,c⟩ _ Z w vals A _ h hA _
 simp only[NP,AZ,Aj] at h
 obtain⟨v,cs,A1,A2,rfl,_,⟨rfl,_⟩,v',cs',A3,A4,rfl,_,⟨rfl,_⟩,rfl,_⟩:=h
 refine(b1L ⟨l.toArray⟩ c.toNat w).mono ?_
 rintro e w' ⟨rfl,rfl⟩
 refine⟨(),_,Z,(fun _=>False),trivial,rfl,?_,⟨rfl,rfl,rfl,Nat.le_refl _,fun _ _ _=>⟨rfl,Iff.rfl⟩,fun _ h=>h.elim⟩⟩
 simp only[NP,AZ,Aj]
 refine⟨_,_,_,_,rfl,BS _,⟨?_,AW⟩,_,_,_,_,rfl,BS _,AW,_,_,_,_,rfl,BS _,AW,rfl,AW⟩
 rw[a3x];simp
def SB:Sig:= {X:=List UInt8,args:=fun x=>[.str x,.int .u8 39],pre:=fun _=>True,Y:=Unit,post:=fun _ _=>True,res:=fun x _=> .int .i64 (CR x 39),outs:=fun _ _=>[.top,.top],keep:=false}
theorem b1M:Ai G Tryz.prog 235 SB:=⟨⟨(XK (G:=G)).1.1,fun x y _ _=>⟨trivial,trivial,trivial,trivial⟩⟩,fun x hx=>(XK (G:=G)).2 (x,39) trivial⟩
def NQ:Sig:= {X:=List UInt8,args:=fun x=>[.str x,.int .u8 39],pre:=fun x=>True,Y:=Unit,post:=fun x y=>True,res:=fun x y=> .q (CR x 39),outs:=fun x y=>[.top,.top],keep:=false}
theorem b1N:Ai G Tryz.prog 223 NQ:=
 vcFun_okP [(235,0,SB)] [] false (fun x=>[]) Tryz.func223 rfl (by decide) ⟨b1M,trivial⟩ (fun(x:List UInt8)=>(∀(y:Unit),True→True∧True∧True∧True)∧cA SB [.str x,AV.int IntKind.u8 (39:Int)] fun x_1 y=>rA NQ x [.q (CR x_1 (39:UInt8)),.top,.top]) (fun x=>by kernel_rfl) fun(x:List UInt8) (hx:True)=>(by
 dsimp only[cA,rA,SB,NQ,As,Az,mvL,lnL,mvE,lnE,AV.q]
 (repeat' first|(with_reducible first|rfl|exact True.intro|apply AK|apply And.intro|((first|apply AA|apply AI|apply AB|apply AJ)<;>intro _))|(apply Av<;>intro _)|apply AH|refine Ae () ?_ ?_|((first|apply AO|apply AN|apply AM|apply AL|apply AG|apply AF|apply AE|apply AD|apply AC)<;>try dsimp only)|apply Ae|(refine Prod.forall.2 ?_;intro _;try dsimp only)|(intro _;try dsimp only))<;>(try dsimp only at*)<;>(try simp only[An,List.length_cons,List.length_nil])<;>(try omega))
def JI:Sig:= {X:=List UInt8×List UInt8,args:=fun x=>[.str x.1,.str x.2],pre:=fun x=>x.2.length=1,Y:=Unit,post:=fun x y=>True,res:=fun x y=> .q (CR x.1 (x.2.headD 0)),outs:=fun x y=>[.top,.top],keep:=false}
theorem b1O:Ai G Tryz.prog 249 JI:=
 vcFun_okP [(235,0,NP)] [] false (fun x=>[]) Tryz.func249 rfl (by decide) ⟨XK,trivial⟩ (fun(x:List UInt8×List UInt8)=>(∀(y:Unit),True→True∧True∧True∧True)∧Aa ((x.2.length:Int)==(0:Int)) (rA JI x [.q 0,.top,.top]) (Aa (x.2==x.1) (rA JI x [.q 0,.top,.top]) (Aa ((x.2.length:Int)==(1:Int)) (((0:Int)≤(0:Int)∧0<(x.2.length:Int))∧∀(c:UInt8),x.2[(0:Nat)]? =some c→cA NP [.str x.1,AV.int IntKind.u8 (↑(UInt8.toNat c):Int)] fun x_1 y=>rA JI x [.q (CR x_1.1 x_1.2),.top,.top]) (Aa (decide ((x.2.length:Int)≥(x.1.length:Int))) (rA JI x [.q (-1:Int),.top,.top]) False)))) (fun x=>by kernel_rfl) fun(x:List UInt8×List UInt8) (hx:x.2.length=1)=>(by
 dsimp only[cA,rA,NP,JI,As,Az,mvL,lnL,mvE,lnE,AV.q]
 (repeat' first|(with_reducible first|rfl|exact True.intro|apply AK|apply And.intro|((first|apply AA|apply AI|apply AB|apply AJ)<;>intro _))|(apply Av<;>intro _)|apply AH|refine Ae () ?_ ?_|((first|apply AO|apply AN|apply AM|apply AL|apply AG|apply AF|apply AE|apply AD|apply AC)<;>try dsimp only)|apply Ae|(refine Prod.forall.2 ?_;intro _;try dsimp only)|(intro _;try dsimp only))<;>(try dsimp only at*)<;>(try simp only[An,List.length_cons,List.length_nil])<;>(try omega)
 ·rename_i _ h;rw[←h];match x.2,hx with
  |[c],_=>simp [CR,Eo]
 ·rename_i c hc _ _
  match x.2,hx,hc with
  |[d],_,hc=>simp at hc;rw[←hc];rfl)
def NR:Sig:= {X:=List UInt8×List UInt8,args:=fun x=>[.str x.1,.str x.2],pre:=fun x=>x.2.length=1,Y:=Unit,post:=fun x y=>True,res:=fun x y=> .q (CR x.1 (x.2.headD 0)),outs:=fun x y=>[.top,.top],keep:=false}
theorem b1P:Ai G Tryz.prog 240 NR:=
 vcFun_okP [(249,0,JI)] [] false (fun x=>[]) Tryz.func240 rfl (by decide) ⟨b1O,trivial⟩ (fun(x:List UInt8×List UInt8)=>(∀(y:Unit),True→True∧True∧True∧True)∧cA JI [.str x.1,.str x.2] fun x_1 y=>rA NR x [.q (CR x_1.1 (List.headD x_1.2 (0:UInt8))),.top,.top]) (fun x=>by kernel_rfl) fun(x:List UInt8×List UInt8) (hx:x.2.length=1)=>(by
 dsimp only[cA,rA,NR,JI,As,Az,mvL,lnL,mvE,lnE,AV.q]
 (repeat' first|(with_reducible first|rfl|exact True.intro|apply AK|apply And.intro|((first|apply AA|apply AI|apply AB|apply AJ)<;>intro _))|(apply Av<;>intro _)|apply AH|refine Ae () ?_ ?_|((first|apply AO|apply AN|apply AM|apply AL|apply AG|apply AF|apply AE|apply AD|apply AC)<;>try dsimp only)|apply Ae|(refine Prod.forall.2 ?_;intro _;try dsimp only)|(intro _;try dsimp only))<;>(try dsimp only at*)<;>(try simp only[An,List.length_cons,List.length_nil])<;>(try omega))
def NS:Sig:= {X:=List UInt8×List UInt8,args:=fun x=>[.str x.1,.str x.2],pre:=fun x=>x.2.length=1,Y:=Unit,post:=fun x y=>True,res:=fun x y=> .bool (decide (CR x.1 (x.2.headD 0)≥0)),outs:=fun x y=>[.top,.top],keep:=false}
theorem b1Q:Ai G Tryz.prog 225 NS:=
 vcFun_okP [(240,0,NR)] [] false (fun x=>[]) Tryz.func225 rfl (by decide) ⟨b1P,trivial⟩ (fun(x:List UInt8×List UInt8)=>(∀(y:Unit),True→True∧True∧True∧True)∧cA NR [.str x.1,.str x.2] fun x_1 y=>rA NS x [.bool (decide (CR x_1.1 (List.headD x_1.2 (0:UInt8))≥0)),.top,.top]) (fun x=>by kernel_rfl) fun(x:List UInt8×List UInt8) (hx:x.2.length=1)=>(by
 dsimp only[cA,rA,NS,NR,As,Az,mvL,lnL,mvE,lnE]
 (repeat' first|(with_reducible first|rfl|exact True.intro|apply AK|apply And.intro|((first|apply AA|apply AI|apply AB|apply AJ)<;>intro _))|(apply Av<;>intro _)|apply AH|refine Ae () ?_ ?_|((first|apply AO|apply AN|apply AM|apply AL|apply AG|apply AF|apply AE|apply AD|apply AC)<;>try dsimp only)|apply Ae|(refine Prod.forall.2 ?_;intro _;try dsimp only)|(intro _;try dsimp only))<;>(try dsimp only at*)<;>(try simp only[An,List.length_cons,List.length_nil])<;>(try omega))
def LR:Sig:= {X:=List UInt8×List UInt8,args:=fun x=>[.str x.1,.str x.2],pre:=fun x=>x.2.length<2^62∧x.1.length<2^63,Y:=Unit,post:=fun x y=>True,res:=fun x y=> .bool (x.1.take x.2.length==x.2),outs:=fun x y=>[.top,.top],keep:=false}
theorem b1R:Ai G Tryz.prog 214 LR:=
 vcFun_okP [] [] false (fun x=>[]) Tryz.func214 rfl (by decide) trivial (fun(x:List UInt8×List UInt8)=>(∀(y:Unit),True→True∧True∧True∧True)∧Aa (decide ((x.1.length:Int)≥(x.2.length:Int))) (((0:Int)≤(0:Int)∧0≤(x.2.length:Int)∧(x.2.length:Int)≤(x.1.length:Int))∧rA LR x [.bool (List.take (Int.toNat (x.2.length:Int)) x.1==x.2),.top,.top]) (rA LR x [.bool false,.top,.top])) (fun x=>by kernel_rfl) fun(x:List UInt8×List UInt8) (hx:x.2.length<2^62∧x.1.length<2^63)=>(by
 dsimp only[rA,LR,As,Az]
 obtain⟨h1,h2⟩:=hx
 (repeat' first|(with_reducible first|rfl|exact True.intro|apply AK|apply And.intro|((first|apply AA|apply AI|apply AB|apply AJ)<;>intro _))|(apply Av<;>intro _)|apply AH|refine Ae () ?_ ?_|((first|apply AO|apply AN|apply AM|apply AL|apply AG|apply AF|apply AE|apply AD|apply AC)<;>try dsimp only)|apply Ae|(refine Prod.forall.2 ?_;intro _;try dsimp only)|(intro _;try dsimp only))<;>(try dsimp only at*)<;>(try simp only[An,List.length_cons,List.length_nil])<;>(try omega)
 ·simp
 ·rename_i h;rw[eq_comm,beq_eq_false_iff_ne];intro e;have:=congrArg List.length e;simp at this;omega)
def NU:Sig:= {X:=List UInt8×List UInt8,args:=fun x=>[.str x.1,.str x.2],pre:=fun x=>x.2.length<2^62∧x.1.length<2^63,Y:=Unit,post:=fun x y=>True,res:=fun x y=> .bool (x.1.take x.2.length==x.2),outs:=fun x y=>[.top,.top],keep:=false}
theorem b1S:Ai G Tryz.prog 193 NU:=
 vcFun_okP [(214,0,LR)] [] false (fun x=>[]) Tryz.func193 rfl (by decide) ⟨b1R,trivial⟩ (fun(x:List UInt8×List UInt8)=>(∀(y:Unit),True→True∧True∧True∧True)∧cA LR [.str x.1,.str x.2] fun x_1 y=>rA NU x [.bool (List.take (x_1.2.length) x_1.1==x_1.2),.top,.top]) (fun x=>by kernel_rfl) fun(x:List UInt8×List UInt8) (hx:x.2.length<2^62∧x.1.length<2^63)=>(by
 dsimp only[cA,rA,NU,LR,As,Az,mvL,lnL,mvE,lnE]
 obtain⟨h1,h2⟩:=hx
 (repeat' first|(with_reducible first|rfl|exact True.intro|apply AK|apply And.intro|((first|apply AA|apply AI|apply AB|apply AJ)<;>intro _))|(apply Av<;>intro _)|apply AH|refine Ae () ?_ ?_|((first|apply AO|apply AN|apply AM|apply AL|apply AG|apply AF|apply AE|apply AD|apply AC)<;>try dsimp only)|apply Ae|(refine Prod.forall.2 ?_;intro _;try dsimp only)|(intro _;try dsimp only))<;>(try dsimp only at*)<;>(try simp only[An,List.length_cons,List.length_nil])<;>(try omega))
end Go.My
end
section
namespace Go.My
open Go.Eng Go.Proofs
variable {G:GInv}
variable {i:Int}{v:Nat}{y:List UInt8}
def CJ:Sig:= {X:=Int×Int×Int,args:=fun x=>[.q x.1,.q x.2.1,.q x.2.2],pre:=fun x=>True,Y:=Unit,post:=fun x y=>True,res:=fun x y=> .bool (inn x.1 x.2.1 x.2.2),outs:=fun x y=>[.top,.top,.top],keep:=false}
theorem JJ:Ai G Tryz.prog 36 CJ:=
 vcFun_okP [] [] false (fun x=>[]) Tryz.func36 rfl (by decide) trivial (fun(x:Int×Int×Int)=>(∀(y:Unit),True→True∧True∧True∧True∧True)∧Aa (decide (x.1≥x.2.1)) (rA CJ x [.bool (decide (x.1≤x.2.2)),.top,.top,.top]) (rA CJ x [.bool false,.top,.top,.top])) (fun x=>by kernel_rfl) fun(x:Int×Int×Int) (hx:True)=>(by
 dsimp only[rA,CJ,As,Az,AV.q]
 (repeat' first|(with_reducible first|rfl|exact True.intro|apply AK|apply And.intro|((first|apply AA|apply AI|apply AB|apply AJ)<;>intro _))|(apply Av<;>intro _)|apply AH|refine Ae () ?_ ?_|((first|apply AO|apply AN|apply AM|apply AL|apply AG|apply AF|apply AE|apply AD|apply AC)<;>try dsimp only)|apply Ae|(refine Prod.forall.2 ?_;intro _;try dsimp only)|(intro _;try dsimp only))<;>(try dsimp only at*)<;>(try simp only[An,List.length_cons,List.length_nil])<;>(try omega)
 all_goals simp [inn, *])
def BU:Sig:= {X:=Int×Int×Int,args:=fun x=>[.q x.1,.q x.2.1,.q x.2.2],pre:=fun x=>True,Y:=Unit,post:=fun x y=>True,res:=fun x y=> .bool (inn x.1 x.2.1 x.2.2),outs:=fun x y=>[.top,.top,.top],keep:=false}
theorem Ir:Ai G Tryz.prog 45 BU:=
 vcFun_okP [] [] false (fun x=>[]) Tryz.func45 rfl (by decide) trivial (fun(x:Int×Int×Int)=>(∀(y:Unit),True→True∧True∧True∧True∧True)∧Aa (decide (x.1≥x.2.1)) (rA BU x [.bool (decide (x.1≤x.2.2)),.top,.top,.top]) (rA BU x [.bool false,.top,.top,.top])) (fun x=>by kernel_rfl) fun(x:Int×Int×Int) (hx:True)=>(by
 dsimp only[rA,BU,As,Az,AV.q]
 (repeat' first|(with_reducible first|rfl|exact True.intro|apply AK|apply And.intro|((first|apply AA|apply AI|apply AB|apply AJ)<;>intro _))|(apply Av<;>intro _)|apply AH|refine Ae () ?_ ?_|((first|apply AO|apply AN|apply AM|apply AL|apply AG|apply AF|apply AE|apply AD|apply AC)<;>try dsimp only)|apply Ae|(refine Prod.forall.2 ?_;intro _;try dsimp only)|(intro _;try dsimp only))<;>(try dsimp only at*)<;>(try simp only[An,List.length_cons,List.length_nil])<;>(try omega)
 all_goals simp [inn, *])
def GW:Sig:= {X:=UInt8,args:=fun x=>[.int .u8 x.toNat],pre:=fun x=>True,Y:=Unit,post:=fun x y=>True,res:=fun x y=> .bool (Bn x),outs:=fun x y=>[.top],keep:=false}
theorem XL:Ai G Tryz.prog 207 GW:=
 vcFun_okP [] [] false (fun x=>[]) Tryz.func207 rfl (by decide) trivial (fun(x:UInt8)=>(∀(y:Unit),True→True∧True∧True)∧Aa (decide ((↑(UInt8.toNat x):Int)≥(48:Int))) (rA GW x [.bool (decide ((↑(UInt8.toNat x):Int)≤(57:Int))),.top]) (rA GW x [.bool false,.top])) (fun x=>by kernel_rfl) fun(x:UInt8) (hx:True)=>(by
 dsimp only[rA,GW,As,Az]
 (repeat' first|(with_reducible first|rfl|exact True.intro|apply AK|apply And.intro|((first|apply AA|apply AI|apply AB|apply AJ)<;>intro _))|(apply Av<;>intro _)|apply AH|refine Ae () ?_ ?_|((first|apply AO|apply AN|apply AM|apply AL|apply AG|apply AF|apply AE|apply AD|apply AC)<;>try dsimp only)|apply Ae|(refine Prod.forall.2 ?_;intro _;try dsimp only)|(intro _;try dsimp only))<;>(try dsimp only at*)<;>(try simp only[An,List.length_cons,List.length_nil])<;>(try omega)
 all_goals(rw[Bool.eq_iff_iff];simp only[Bn,Bool.and_eq_true,Bool.or_eq_true,decide_eq_true_eq,Bool.not_eq_true',decide_eq_false_iff_not,bne_iff_ne,ne_eq,beq_iff_eq,Bool.not_not,reduceCtorEq,Bool.false_eq_true,true_iff,false_iff,iff_true,iff_false,not_true,not_false_eq_true]<;>omega))
def Gk:Sig:= {X:=UInt8,args:=fun x=>[.int .u8 x.toNat],pre:=fun x=>True,Y:=Unit,post:=fun x y=>True,res:=fun x y=> .bool (Bn x),outs:=fun x y=>[.top],keep:=false}
theorem XM:Ai G Tryz.prog 172 Gk:=
 vcFun_okP [] [] false (fun x=>[]) Tryz.func172 rfl (by decide) trivial (fun(x:UInt8)=>(∀(y:Unit),True→True∧True∧True)∧Aa (decide ((↑(UInt8.toNat x):Int)≥(48:Int))) (rA Gk x [.bool (decide ((↑(UInt8.toNat x):Int)≤(57:Int))),.top]) (rA Gk x [.bool false,.top])) (fun x=>by kernel_rfl) fun(x:UInt8) (hx:True)=>(by
 dsimp only[rA,Gk,As,Az]
 (repeat' first|(with_reducible first|rfl|exact True.intro|apply AK|apply And.intro|((first|apply AA|apply AI|apply AB|apply AJ)<;>intro _))|(apply Av<;>intro _)|apply AH|refine Ae () ?_ ?_|((first|apply AO|apply AN|apply AM|apply AL|apply AG|apply AF|apply AE|apply AD|apply AC)<;>try dsimp only)|apply Ae|(refine Prod.forall.2 ?_;intro _;try dsimp only)|(intro _;try dsimp only))<;>(try dsimp only at*)<;>(try simp only[An,List.length_cons,List.length_nil])<;>(try omega)
 all_goals(rw[Bool.eq_iff_iff];simp only[Bn,Bool.and_eq_true,Bool.or_eq_true,decide_eq_true_eq,Bool.not_eq_true',decide_eq_false_iff_not,bne_iff_ne,ne_eq,beq_iff_eq,Bool.not_not,reduceCtorEq,Bool.false_eq_true,true_iff,false_iff,iff_true,iff_false,not_true,not_false_eq_true]<;>omega))
def Gl:Sig:= {X:=UInt8,args:=fun x=>[.int .u8 x.toNat],pre:=fun x=>True,Y:=Unit,post:=fun x y=>True,res:=fun x y=> .bool (Ck x),outs:=fun x y=>[.top],keep:=false}
theorem a3y:Ai G Tryz.prog 204 Gl:=
 vcFun_okP [] [] false (fun x=>[]) Tryz.func204 rfl (by decide) trivial (fun(x:UInt8)=>(∀(y:Unit),True→True∧True∧True)∧Aa (decide ((↑(UInt8.toNat x):Int)≥(97:Int))) (Aa (decide ((↑(UInt8.toNat x):Int)≤(122:Int))) (rA Gl x [.bool true,.top]) (Aa (decide ((↑(UInt8.toNat x):Int)≥(65:Int))) (Aa (decide ((↑(UInt8.toNat x):Int)≤(90:Int))) (rA Gl x [.bool true,.top]) (rA Gl x [.bool ((↑(UInt8.toNat x):Int)==(95:Int)),.top])) (rA Gl x [.bool ((↑(UInt8.toNat x):Int)==(95:Int)),.top]))) (Aa (decide ((↑(UInt8.toNat x):Int)≥(65:Int))) (Aa (decide ((↑(UInt8.toNat x):Int)≤(90:Int))) (rA Gl x [.bool true,.top]) (rA Gl x [.bool ((↑(UInt8.toNat x):Int)==(95:Int)),.top])) (rA Gl x [.bool ((↑(UInt8.toNat x):Int)==(95:Int)),.top]))) (fun x=>by kernel_rfl) fun(x:UInt8) (hx:True)=>(by
 dsimp only[rA,Gl,As,Az]
 (repeat' first|(with_reducible first|rfl|exact True.intro|apply AK|apply And.intro|((first|apply AA|apply AI|apply AB|apply AJ)<;>intro _))|(apply Av<;>intro _)|apply AH|refine Ae () ?_ ?_|((first|apply AO|apply AN|apply AM|apply AL|apply AG|apply AF|apply AE|apply AD|apply AC)<;>try dsimp only)|apply Ae|(refine Prod.forall.2 ?_;intro _;try dsimp only)|(intro _;try dsimp only))<;>(try dsimp only at*)<;>(try simp only[An,List.length_cons,List.length_nil])<;>(try omega)
 all_goals(rw[Bool.eq_iff_iff];simp only[Ck,Bool.and_eq_true,Bool.or_eq_true,decide_eq_true_eq,Bool.not_eq_true',decide_eq_false_iff_not,bne_iff_ne,ne_eq,beq_iff_eq,Bool.not_not,reduceCtorEq,Bool.false_eq_true,true_iff,false_iff,iff_true,iff_false,not_true,not_false_eq_true]<;>omega))
def Fy:Sig:= {X:=UInt8,args:=fun x=>[.int .u8 x.toNat],pre:=fun x=>True,Y:=Unit,post:=fun x y=>True,res:=fun x y=> .bool (Ck x),outs:=fun x y=>[.top],keep:=false}
theorem a3z:Ai G Tryz.prog 171 Fy:=
 vcFun_okP [] [] false (fun x=>[]) Tryz.func171 rfl (by decide) trivial (fun(x:UInt8)=>(∀(y:Unit),True→True∧True∧True)∧Aa (decide ((↑(UInt8.toNat x):Int)≥(97:Int))) (Aa (decide ((↑(UInt8.toNat x):Int)≤(122:Int))) (rA Fy x [.bool true,.top]) (Aa (decide ((↑(UInt8.toNat x):Int)≥(65:Int))) (Aa (decide ((↑(UInt8.toNat x):Int)≤(90:Int))) (rA Fy x [.bool true,.top]) (rA Fy x [.bool ((↑(UInt8.toNat x):Int)==(95:Int)),.top])) (rA Fy x [.bool ((↑(UInt8.toNat x):Int)==(95:Int)),.top]))) (Aa (decide ((↑(UInt8.toNat x):Int)≥(65:Int))) (Aa (decide ((↑(UInt8.toNat x):Int)≤(90:Int))) (rA Fy x [.bool true,.top]) (rA Fy x [.bool ((↑(UInt8.toNat x):Int)==(95:Int)),.top])) (rA Fy x [.bool ((↑(UInt8.toNat x):Int)==(95:Int)),.top]))) (fun x=>by kernel_rfl) fun(x:UInt8) (hx:True)=>(by
 dsimp only[rA,Fy,As,Az]
 (repeat' first|(with_reducible first|rfl|exact True.intro|apply AK|apply And.intro|((first|apply AA|apply AI|apply AB|apply AJ)<;>intro _))|(apply Av<;>intro _)|apply AH|refine Ae () ?_ ?_|((first|apply AO|apply AN|apply AM|apply AL|apply AG|apply AF|apply AE|apply AD|apply AC)<;>try dsimp only)|apply Ae|(refine Prod.forall.2 ?_;intro _;try dsimp only)|(intro _;try dsimp only))<;>(try dsimp only at*)<;>(try simp only[An,List.length_cons,List.length_nil])<;>(try omega)
 all_goals(rw[Bool.eq_iff_iff];simp only[Ck,Bool.and_eq_true,Bool.or_eq_true,decide_eq_true_eq,Bool.not_eq_true',decide_eq_false_iff_not,bne_iff_ne,ne_eq,beq_iff_eq,Bool.not_not,reduceCtorEq,Bool.false_eq_true,true_iff,false_iff,iff_true,iff_false,not_true,not_false_eq_true]<;>omega))
def LT:Sig:= {X:=UInt8,args:=fun x=>[.int .u8 x.toNat],pre:=fun x=>True,Y:=Unit,post:=fun x y=>True,res:=fun x y=> .bool (BM x),outs:=fun x y=>[.top],keep:=false}
theorem b1T:Ai G Tryz.prog 206 LT:=
 vcFun_okP [(204,0,Gl),(207,0,GW)] [] false (fun x=>[]) Tryz.func206 rfl (by decide) ⟨a3y,XL,trivial⟩ (fun(x:UInt8)=>(∀(y:Unit),True→True∧True∧True)∧cA Gl [AV.int IntKind.u8 (↑(UInt8.toNat x):Int)] fun x_1 y=>Aa (Ck x_1) (rA LT x [.bool true,.top]) (cA GW [AV.int IntKind.u8 (↑(UInt8.toNat x):Int)] fun x_2 y=>rA LT x [.bool (Bn x_2),.top])) (fun x=>by kernel_rfl) fun(x:UInt8) (hx:True)=>(by
 dsimp only[cA,rA,GW,Gl,LT,As,Az,mvL,lnL,mvE,lnE]
 (repeat' first|(with_reducible first|rfl|exact True.intro|apply AK|apply And.intro|((first|apply AA|apply AI|apply AB|apply AJ)<;>intro _))|(apply Av<;>intro _)|apply AH|refine Ae () ?_ ?_|((first|apply AO|apply AN|apply AM|apply AL|apply AG|apply AF|apply AE|apply AD|apply AC)<;>try dsimp only)|apply Ae|(refine Prod.forall.2 ?_;intro _;try dsimp only)|(intro _;try dsimp only))<;>(try dsimp only at*)<;>(try simp only[An,List.length_cons,List.length_nil])<;>(try omega)
 all_goals simp [BM, *])
def GX:Sig:= {X:=UInt8,args:=fun x=>[.int .u8 x.toNat],pre:=fun x=>True,Y:=Unit,post:=fun x y=>True,res:=fun x y=> .bool (BJ x),outs:=fun x y=>[.top],keep:=false}
theorem XN:Ai G Tryz.prog 85 GX:=
 vcFun_okP [] [] false (fun x=>[]) Tryz.func85 rfl (by decide) trivial (fun(x:UInt8)=>(∀(y:Unit),True→True∧True∧True)∧Aa (decide ((↑(UInt8.toNat x):Int)≥(32:Int))) (rA GX x [.bool (decide ((↑(UInt8.toNat x):Int)≤(126:Int))),.top]) (rA GX x [.bool false,.top])) (fun x=>by kernel_rfl) fun(x:UInt8) (hx:True)=>(by
 dsimp only[rA,GX,As,Az]
 (repeat' first|(with_reducible first|rfl|exact True.intro|apply AK|apply And.intro|((first|apply AA|apply AI|apply AB|apply AJ)<;>intro _))|(apply Av<;>intro _)|apply AH|refine Ae () ?_ ?_|((first|apply AO|apply AN|apply AM|apply AL|apply AG|apply AF|apply AE|apply AD|apply AC)<;>try dsimp only)|apply Ae|(refine Prod.forall.2 ?_;intro _;try dsimp only)|(intro _;try dsimp only))<;>(try dsimp only at*)<;>(try simp only[An,List.length_cons,List.length_nil])<;>(try omega)
 all_goals(rw[Bool.eq_iff_iff];simp only[BJ,Bool.and_eq_true,Bool.or_eq_true,decide_eq_true_eq,Bool.not_eq_true',decide_eq_false_iff_not,bne_iff_ne,ne_eq,beq_iff_eq,Bool.not_not,reduceCtorEq,Bool.false_eq_true,true_iff,false_iff,iff_true,iff_false,not_true,not_false_eq_true]<;>omega))
def NV:Sig:= {X:=UInt8,args:=fun x=>[.int .u8 x.toNat],pre:=fun x=>True,Y:=Unit,post:=fun x y=>True,res:=fun x y=> .bool (Cj x),outs:=fun x y=>[.top],keep:=false}
theorem b1U:Ai G Tryz.prog 209 NV:=
 vcFun_okP [] [] false (fun x=>[]) Tryz.func209 rfl (by decide) trivial (fun(x:UInt8)=>(∀(y:Unit),True→True∧True∧True)∧rA NV x [.bool ((↑(UInt8.toNat x):Int) != (10:Int)),.top]) (fun x=>by kernel_rfl) fun(x:UInt8) (hx:True)=>(by
 dsimp only[rA,NV,As,Az]
 (repeat' first|(with_reducible first|rfl|exact True.intro|apply AK|apply And.intro|((first|apply AA|apply AI|apply AB|apply AJ)<;>intro _))|(apply Av<;>intro _)|apply AH|refine Ae () ?_ ?_|((first|apply AO|apply AN|apply AM|apply AL|apply AG|apply AF|apply AE|apply AD|apply AC)<;>try dsimp only)|apply Ae|(refine Prod.forall.2 ?_;intro _;try dsimp only)|(intro _;try dsimp only))<;>(try dsimp only at*)<;>(try simp only[An,List.length_cons,List.length_nil])<;>(try omega)
 all_goals(rw[Bool.eq_iff_iff];simp only[Cj,Bool.and_eq_true,Bool.or_eq_true,decide_eq_true_eq,Bool.not_eq_true',decide_eq_false_iff_not,bne_iff_ne,ne_eq,beq_iff_eq,Bool.not_not,reduceCtorEq,Bool.false_eq_true,true_iff,false_iff,iff_true,iff_false,not_true,not_false_eq_true]<;>omega))
def EG(p:UInt8→Bool)(x:List UInt8)(rs:Int→List (Nat×AV)):LS:= {
 ι:=Int,inv:=fun i=>0≤i∧i≤x.length∧∀e∈x.take i.toNat,p e=true,regs:=rs,als:=[],meas:=fun i=>x.length-i.toNat}
def Fz:Sig:= {X:=List UInt8,args:=fun x=>[.str x],pre:=fun x=>x.length<2^63,Y:=Unit,post:=fun x y=>True,res:=fun x y=> .bool (x.all BJ),outs:=fun x y=>[.top],keep:=false}
theorem SC:Ai G Tryz.prog 77 Fz:=
 vcFun_okP [] [] false (fun x=>[(2,EG BJ x fun i=>[(0,.str x),(3,.q i)])]) Tryz.func77 rfl (by decide) trivial (fun(x:List UInt8)=>(∀(y:Unit),True→True∧True∧True)∧eA (EG BJ x fun(i:Int)=>[((0:Nat),.str x),((3:Nat),.q i)]) [.str x,.q 0]∧∀(i:Int),(0≤i∧i≤(x.length:Int)∧∀(e:UInt8),e∈List.take (Int.toNat i) x→BJ e=true)→Aa (decide (i<(x.length:Int))) ((0≤i∧i<(x.length:Int))∧∀(c:UInt8),x[Int.toNat i]? =some c→Aa (decide ((↑(UInt8.toNat c):Int)<(32:Int))) (rA Fz x [.bool false,.top]) ((0≤i∧i<(x.length:Int))∧∀(c:UInt8),x[Int.toNat i]? =some c→Aa (decide ((↑(UInt8.toNat c):Int)>(126:Int))) (rA Fz x [.bool false,.top]) (inR .i64 (i+1)∧eN (EG BJ x fun(i:Int)=>[((0:Nat),.str x),((3:Nat),.q i)]) i [.str x,.q (i+1)]))) (rA Fz x [.bool true,.top])) (fun x=>by kernel_rfl) fun(x:List UInt8) (hx:x.length<2^63)=>(by
 dsimp only[eA,eN,EG,rA,Fz,As,Az,Bl,AV.q]
 (repeat' first|(with_reducible first|rfl|exact True.intro|apply AK|apply And.intro|((first|apply AA|apply AI|apply AB|apply AJ)<;>intro _))|(apply Av<;>intro _)|apply AH|refine Ae () ?_ ?_|((first|apply AO|apply AN|apply AM|apply AL|apply AG|apply AF|apply AE|apply AD|apply AC)<;>try dsimp only)|apply Ae|(refine Prod.forall.2 ?_;intro _;try dsimp only)|(intro _;try dsimp only))<;>(try dsimp only at*)<;>(try simp only[An,List.length_cons,List.length_nil])<;>(try omega)
 ·rename_i h;simp at h
 ·rename_i i hi hl c hc h;exact(Sy hc (by(rw[Bool.eq_iff_iff];simp only[BJ,Bool.and_eq_true,Bool.or_eq_true,decide_eq_true_eq,Bool.not_eq_true',decide_eq_false_iff_not,bne_iff_ne,ne_eq,beq_iff_eq,Bool.not_not,reduceCtorEq,Bool.false_eq_true,true_iff,false_iff,iff_true,iff_false,not_true,not_false_eq_true]<;>omega))).symm
 ·rename_i i hi hl c hc h d hd h2;exact(Sy hd (by(rw[Bool.eq_iff_iff];simp only[BJ,Bool.and_eq_true,Bool.or_eq_true,decide_eq_true_eq,Bool.not_eq_true',decide_eq_false_iff_not,bne_iff_ne,ne_eq,beq_iff_eq,Bool.not_not,reduceCtorEq,Bool.false_eq_true,true_iff,false_iff,iff_true,iff_false,not_true,not_false_eq_true]<;>omega))).symm
 ·rename_i i hi hl c hc h d hd h2 e he
  rw[hc] at hd;cases hd
  rw[Dd hi.1] at he;exact Qh hi.2.2 hc (by(rw[Bool.eq_iff_iff];simp only[BJ,Bool.and_eq_true,Bool.or_eq_true,decide_eq_true_eq,Bool.not_eq_true',decide_eq_false_iff_not,bne_iff_ne,ne_eq,beq_iff_eq,Bool.not_not,reduceCtorEq,Bool.false_eq_true,true_iff,false_iff,iff_true,iff_false,not_true,not_false_eq_true]<;>omega)) e he
 ·rename_i i hi hl;exact(XF hi.2.2 (by omega)).symm)
def LU:Sig:= {X:=List UInt8,args:=fun x=>[.str x,.clo (.func 206) []],pre:=fun x=>x.length<2^63,Y:=Unit,post:=fun x y=>True,res:=fun x y=> .str (x.takeWhile BM),outs:=fun x y=>[.top,.top],keep:=false}
theorem b1V:Ai G Tryz.prog 205 LU:=
 vcFun_okP [(206,0,LT)] [] false (fun x=>[(2,EG BM x fun i=>[(0,.str x),(1,.clo (.func 206) []),(5,.q i)])]) Tryz.func205 rfl (by decide) ⟨b1T,trivial⟩ (fun(x:List UInt8)=>(∀(y:Unit),True→True∧True∧True∧True)∧eA (EG BM x fun(i:Int)=>[((0:Nat),.str x),((1:Nat),AV.clo (Fn.func (84:FuncId)) []),((5:Nat),.q i)]) [.str x,AV.clo (Fn.func (84:FuncId)) [],.q 0]∧∀(i:Int),(0≤i∧i≤(x.length:Int)∧∀(e:UInt8),e∈List.take (Int.toNat i) x→BM e=true)→Aa (decide (i<(x.length:Int))) ((0≤i∧i<(x.length:Int))∧∀(c:UInt8),x[Int.toNat i]? =some c→cA LT [AV.int IntKind.u8 (↑(UInt8.toNat c):Int)] fun x_1 y=>Aa (BM x_1) (inR .i64 (i+1)∧eN (EG BM x fun(i:Int)=>[((0:Nat),.str x),((1:Nat),AV.clo (Fn.func (84:FuncId)) []),((5:Nat),.q i)]) i [.str x,AV.clo (Fn.func (84:FuncId)) [],.q (i+1)]) (((0:Int)≤(0:Int)∧0≤i∧i≤(x.length:Int))∧rA LU x [.str (List.take (Int.toNat i) x),.top,.top])) (((0:Int)≤(0:Int)∧0≤i∧i≤(x.length:Int))∧rA LU x [.str (List.take (Int.toNat i) x),.top,.top])) (fun x=>by kernel_rfl) fun(x:List UInt8) (hx:x.length<2^63)=>(by
 dsimp only[cA,eA,eN,EG,rA,LT,LU,As,Az,mvL,lnL,mvE,lnE,Bl,AV.q]
 (repeat' first|(with_reducible first|rfl|exact True.intro|apply AK|apply And.intro|((first|apply AA|apply AI|apply AB|apply AJ)<;>intro _))|(apply Av<;>intro _)|apply AH|refine Ae () ?_ ?_|((first|apply AO|apply AN|apply AM|apply AL|apply AG|apply AF|apply AE|apply AD|apply AC)<;>try dsimp only)|apply Ae|(refine Prod.forall.2 ?_;intro _;try dsimp only)|(intro _;try dsimp only))<;>(try dsimp only at*)<;>(try simp only[An,List.length_cons,List.length_nil])<;>(try omega)
 ·rename_i h;simp at h
 ·rename_i i hi hl c hc y _ hp e he
  rw[Dd hi.1] at he;exact Qh hi.2.2 hc hp e he
 ·rename_i i hi hl c hc y _ hp
  exact JH hi.2.2 (.inr ⟨c,hc,hp⟩)
 ·rename_i i hi hl
  exact JH hi.2.2 (.inl (by omega)))
def LV:Sig:= {X:=List UInt8,args:=fun x=>[.str x,.clo (.func 207) []],pre:=fun x=>x.length<2^63,Y:=Unit,post:=fun x y=>True,res:=fun x y=> .str (x.takeWhile Bn),outs:=fun x y=>[.top,.top],keep:=false}
theorem b1W:Ai G Tryz.prog 205 LV:=
 vcFun_okP [(207,0,GW)] [] false (fun x=>[(2,EG Bn x fun i=>[(0,.str x),(1,.clo (.func 207) []),(5,.q i)])]) Tryz.func205 rfl (by decide) ⟨XL,trivial⟩ (fun(x:List UInt8)=>(∀(y:Unit),True→True∧True∧True∧True)∧eA (EG Bn x fun(i:Int)=>[((0:Nat),.str x),((1:Nat),AV.clo (Fn.func (85:FuncId)) []),((5:Nat),.q i)]) [.str x,AV.clo (Fn.func (85:FuncId)) [],.q 0]∧∀(i:Int),(0≤i∧i≤(x.length:Int)∧∀(e:UInt8),e∈List.take (Int.toNat i) x→Bn e=true)→Aa (decide (i<(x.length:Int))) ((0≤i∧i<(x.length:Int))∧∀(c:UInt8),x[Int.toNat i]? =some c→cA GW [AV.int IntKind.u8 (↑(UInt8.toNat c):Int)] fun x_1 y=>Aa (Bn x_1) (inR .i64 (i+1)∧eN (EG Bn x fun(i:Int)=>[((0:Nat),.str x),((1:Nat),AV.clo (Fn.func (85:FuncId)) []),((5:Nat),.q i)]) i [.str x,AV.clo (Fn.func (85:FuncId)) [],.q (i+1)]) (((0:Int)≤(0:Int)∧0≤i∧i≤(x.length:Int))∧rA LV x [.str (List.take (Int.toNat i) x),.top,.top])) (((0:Int)≤(0:Int)∧0≤i∧i≤(x.length:Int))∧rA LV x [.str (List.take (Int.toNat i) x),.top,.top])) (fun x=>by kernel_rfl) fun(x:List UInt8) (hx:x.length<2^63)=>(by
 dsimp only[cA,eA,eN,EG,rA,GW,LV,As,Az,mvL,lnL,mvE,lnE,Bl,AV.q]
 (repeat' first|(with_reducible first|rfl|exact True.intro|apply AK|apply And.intro|((first|apply AA|apply AI|apply AB|apply AJ)<;>intro _))|(apply Av<;>intro _)|apply AH|refine Ae () ?_ ?_|((first|apply AO|apply AN|apply AM|apply AL|apply AG|apply AF|apply AE|apply AD|apply AC)<;>try dsimp only)|apply Ae|(refine Prod.forall.2 ?_;intro _;try dsimp only)|(intro _;try dsimp only))<;>(try dsimp only at*)<;>(try simp only[An,List.length_cons,List.length_nil])<;>(try omega)
 ·rename_i h;simp at h
 ·rename_i i hi hl c hc y _ hp e he
  rw[Dd hi.1] at he;exact Qh hi.2.2 hc hp e he
 ·rename_i i hi hl c hc y _ hp
  exact JH hi.2.2 (.inr ⟨c,hc,hp⟩)
 ·rename_i i hi hl
  exact JH hi.2.2 (.inl (by omega)))
def LW:Sig:= {X:=List UInt8,args:=fun x=>[.str x,.clo (.func 209) []],pre:=fun x=>x.length<2^63,Y:=Unit,post:=fun x y=>True,res:=fun x y=> .str (x.takeWhile Cj),outs:=fun x y=>[.top,.top],keep:=false}
theorem b1X:Ai G Tryz.prog 205 LW:=
 vcFun_okP [(209,0,NV)] [] false (fun x=>[(2,EG Cj x fun i=>[(0,.str x),(1,.clo (.func 209) []),(5,.q i)])]) Tryz.func205 rfl (by decide) ⟨b1U,trivial⟩ (fun(x:List UInt8)=>(∀(y:Unit),True→True∧True∧True∧True)∧eA (EG Cj x fun(i:Int)=>[((0:Nat),.str x),((1:Nat),AV.clo (Fn.func (88:FuncId)) []),((5:Nat),.q i)]) [.str x,AV.clo (Fn.func (88:FuncId)) [],.q 0]∧∀(i:Int),(0≤i∧i≤(x.length:Int)∧∀(e:UInt8),e∈List.take (Int.toNat i) x→Cj e=true)→Aa (decide (i<(x.length:Int))) ((0≤i∧i<(x.length:Int))∧∀(c:UInt8),x[Int.toNat i]? =some c→cA NV [AV.int IntKind.u8 (↑(UInt8.toNat c):Int)] fun x_1 y=>Aa (Cj x_1) (inR .i64 (i+1)∧eN (EG Cj x fun(i:Int)=>[((0:Nat),.str x),((1:Nat),AV.clo (Fn.func (88:FuncId)) []),((5:Nat),.q i)]) i [.str x,AV.clo (Fn.func (88:FuncId)) [],.q (i+1)]) (((0:Int)≤(0:Int)∧0≤i∧i≤(x.length:Int))∧rA LW x [.str (List.take (Int.toNat i) x),.top,.top])) (((0:Int)≤(0:Int)∧0≤i∧i≤(x.length:Int))∧rA LW x [.str (List.take (Int.toNat i) x),.top,.top])) (fun x=>by kernel_rfl) fun(x:List UInt8) (hx:x.length<2^63)=>(by
 dsimp only[cA,eA,eN,EG,rA,LW,NV,As,Az,mvL,lnL,mvE,lnE,Bl,AV.q]
 (repeat' first|(with_reducible first|rfl|exact True.intro|apply AK|apply And.intro|((first|apply AA|apply AI|apply AB|apply AJ)<;>intro _))|(apply Av<;>intro _)|apply AH|refine Ae () ?_ ?_|((first|apply AO|apply AN|apply AM|apply AL|apply AG|apply AF|apply AE|apply AD|apply AC)<;>try dsimp only)|apply Ae|(refine Prod.forall.2 ?_;intro _;try dsimp only)|(intro _;try dsimp only))<;>(try dsimp only at*)<;>(try simp only[An,List.length_cons,List.length_nil])<;>(try omega)
 ·rename_i h;simp at h
 ·rename_i i hi hl c hc y _ hp e he
  rw[Dd hi.1] at he;exact Qh hi.2.2 hc hp e he
 ·rename_i i hi hl c hc y _ hp
  exact JH hi.2.2 (.inr ⟨c,hc,hp⟩)
 ·rename_i i hi hl
  exact JH hi.2.2 (.inl (by omega)))
def byA:UInt8→List AV:=fun c=>[.int .u8 c.toNat]
theorem DM(c:UInt8):byA c=[.int .u8 c.toNat]:=rfl
def byL(l:List UInt8):AV:= .sl false 0 1 UInt8 byA l
def cur(b:List UInt8)(i h:Int):List AV:=[.sl false 0 1 UInt8 byA b,.int .i64 i,.int .i64 h]
def Af(b:List UInt8)(i:Int):Prop:=(0≤i∧i≤b.length)∧b.length≤2^21
theorem XO{n:Int}(h1: -9223372036854775808≤n)(h2:n≤9223372036854775807):IntKind.i64.wrap n=n:=RQ ⟨by simp [IntKind.min,IntKind.bits,IntKind.signed];omega,by simp [IntKind.max,IntKind.bits,IntKind.signed];omega⟩
theorem a3A(a:Int):0≤En .and .i64 a 255∧En .and .i64 a 255≤255:=by
 unfold En
 have h:(BitVec.ofInt IntKind.i64.bits a&&& BitVec.ofInt IntKind.i64.bits 255).toNat≤255:=by
  rw[BitVec.toNat_and]
  exact Nat.le_trans Nat.and_le_right (by decide)
 simp only
 rw[XO (by omega) (by omega)]
 omega
theorem XP(a:Int):0≤En .and .i64 a 1073741823∧En .and .i64 a 1073741823≤1073741823:=by
 unfold En
 have h:(BitVec.ofInt IntKind.i64.bits a&&& BitVec.ofInt IntKind.i64.bits 1073741823).toNat≤1073741823:=by
  rw[BitVec.toNat_and]
  exact Nat.le_trans Nat.and_le_right (by decide)
 simp only
 rw[XO (by omega) (by omega)]
 omega
theorem LX{a n:Int}(h0:0≤a)(hn:0<n):0≤a.tmod n∧a.tmod n<n:=⟨Int.tmod_nonneg n h0,Int.tmod_lt_of_pos a hn⟩
def It:Sig:= {X:=List UInt8×Int×Int,args:=fun x=>[.box 0 (cur x.1 x.2.1 x.2.2)],pre:=fun x=>Af x.1 x.2.1,Y:=Int×Int×Int,post:=fun x y=>(0≤y.1∧y.1≤255)∧Af x.1 y.2.1,res:=fun x y=> .q y.1,outs:=fun x y=>[.box 0 (cur x.1 y.2.1 y.2.2)],keep:=true}
theorem b1Y:Ai G Tryz.prog 110 It:=
 vcFun_okP [] [] true (fun x=>[]) Tryz.func110 rfl (by decide) trivial (fun(x:List UInt8×Int×Int)=>True∧true=true∧true=true∧(0:Int)≤(33:Int)∧(0:Int)≤(45:Int)∧true=true∧true=true∧Aa (decide (x.2.1<(x.1.length:Int))) (true=true∧true=true∧(0≤x.2.1∧x.2.1<(x.1.length:Int))∧∀(e:UInt8),x.1[Int.toNat x.2.1]? =some e→rA It x [.q (En BinOp.and IntKind.i64 (IntKind.wrap IntKind.i64 (En BinOp.and IntKind.i64 (En BinOp.xor IntKind.i64 (shI false IntKind.i64 (IntKind.wrap IntKind.i64 (IntKind.wrap IntKind.i64 (x.2.2*(6364136223846793005:Int))+1442695040888963407)) (33:Int)) (shI false IntKind.i64 (IntKind.wrap IntKind.i64 (IntKind.wrap IntKind.i64 (x.2.2*(6364136223846793005:Int))+1442695040888963407)) (45:Int))) (255:Int)+IntKind.wrap IntKind.i64 (↑(UInt8.toNat e):Int))) (255:Int)),.box 0 [byL x.1,.q (IntKind.wrap IntKind.i64 (x.2.1+(1:Int))),.q (IntKind.wrap IntKind.i64 (IntKind.wrap IntKind.i64 (x.2.2*(6364136223846793005:Int))+1442695040888963407))]]) (rA It x [.q (En BinOp.and IntKind.i64 (En BinOp.xor IntKind.i64 (shI false IntKind.i64 (IntKind.wrap IntKind.i64 (IntKind.wrap IntKind.i64 (x.2.2*(6364136223846793005:Int))+1442695040888963407)) (33:Int)) (shI false IntKind.i64 (IntKind.wrap IntKind.i64 (IntKind.wrap IntKind.i64 (x.2.2*(6364136223846793005:Int))+1442695040888963407)) (45:Int))) (255:Int)),.box 0 [byL x.1,.q x.2.1,.q (IntKind.wrap IntKind.i64 (IntKind.wrap IntKind.i64 (x.2.2*(6364136223846793005:Int))+1442695040888963407))]])) (fun x=>by kernel_rfl) fun(x:List UInt8×Int×Int) (hx:Af x.1 x.2.1)=>(by
 dsimp only[DM,byL,cur,rA,It,As,Az,AV.q]
 obtain⟨b,i,h⟩:=x;dsimp only at hx ⊢
 have hx:Af b i:=hx
 have hb:=hx.1;have hl:=hx.2
 (repeat' first|(with_reducible first|rfl|exact True.intro|apply AK|apply And.intro|((first|apply AA|apply AI|apply AB|apply AJ)<;>intro _))|(apply Av<;>intro _)|apply AH|refine Ae () ?_ ?_|((first|apply AO|apply AN|apply AM|apply AL|apply AG|apply AF|apply AE|apply AD|apply AC)<;>try dsimp only)|apply Ae|(refine Prod.forall.2 ?_;intro _;try dsimp only)|(intro _;try dsimp only))
 all_goals first
  |rfl
  |omega
  |exact(a3A _).1
  |exact(a3A _).2
  |exact hx
  |(rw[XO (by omega) (by omega)];exact⟨by omega,hl⟩)
  |skip)
def Ec:Sig:= {X:=List UInt8×Int×Int×Int,args:=fun x=>[.box 0 (cur x.1 x.2.1 x.2.2.1),.q x.2.2.2],pre:=fun x=>Af x.1 x.2.1,Y:=Int×Int×Int,post:=fun x y=>((0<x.2.2.2→0≤y.1∧y.1<x.2.2.2)∧(x.2.2.2≤0→y.1=0))∧Af x.1 y.2.1,res:=fun x y=> .q y.1,outs:=fun x y=>[.box 0 (cur x.1 y.2.1 y.2.2),.top],keep:=true}
theorem HK:Ai G Tryz.prog 75 Ec:=
 vcFun_okP [(110,0,It)] [] false (fun x=>[]) Tryz.func75 rfl (by decide) ⟨b1Y,trivial⟩ (fun(x:List UInt8×Int×Int×Int)=>True∧Aa (decide (x.2.2.2≤(0:Int))) (rA Ec x [.q 0,.box 0 (cur x.1 x.2.1 x.2.2.1),.top]) (Aa (decide (x.2.2.2≤(256:Int))) (cA It [.box 0 (cur x.1 x.2.1 x.2.2.1)] fun x_1 y=>x.2.2.2≠(0:Int)∧rA Ec x [.q (Int.tmod y.1 x.2.2.2),.box 0 (cur x_1.1 y.2.1 y.2.2),.top]) (cA It [.box 0 (cur x.1 x.2.1 x.2.2.1)] fun x_1 y=>cA It [.box 0 (cur x_1.1 y.2.1 y.2.2)] fun x_2 y_1=>cA It [.box 0 (cur x_2.1 y_1.2.1 y_1.2.2)] fun x_3 y_2=>cA It [.box 0 (cur x_3.1 y_2.2.1 y_2.2.2)] fun x_4 y_3=>inR .i64 (y.1*(16777216:Int))∧inR .i64 (y_1.1*(65536:Int))∧inR .i64 (y.1*(16777216:Int)+y_1.1*(65536:Int))∧inR .i64 (y_2.1*(256:Int))∧inR .i64 (y.1*(16777216:Int)+y_1.1*(65536:Int)+y_2.1*(256:Int))∧inR .i64 (y.1*(16777216:Int)+y_1.1*(65536:Int)+y_2.1*(256:Int)+y_3.1)∧x.2.2.2≠(0:Int)∧rA Ec x [.q (Int.tmod (y.1*(16777216:Int)+y_1.1*(65536:Int)+y_2.1*(256:Int)+y_3.1) x.2.2.2),.box 0 (cur x_4.1 y_3.2.1 y_3.2.2),.top]))) (fun x=>by kernel_rfl) fun(x:List UInt8×Int×Int×Int) (hx:Af x.1 x.2.1)=>(by
 dsimp only[DM,cA,cur,rA,Ec,It,As,Az,mvL,lnL,mvE,lnE,AV.q]
 obtain⟨b,i,h,n⟩:=x;dsimp only at hx ⊢
 have hx:Af b i:=hx
 (repeat' first|(with_reducible first|rfl|exact True.intro|apply AK|apply And.intro|((first|apply AA|apply AI|apply AB|apply AJ)<;>intro _))|(apply Av<;>intro _)|apply AH|refine Ae () ?_ ?_|((first|apply AO|apply AN|apply AM|apply AL|apply AG|apply AF|apply AE|apply AD|apply AC)<;>try dsimp only)|apply Ae|(refine Prod.forall.2 ?_;intro _;try dsimp only)|(intro _;try dsimp only))
 all_goals(repeat(rename(_∧_)∧Af _ _=>hq;obtain⟨⟨_,_⟩,_⟩:=hq))
 all_goals first
  |rfl
  |assumption
  |omega
  |exact(LX (by omega) (by omega)).1
  |exact(LX (by omega) (by omega)).2
  |skip)
def KM:Sig:= {X:=List UInt8×Int×Int×Int,args:=fun x=>[.box 0 (cur x.1 x.2.1 x.2.2.1),.q x.2.2.2],pre:=fun x=>Af x.1 x.2.1,Y:=Bool×Int×Int,post:=fun x y=>Af x.1 y.2.1,res:=fun x y=> .bool y.1,outs:=fun x y=>[.box 0 (cur x.1 y.2.1 y.2.2),.top],keep:=true}
theorem Qj:Ai G Tryz.prog 74 KM:=
 vcFun_okP [(75,0,Ec)] [] false (fun x=>[]) Tryz.func74 rfl (by decide) ⟨HK,trivial⟩ (fun(x:List UInt8×Int×Int×Int)=>True∧cA Ec [.box 0 (cur x.1 x.2.1 x.2.2.1),.q x.2.2.2] fun x_1 y=>rA KM x [.bool (y.1==(0:Int)),.box 0 (cur x_1.1 y.2.1 y.2.2),.top]) (fun x=>by kernel_rfl) fun(x:List UInt8×Int×Int×Int) (hx:Af x.1 x.2.1)=>(by
 dsimp only[DM,cA,cur,rA,Ec,KM,As,Az,mvL,lnL,mvE,lnE,AV.q]
 obtain⟨b,i,h,n⟩:=x;dsimp only at hx ⊢
 have hx:Af b i:=hx
 (repeat' first|(with_reducible first|rfl|exact True.intro|apply AK|apply And.intro|((first|apply AA|apply AI|apply AB|apply AJ)<;>intro _))|(apply Av<;>intro _)|apply AH|refine Ae () ?_ ?_|((first|apply AO|apply AN|apply AM|apply AL|apply AG|apply AF|apply AE|apply AD|apply AC)<;>try dsimp only)|apply Ae|(refine Prod.forall.2 ?_;intro _;try dsimp only)|(intro _;try dsimp only))
 all_goals(repeat(rename(_∧_)∧Af _ _=>hq;obtain⟨⟨_,_⟩,_⟩:=hq))
 all_goals first
  |rfl
  |assumption
  |skip)
def Jh:Sig:= {X:=List UInt8×Int×Int×List (List UInt8),args:=fun x=>[.box 0 (cur x.1 x.2.1 x.2.2.1),.sl false 0 1 (List UInt8) Be x.2.2.2],pre:=fun x=>Af x.1 x.2.1∧x.2.2.2≠[]∧x.2.2.2.length<2^30,Y:=List UInt8×Int×Int,post:=fun x y=>y.1∈x.2.2.2∧Af x.1 y.2.1,res:=fun x y=> .str y.1,outs:=fun x y=>[.box 0 (cur x.1 y.2.1 y.2.2),.top],keep:=true}
theorem LY:Ai G Tryz.prog 40 Jh:=
 vcFun_okP [(75,0,Ec)] [] false (fun x=>[]) Tryz.func40 rfl (by decide) ⟨HK,trivial⟩ (fun(x:List UInt8×Int×Int×List (List UInt8))=>True∧cA Ec [.box 0 (cur x.1 x.2.1 x.2.2.1),.q (x.2.2.2.length:Int)] fun x_1 y=>(0≤y.1∧y.1<(x.2.2.2.length:Int))∧∀(e:List UInt8),x.2.2.2[Int.toNat y.1]? =some e→rA Jh x [.str e,.box 0 (cur x_1.1 y.2.1 y.2.2),.top]) (fun x=>by kernel_rfl) fun(x:List UInt8×Int×Int×List (List UInt8)) (hx:Af x.1 x.2.1∧x.2.2.2≠[]∧x.2.2.2.length<2^30)=>(by
 dsimp only[DM,cA,cur,rA,Ec,Jh,As,Az,mvL,lnL,mvE,lnE,AV.q]
 obtain⟨b,i,h,l⟩:=x;dsimp only at hx ⊢
 obtain⟨hx,hn,hl⟩:=hx
 have hp:0<l.length:=by cases l with|nil=>exact(hn rfl).elim|cons _ _=>simp
 (repeat' first|(with_reducible first|rfl|exact True.intro|apply AK|apply And.intro|((first|apply AA|apply AI|apply AB|apply AJ)<;>intro _))|(apply Av<;>intro _)|apply AH|refine Ae () ?_ ?_|((first|apply AO|apply AN|apply AM|apply AL|apply AG|apply AF|apply AE|apply AD|apply AC)<;>try dsimp only)|apply Ae|(refine Prod.forall.2 ?_;intro _;try dsimp only)|(intro _;try dsimp only))
 all_goals(repeat(rename(_∧_)∧Af _ _=>hq;obtain⟨⟨_,_⟩,_⟩:=hq))
 all_goals first
  |rfl
  |assumption
  |exact Bm ‹_›
  |omega
  |skip)
structure Md where
 cv:Value
 b:List UInt8
 i:Int
 h:Int
 t:List UInt8
def mad(m:Md):AV:= .box 0 [.bv m.cv (cur m.b m.i m.h),.str m.t]
def Es(m:Md)(i h:Int)(t:List UInt8):AV:= .box 0 [.bv m.cv (cur m.b i h),.str t]
def mdP(m:Md):Prop:=Af m.b m.i
theorem NW{p q:Md→Prop}(a:Value)(b:List UInt8)(c d:Int)(e:List UInt8)(h2:q ⟨a,b,c,d,e⟩)(h1:p ⟨a,b,c,d,e⟩):∃x,p x∧q x:=⟨_,h1,h2⟩
theorem NX{T:Type}{p q:Md×T→Prop}(a:Value)(b:List UInt8)(c d:Int)(e:List UInt8)(v:T)(h2:q (⟨a,b,c,d,e⟩,v))(h1:p (⟨a,b,c,d,e⟩,v)):∃x,p x∧q x:=⟨_,h1,h2⟩
def vB:Nat→Nat
 |0=>200
 |n+1=>4*vB n
theorem XQ:∀n,n≤3→200≤vB n∧vB n≤12800
 |0,_=>by simp [vB]
 |1,_=>by simp [vB]
 |2,_=>by simp [vB]
 |3,_=>by simp [vB]
theorem b1Z(n:Nat):vB (n+1)=4*vB n:=rfl
def sB:Nat→Nat
 |0=>39000
 |n+1=>7*sB n
theorem b2a:∀n,n≤2→39000≤sB n∧sB n≤1911000
 |0,_=>by simp [sB]
 |1,_=>by simp [sB]
 |2,_=>by simp [sB]
theorem b2b(n:Nat):sB (n+1)=7*sB n:=rfl
theorem JK{l:List (List UInt8)}{n:Nat}(h:y∈l)(hl:l.all (fun s=>decide (s.length≤n))=true):y.length≤n:=by
 rw[List.all_eq_true] at hl
 exact of_decide_eq_true (hl y h)
def Bt:Sig:= {X:=Md,args:=fun x=>[mad x],pre:=fun x=>mdP x,Y:=List UInt8×Int×Int,post:=fun x y=>y.1.length≤23∧Af x.b y.2.1,res:=fun x y=> .str y.1,outs:=fun x y=>[Es x y.2.1 y.2.2 x.t],keep:=true}
theorem Qk:Ai G Tryz.prog 138 Bt:=
 vcFun_okP [(40,0,Jh)] [(42,⟨List UInt8,Be⟩)] false (fun x=>[]) Tryz.func138 rfl (by decide) ⟨LY,trivial⟩ (fun(x:Md)=>True∧∃(x_1:List UInt8),#[(97:UInt8)].toList=x_1∧∃(x_2:List UInt8),#[(98:UInt8)].toList=x_2∧∃(x_3:List UInt8),#[(118:UInt8),97,108,117,101].toList=x_3∧∃(x_4:List UInt8),#[(116:UInt8),111,116,97,108].toList=x_4∧∃(x_5:List UInt8),#[(115:UInt8),111,109,101,76,111,110,103,101,114,78,97,109,101].toList=x_5∧∃(x_6:List UInt8),#[(120:UInt8),49].toList=x_6∧∃(x_7:List UInt8),#[(116:UInt8),104,101,86,101,114,121,76,111,110,103,101,115,116,78,97,109,101,79,102,65,108,108].toList=x_7∧∃(x_8:List UInt8×Int×Int×List (List UInt8)),(Af x_8.1 x_8.2.1∧x_8.2.2.2≠[]∧x_8.2.2.2.length<(1073741824:Nat))∧x.cv=x.cv∧byL x.b=byL x_8.1∧x.i=x_8.2.1∧x.h=x_8.2.2.1∧AV.sl false 0 1 (List UInt8) (fun(x:List UInt8)=>fzL (Be x)) [x_1,x_2,x_3,x_4,x_5,x_6,x_7]=AV.sl false 0 1 (List UInt8) Be x_8.2.2.2∧∀(y:List UInt8×Int×Int),y.1∈x_8.2.2.2∧Af x_8.1 y.2.1→x.cv=x.cv∧rA Bt x [.str y.1,.box 0 [AV.bv x.cv (cur x_8.1 y.2.1 y.2.2),.str x.t]]) (fun x=>by kernel_rfl) fun(x:Md) (hx:mdP x)=>(by
 dsimp only[DM,byL,cur,mad,Es,rA,Bt,As,Az]
 obtain⟨cv,b,i,h,t⟩:=x;dsimp only at hx ⊢
 have hx:Af b i:=hx
 (repeat' first|(with_reducible first|rfl|exact True.intro|apply AK|apply And.intro|((first|apply AA|apply AI|apply AB|apply AJ)<;>intro _))|(apply Av<;>intro _)|apply AH|refine Ae () ?_ ?_|((first|apply AO|apply AN|apply AM|apply AL|apply AG|apply AF|apply AE|apply AD|apply AC)<;>try dsimp only)|apply Ae|(refine Prod.forall.2 ?_;intro _;try dsimp only)|(intro _;try dsimp only))
 all_goals first
  |rfl
  |exact hx
  |(simp;done)
  |(rename _=[]=>hq;cases hq;done)
  |exact JK (And.left ‹_›) (by decide)
  |exact And.right ‹_∈_∧Af _ _›
  |skip)
def BP(n:Nat):Sig:= {X:=Md×Int,args:=fun x=>[mad x.1,.int .i64 x.2],pre:=fun x=>(mdP x.1∧n≤3)∧x.2≤n∧ -5≤x.2,Y:=List UInt8×Int×Int,post:=fun x y=>y.1.length≤vB n∧Af x.1.b y.2.1,res:=fun x y=> .str y.1,outs:=fun x y=>[Es x.1 y.2.1 y.2.2 x.1.t,.top],keep:=true}
def liB(v:Nat)(i:Int)(l:Nat):Prop:=(i=0∧l=0)∨(i=1∧l≤v)∨(i=2∧l≤2*v+2)∨(i=3∧l≤3*v+4)
theorem b2c:liB v 0 ([]:List UInt8).length:= .inl ⟨rfl,rfl⟩
theorem b2d{l:Nat}(h:liB v i l):(0≤i∧i≤3)∧l≤3*v+4:=by unfold liB at h;omega
theorem b2e{b:List UInt8}{m c e:Int}{s:List UInt8}(h:(liB v i s.length∧m≤3)∧Af b c)(hm:i<m)(hi:¬i>0)(hy:y.length≤v∧Af b e):liB v (i+1) (s++y).length:=by obtain⟨⟨h,_⟩,_⟩:=h;obtain⟨hy,_⟩:=hy;unfold liB at h ⊢;rw[List.length_append];omega
theorem b2f{b:List UInt8}{m c e:Int}{s:List UInt8}(h:(liB v i s.length∧m≤3)∧Af b c)(hm:i<m)(hp:i>0)(hy:y.length≤v∧Af b e):liB v (i+1) (s++[44,32]++y).length:=by obtain⟨⟨h,_⟩,_⟩:=h;obtain⟨hy,_⟩:=hy;unfold liB at h ⊢;simp only[List.length_append,List.length_cons,List.length_nil];omega
def lmL(n:Nat)(x:Md×Int):LS:= {
 ι:=Int×Int×Int×Int×List UInt8,inv:=fun i=>(liB (vB n) i.1 i.2.2.2.2.length∧i.2.2.2.1≤3)∧Af x.1.b i.2.1,regs:=fun i=>[(0,Es x.1 i.2.1 i.2.2.1 x.1.t),(1,.int .i64 x.2),(5,.str i.2.2.2.2),(6,.int .i64 i.2.2.2.1),(7,.int .i64 i.1)],als:=[],meas:=fun i=>4-i.1.toNat}
def Iu(n:Nat):Sig:= {X:=Md×Int,args:=fun x=>[mad x.1,.q x.2],pre:=fun x=>(mdP x.1∧n≤3)∧x.2≤n+1∧ -4≤x.2,Y:=List UInt8×Int×Int,post:=fun x y=>y.1.length≤3*vB n+7∧Af x.1.b y.2.1,res:=fun x y=> .str y.1,outs:=fun x y=>[Es x.1 y.2.1 y.2.2 x.1.t,.top],keep:=true}
theorem b2g(n:Nat)(hc:Ai G Go.Proofs.Tryz.prog 179 (BP n)):Ai G Tryz.prog 203 (Iu n):=
 vcFun_okP [(75,0,Ec),(179,0,(BP n)),(74,0,KM)] [] false (fun x=>[(4,lmL n x)]) Tryz.func203 rfl (by decide) ⟨HK,hc,Qj,trivial⟩ (fun(x:Md×Int)=>True∧∃(x_1:List UInt8×Int×Int×Int),Af x_1.1 x_1.2.1∧x.1.cv=x.1.cv∧byL x.1.b=byL x_1.1∧x.1.i=x_1.2.1∧x.1.h=x_1.2.2.1∧4=x_1.2.2.2∧∀(y:Int×Int×Int),((0<x_1.2.2.2→0≤y.1∧y.1<x_1.2.2.2)∧(x_1.2.2.2≤(0:Int)→y.1=(0:Int)))∧Af x_1.1 y.2.1→x.1.cv=x.1.cv∧eA (lmL n x) [.box 0 [AV.bv x.1.cv (cur x_1.1 y.2.1 y.2.2),.str x.1.t],.q x.2,.str #[].toList,.q y.1,.q 0]∧∀(i:Int×Int×Int×Int×List UInt8),(liB (vB n) i.1 (i.2.2.2.2.length)∧i.2.2.2.1≤(3:Int))∧Af x.1.b i.2.1→Aa (decide (i.1<i.2.2.2.1)) (Aa (decide (i.1>(0:Int))) ((↑(i.2.2.2.2.length+(2:Nat)):Int)≤Ag∧inR .i64 (x.2-(1:Int))∧cA (BP n) [.box 0 [AV.bv x.1.cv (cur x.1.b i.2.1 i.2.2.1),.str x.1.t],.q (x.2-(1:Int))] fun x_2 y=>(↑((i.2.2.2.2++ #[(44:UInt8),32].toList).length+y.1.length):Int)≤Ag∧inR .i64 (i.1+(1:Int))∧eN (lmL n x) i [.box 0 [AV.bv x_2.1.cv (cur x_2.1.b y.2.1 y.2.2),.str x_2.1.t],.q x.2,.str (i.2.2.2.2++ #[(44:UInt8),32].toList++y.1),.q i.2.2.2.1,.q (i.1+(1:Int))]) (inR .i64 (x.2-(1:Int))∧cA (BP n) [.box 0 [AV.bv x.1.cv (cur x.1.b i.2.1 i.2.2.1),.str x.1.t],.q (x.2-(1:Int))] fun x_2 y=>(i.2.2.2.2.length+y.1.length:Int)≤Ag∧inR .i64 (i.1+(1:Int))∧eN (lmL n x) i [.box 0 [AV.bv x_2.1.cv (cur x_2.1.b y.2.1 y.2.2),.str x_2.1.t],.q x.2,.str (i.2.2.2.2++y.1),.q i.2.2.2.1,.q (i.1+(1:Int))])) (Aa (decide (i.2.2.2.1>(0:Int))) (∃(x_2:List UInt8×Int×Int×Int),Af x_2.1 x_2.2.1∧x.1.cv=x.1.cv∧byL x.1.b=byL x_2.1∧i.2.1=x_2.2.1∧i.2.2.1=x_2.2.2.1∧5=x_2.2.2.2∧∀(y:Bool×Int×Int),Af x_2.1 y.2.1→x.1.cv=x.1.cv∧Aa y.1 ((↑(i.2.2.2.2.length+(1:Nat)):Int)≤Ag∧rA (Iu n) x [.str (i.2.2.2.2++ #[(44:UInt8)].toList),.box 0 [AV.bv x.1.cv (cur x_2.1 y.2.1 y.2.2),.str x.1.t],.top]) (rA (Iu n) x [.str i.2.2.2.2,.box 0 [AV.bv x.1.cv (cur x_2.1 y.2.1 y.2.2),.str x.1.t],.top])) (rA (Iu n) x [.str i.2.2.2.2,.box 0 [AV.bv x.1.cv (cur x.1.b i.2.1 i.2.2.1),.str x.1.t],.top]))) (fun x=>by kernel_rfl) fun(x:Md×Int) (hx:(mdP x.1∧n≤3)∧x.2≤n+1∧ -4≤x.2)=>(by
 dsimp only[DM,byL,cA,cur,eA,eN,lmL,mad,Es,rA,Iu,BP,As,Az,mvL,lnL,mvE,lnE,Bl,Ag,AV.q]
 obtain⟨⟨cv,b,i,h,t⟩,d⟩:=x;dsimp only at hx ⊢
 obtain⟨⟨hx,hn⟩,hd,hd2⟩:=hx
 have hx:Af b i:=hx
 have hv:=XQ n hn
 (repeat' first|(apply NX<;>try dsimp only)|(with_reducible first|rfl|exact True.intro|apply AK|apply And.intro|((first|apply AA|apply AI|apply AB|apply AJ)<;>intro _))|(apply Av<;>intro _)|apply AH|refine Ae () ?_ ?_|((first|apply AO|apply AN|apply AM|apply AL|apply AG|apply AF|apply AE|apply AD|apply AC)<;>try dsimp only)|apply Ae|(refine Prod.forall.2 ?_;intro _;try dsimp only)|(intro _;try dsimp only))
 all_goals(repeat(rename((_→_)∧(_→_))∧Af _ _=>hq;obtain⟨⟨_,_⟩,_⟩:=hq))
 all_goals first
  |rfl
  |(with_reducible assumption)
  |exact b2c
  |omega
  |exact hx
  |exact And.right ‹(_∧_)∧Af _ _›
  |exact And.right ‹_≤_∧Af _ _›
  |exact b2f ‹_› ‹_› ‹_› ‹_›
  |exact b2e ‹_› ‹_› ‹_› ‹_›
  |(have hq:=b2d (And.left (And.left ‹(liB _ _ _∧_)∧_›));(try simp only[An,List.length_append,List.length_cons,List.length_nil]);omega)
  |skip)
theorem a3B{k:Int}(h:((0:Int)<16→0≤k∧k<16)∧((16:Int)≤0→k=0)):0≤k∧k<16:=h.1 (by decide)
theorem tm5{k:Int}(h:0≤k):0≤k.tmod 5∧k.tmod 5<5:=LX h (by decide)
def HL(n:Nat):Sig:= {X:=Md×Int,args:=fun x=>[mad x.1,.q x.2],pre:=fun x=>(mdP x.1∧n+1≤3)∧x.2≤(n+1:Nat)∧ -5≤x.2,Y:=List UInt8×Int×Int,post:=fun x y=>y.1.length≤vB (n+1)∧Af x.1.b y.2.1,res:=fun x y=> .str y.1,outs:=fun x y=>[Es x.1 y.2.1 y.2.2 x.1.t,.top],keep:=true}
def Ql(n:Nat)(x:Md×Int)(x_1:List UInt8×Int×Int×Int)(y:Int×Int×Int):Prop:=∃(x_2:List UInt8),#[(43:UInt8)].toList=x_2∧(∃(x_3:List UInt8),#[(45:UInt8)].toList=x_3∧(∃(x_4:List UInt8),#[(42:UInt8)].toList=x_4∧(∃(x_5:List UInt8),#[(38:UInt8),38].toList=x_5∧(∃(x_6:List UInt8),#[(124:UInt8),124].toList=x_6∧(∃(x_7:List UInt8),#[(61:UInt8),61].toList=x_7∧(∃(x_8:List UInt8),#[(60:UInt8)].toList=x_8∧(∃(x_9:List UInt8×Int×Int×List (List UInt8)),(Af x_9.1 x_9.2.1∧x_9.2.2.2≠[]∧x_9.2.2.2.length<(1073741824:Nat))∧x.1.cv=x.1.cv∧byL x_1.1=byL x_9.1∧y.2.1=x_9.2.1∧y.2.2=x_9.2.2.1∧AV.sl false 0 1 (List UInt8) (fun(x:List UInt8)=>fzL (Be x)) [x_2,x_3,x_4,x_5,x_6,x_7,x_8]=AV.sl false 0 1 (List UInt8) Be x_9.2.2.2∧(∀(y:List UInt8×Int×Int),y.1∈x_9.2.2.2∧Af x_9.1 y.2.1→x.1.cv=x.1.cv∧inR .i64 (x.2-(1:Int))∧(cA (BP n) [.box 0 [AV.bv x.1.cv (cur x_9.1 y.2.1 y.2.2),.str x.1.t],.q (x.2-(1:Int))] fun x_10 y_1=>(↑(y_1.1.length+(1:Nat)):Int)≤Ag∧((↑((y_1.1++ #[(32:UInt8)].toList).length+y.1.length):Int)≤Ag∧((↑((y_1.1++ #[(32:UInt8)].toList++y.1).length+(1:Nat)):Int)≤Ag∧inR .i64 (x.2-(1:Int))∧(cA (BP n) [.box 0 [AV.bv x_10.1.cv (cur x_10.1.b y_1.2.1 y_1.2.2),.str x_10.1.t],.q (x.2-(1:Int))] fun x_11 y_2=>(↑((y_1.1++ #[(32:UInt8)].toList++y.1++ #[(32:UInt8)].toList).length+y_2.1.length):Int)≤Ag∧((↑((y_1.1++ #[(32:UInt8)].toList++y.1++ #[(32:UInt8)].toList++y_2.1).length+(1:Nat)):Int)≤Ag∧((↑((y_1.1++ #[(32:UInt8)].toList++y.1++ #[(32:UInt8)].toList++y_2.1++ #[(32:UInt8)].toList).length+y.1.length):Int)≤Ag∧((↑((y_1.1++ #[(32:UInt8)].toList++y.1++ #[(32:UInt8)].toList++y_2.1++ #[(32:UInt8)].toList++y.1).length+(1:Nat)):Int)≤Ag∧(cA Bt [.box 0 [AV.bv x_11.1.cv (cur x_11.1.b y_2.2.1 y_2.2.2),.str x_11.1.t]] fun x_12 y_3=>(↑((y_1.1++ #[(32:UInt8)].toList++y.1++ #[(32:UInt8)].toList++y_2.1++ #[(32:UInt8)].toList++y.1++ #[(32:UInt8)].toList).length+y_3.1.length):Int)≤Ag∧(rA (HL n) x [.str (y_1.1++ #[(32:UInt8)].toList++y.1++ #[(32:UInt8)].toList++y_2.1++ #[(32:UInt8)].toList++y.1++ #[(32:UInt8)].toList++y_3.1),.box 0 [AV.bv x_12.cv (cur x_12.b y_3.2.1 y_3.2.2),.str x_12.t],.top])))))))))))))))))
def LZ(n:Nat)(x:Md×Int)(x_1:List UInt8×Int×Int×Int)(y:Int×Int×Int):Prop:=cA Bt [.box 0 [AV.bv x.1.cv (cur x_1.1 y.2.1 y.2.2),.str x.1.t]] fun x_2 y=>(↑(y.1.length+(1:Nat)):Int)≤Ag∧(cA (Iu n) [.box 0 [AV.bv x_2.cv (cur x_2.b y.2.1 y.2.2),.str x_2.t],.q x.2] fun x_3 y_1=>(↑((y.1++ #[(40:UInt8)].toList).length+y_1.1.length):Int)≤Ag∧((↑((y.1++ #[(40:UInt8)].toList++y_1.1).length+(1:Nat)):Int)≤Ag∧(rA (HL n) x [.str (y.1++ #[(40:UInt8)].toList++y_1.1++ #[(41:UInt8)].toList),.box 0 [AV.bv x_3.1.cv (cur x_3.1.b y_1.2.1 y_1.2.2),.str x_3.1.t],.top])))
def Qm(n:Nat)(x:Md×Int)(x_1:List UInt8×Int×Int×Int)(x_2:List UInt8)(x_3:List UInt8)(x_4:List UInt8)(y:Int×Int×Int):Prop:=∃(x_5:List UInt8×Int×Int×List (List UInt8)),(Af x_5.1 x_5.2.1∧x_5.2.2.2≠[]∧x_5.2.2.2.length<(1073741824:Nat))∧x.1.cv=x.1.cv∧byL x_1.1=byL x_5.1∧y.2.1=x_5.2.1∧y.2.2=x_5.2.2.1∧AV.sl false 0 1 (List UInt8) (fun(x:List UInt8)=>fzL (Be x)) [x_2,x_3,x_4]=AV.sl false 0 1 (List UInt8) Be x_5.2.2.2∧(∀(y:List UInt8×Int×Int),y.1∈x_5.2.2.2∧Af x_5.1 y.2.1→x.1.cv=x.1.cv∧(rA (HL n) x [.str y.1,.box 0 [AV.bv x.1.cv (cur x_5.1 y.2.1 y.2.2),.str x.1.t],.top]))
def XR(n:Nat)(x:Md×Int)(x_1:List UInt8×Int×Int×Int)(y:Int×Int×Int):Prop:=cA Bt [.box 0 [AV.bv x.1.cv (cur x_1.1 y.2.1 y.2.2),.str x.1.t]] fun x_2 y=>(↑(y.1.length+(3:Nat)):Int)≤Ag∧(cA Bt [.box 0 [AV.bv x_2.cv (cur x_2.b y.2.1 y.2.2),.str x_2.t]] fun x_3 y_1=>(↑((y.1++ #[(32:UInt8),60,32].toList).length+y_1.1.length):Int)≤Ag∧((↑((y.1++ #[(32:UInt8),60,32].toList++y_1.1).length+(3:Nat)):Int)≤Ag∧inR .i64 (x.2-(1:Int))∧(cA (BP n) [.box 0 [AV.bv x_3.cv (cur x_3.b y_1.2.1 y_1.2.2),.str x_3.t],.q (x.2-(1:Int))] fun x_4 y_2=>(↑((y.1++ #[(32:UInt8),60,32].toList++y_1.1++ #[(32:UInt8),63,32].toList).length+y_2.1.length):Int)≤Ag∧((↑((y.1++ #[(32:UInt8),60,32].toList++y_1.1++ #[(32:UInt8),63,32].toList++y_2.1).length+(3:Nat)):Int)≤Ag∧inR .i64 (x.2-(1:Int))∧(cA (BP n) [.box 0 [AV.bv x_4.1.cv (cur x_4.1.b y_2.2.1 y_2.2.2),.str x_4.1.t],.q (x.2-(1:Int))] fun x_5 y_3=>(↑((y.1++ #[(32:UInt8),60,32].toList++y_1.1++ #[(32:UInt8),63,32].toList++y_2.1++ #[(32:UInt8),58,32].toList).length+y_3.1.length):Int)≤Ag∧(rA (HL n) x [.str (y.1++ #[(32:UInt8),60,32].toList++y_1.1++ #[(32:UInt8),63,32].toList++y_2.1++ #[(32:UInt8),58,32].toList++y_3.1),.box 0 [AV.bv x_5.1.cv (cur x_5.1.b y_3.2.1 y_3.2.2),.str x_5.1.t],.top]))))))
def XS(n:Nat)(x:Md×Int)(x_1:List UInt8×Int×Int×Int)(y:Int×Int×Int):Prop:=∃(x_2:List UInt8),#[].toList=x_2∧(∃(x_3:List UInt8),#[(97:UInt8)].toList=x_3∧(∃(x_4:List UInt8),#[(97:UInt8),44,32,98].toList=x_4∧(∃(x_5:List UInt8×Int×Int×List (List UInt8)),(Af x_5.1 x_5.2.1∧x_5.2.2.2≠[]∧x_5.2.2.2.length<(1073741824:Nat))∧x.1.cv=x.1.cv∧byL x_1.1=byL x_5.1∧y.2.1=x_5.2.1∧y.2.2=x_5.2.2.1∧AV.sl false 0 1 (List UInt8) (fun(x:List UInt8)=>fzL (Be x)) [x_2,x_3,x_4]=AV.sl false 0 1 (List UInt8) Be x_5.2.2.2∧(∀(y:List UInt8×Int×Int),y.1∈x_5.2.2.2∧Af x_5.1 y.2.1→x.1.cv=x.1.cv∧((↑((1:Nat)+y.1.length):Int)≤Ag∧((↑((#[(40:UInt8)].toList++y.1).length+(5:Nat)):Int)≤Ag∧inR .i64 (x.2-(1:Int))∧(cA (BP n) [.box 0 [AV.bv x.1.cv (cur x_5.1 y.2.1 y.2.2),.str x.1.t],.q (x.2-(1:Int))] fun x_6 y_1=>(↑((#[(40:UInt8)].toList++y.1++ #[(41:UInt8),32,61,62,32].toList).length+y_1.1.length):Int)≤Ag∧(rA (HL n) x [.str (#[(40:UInt8)].toList++y.1++ #[(41:UInt8),32,61,62,32].toList++y_1.1),.box 0 [AV.bv x_6.1.cv (cur x_6.1.b y_1.2.1 y_1.2.2),.str x_6.1.t],.top]))))))))
def XT(n:Nat)(x:Md×Int)(x_1:List UInt8×Int×Int×Int)(y:Int×Int×Int):Prop:=cA Bt [.box 0 [AV.bv x.1.cv (cur x_1.1 y.2.1 y.2.2),.str x.1.t]] fun x_2 y=>(↑(y.1.length+(1:Nat)):Int)≤Ag∧(cA Bt [.box 0 [AV.bv x_2.cv (cur x_2.b y.2.1 y.2.2),.str x_2.t]] fun x_3 y_1=>(↑((y.1++ #[(46:UInt8)].toList).length+y_1.1.length):Int)≤Ag∧((↑((y.1++ #[(46:UInt8)].toList++y_1.1).length+(1:Nat)):Int)≤Ag∧(cA (Iu n) [.box 0 [AV.bv x_3.cv (cur x_3.b y_1.2.1 y_1.2.2),.str x_3.t],.q x.2] fun x_4 y_2=>(↑((y.1++ #[(46:UInt8)].toList++y_1.1++ #[(40:UInt8)].toList).length+y_2.1.length):Int)≤Ag∧((↑((y.1++ #[(46:UInt8)].toList++y_1.1++ #[(40:UInt8)].toList++y_2.1).length+(1:Nat)):Int)≤Ag∧(rA (HL n) x [.str (y.1++ #[(46:UInt8)].toList++y_1.1++ #[(40:UInt8)].toList++y_2.1++ #[(41:UInt8)].toList),.box 0 [AV.bv x_4.1.cv (cur x_4.1.b y_2.2.1 y_2.2.2),.str x_4.1.t],.top])))))
def Ma(n:Nat)(x:Md×Int)(x_1:List UInt8×Int×Int×Int)(y:Int×Int×Int):Prop:=cA Bt [.box 0 [AV.bv x.1.cv (cur x_1.1 y.2.1 y.2.2),.str x.1.t]] fun x_2 y=>rA (HL n) x [.str y.1,.box 0 [AV.bv x_2.cv (cur x_2.b y.2.1 y.2.2),.str x_2.t],.top]
def XU(n:Nat)(x:Md×Int)(x_1:List UInt8×Int×Int×Int)(y:Int×Int×Int):Prop:=cA Bt [.box 0 [AV.bv x.1.cv (cur x_1.1 y.2.1 y.2.2),.str x.1.t]] fun x_2 y=>(↑(y.1.length+(6:Nat)):Int)≤Ag∧(cA (Iu n) [.box 0 [AV.bv x_2.cv (cur x_2.b y.2.1 y.2.2),.str x_2.t],.q x.2] fun x_3 y_1=>(↑((y.1++ #[(46:UInt8),46,97,100,100,40].toList).length+y_1.1.length):Int)≤Ag∧((↑((y.1++ #[(46:UInt8),46,97,100,100,40].toList++y_1.1).length+(10:Nat)):Int)≤Ag∧(rA (HL n) x [.str (y.1++ #[(46:UInt8),46,97,100,100,40].toList++y_1.1++ #[(41:UInt8),46,46,99,108,111,115,101,40,41].toList),.box 0 [AV.bv x_3.1.cv (cur x_3.1.b y_1.2.1 y_1.2.2),.str x_3.1.t],.top])))
def XV(n:Nat)(x:Md×Int)(x_1:List UInt8×Int×Int×Int)(y:Int×Int×Int):Prop:=cA (BP n) [.box 0 [AV.bv x.1.cv (cur x_1.1 y.2.1 y.2.2),.str x.1.t],.q (x.2-(1:Int))] fun x_2 y=>(↑((1:Nat)+y.1.length):Int)≤Ag∧((↑((#[(40:UInt8)].toList++y.1).length+(1:Nat)):Int)≤Ag∧(rA (HL n) x [.str (#[(40:UInt8)].toList++y.1++ #[(41:UInt8)].toList),.box 0 [AV.bv x_2.1.cv (cur x_2.1.b y.2.1 y.2.2),.str x_2.1.t],.top]))
def XW(n:Nat)(x:Md×Int)(x_1:List UInt8×Int×Int×Int)(y:Int×Int×Int):Prop:=cA (Iu n) [.box 0 [AV.bv x.1.cv (cur x_1.1 y.2.1 y.2.2),.str x.1.t],.q x.2] fun x_2 y=>(↑((1:Nat)+y.1.length):Int)≤Ag∧((↑((#[(91:UInt8)].toList++y.1).length+(1:Nat)):Int)≤Ag∧(rA (HL n) x [.str (#[(91:UInt8)].toList++y.1++ #[(93:UInt8)].toList),.box 0 [AV.bv x_2.1.cv (cur x_2.1.b y.2.1 y.2.2),.str x_2.1.t],.top]))
set_option maxHeartbeats 8000000 in
theorem b2h(n:Nat)(hc:Ai G Go.Proofs.Tryz.prog 179 (BP n)):Ai G Tryz.prog 179 (HL n):=
 vcFun_okP [(75,0,Ec),(138,0,Bt),(40,0,Jh),(203,0,(Iu n)),(179,0,(BP n))] [(42,⟨List UInt8,Be⟩)] false (fun x=>[]) Tryz.func179 rfl (by decide) ⟨HK,Qk,LY,(b2g n hc),hc,trivial⟩ (fun(x:Md×Int)=>True∧∃(x_1:List UInt8×Int×Int×Int),Af x_1.1 x_1.2.1∧x.1.cv=x.1.cv∧byL x.1.b=byL x_1.1∧x.1.i=x_1.2.1∧x.1.h=x_1.2.2.1∧16=x_1.2.2.2∧∀(y:Int×Int×Int),((0<x_1.2.2.2→0≤y.1∧y.1<x_1.2.2.2)∧(x_1.2.2.2≤(0:Int)→y.1=(0:Int)))∧Af x_1.1 y.2.1→x.1.cv=x.1.cv∧Aa (decide (x.2≤(0:Int))) ((5:Int)≠(0:Int)∧Aa (Int.tmod y.1 (5:Int)==(0:Int)) (Ma n x x_1 y) (Aa (Int.tmod y.1 (5:Int)==(1:Int)) (Ma n x x_1 y) (Aa (Int.tmod y.1 (5:Int)==(2:Int)) (Ma n x x_1 y) (Aa (Int.tmod y.1 (5:Int)==(3:Int)) (∃(x_2:List UInt8),#[(48:UInt8)].toList=x_2∧(∃(x_3:List UInt8),#[(49:UInt8),50].toList=x_3∧(∃(x_4:List UInt8),#[(49:UInt8),50,51,52,53,54,55].toList=x_4∧(Qm n x x_1 x_2 x_3 x_4 y)))) (Aa (Int.tmod y.1 (5:Int)==(4:Int)) (∃(x_2:List UInt8),#[(39:UInt8),115,97,105,100,39].toList=x_2∧(∃(x_3:List UInt8),#[(39:UInt8),39].toList=x_3∧(∃(x_4:List UInt8),#[(39:UInt8),97,32,108,111,110,103,101,114,32,116,101,120,116,32,104,101,114,101,39].toList=x_4∧(Qm n x x_1 x_2 x_3 x_4 y)))) (Aa (Int.tmod y.1 (5:Int)==(5:Int)) (LZ n x x_1 y) (Aa (Int.tmod y.1 (5:Int)==(6:Int)) (LZ n x x_1 y) (Aa (Int.tmod y.1 (5:Int)==(7:Int)) (LZ n x x_1 y) (Aa (Int.tmod y.1 (5:Int)==(8:Int)) (XW n x x_1 y) (Aa (Int.tmod y.1 (5:Int)==(9:Int)) (XT n x x_1 y) (Aa (Int.tmod y.1 (5:Int)==(10:Int)) (Ql n x x_1 y) (Aa (Int.tmod y.1 (5:Int)==(11:Int)) (Ql n x x_1 y) (Aa (Int.tmod y.1 (5:Int)==(12:Int)) (inR .i64 (x.2-(1:Int))∧(XV n x x_1 y)) (Aa (Int.tmod y.1 (5:Int)==(13:Int)) (XR n x x_1 y) (Aa (Int.tmod y.1 (5:Int)==(14:Int)) (XS n x x_1 y) (XU n x x_1 y)))))))))))))))) (Aa (y.1==(0:Int)) (Ma n x x_1 y) (Aa (y.1==(1:Int)) (Ma n x x_1 y) (Aa (y.1==(2:Int)) (Ma n x x_1 y) (Aa (y.1==(3:Int)) (∃(x_2:List UInt8),#[(48:UInt8)].toList=x_2∧(∃(x_3:List UInt8),#[(49:UInt8),50].toList=x_3∧(∃(x_4:List UInt8),#[(49:UInt8),50,51,52,53,54,55].toList=x_4∧(Qm n x x_1 x_2 x_3 x_4 y)))) (Aa (y.1==(4:Int)) (∃(x_2:List UInt8),#[(39:UInt8),115,97,105,100,39].toList=x_2∧(∃(x_3:List UInt8),#[(39:UInt8),39].toList=x_3∧(∃(x_4:List UInt8),#[(39:UInt8),97,32,108,111,110,103,101,114,32,116,101,120,116,32,104,101,114,101,39].toList=x_4∧(Qm n x x_1 x_2 x_3 x_4 y)))) (Aa (y.1==(5:Int)) (LZ n x x_1 y) (Aa (y.1==(6:Int)) (LZ n x x_1 y) (Aa (y.1==(7:Int)) (LZ n x x_1 y) (Aa (y.1==(8:Int)) (XW n x x_1 y) (Aa (y.1==(9:Int)) (XT n x x_1 y) (Aa (y.1==(10:Int)) (Ql n x x_1 y) (Aa (y.1==(11:Int)) (Ql n x x_1 y) (Aa (y.1==(12:Int)) (inR .i64 (x.2-(1:Int))∧(XV n x x_1 y)) (Aa (y.1==(13:Int)) (XR n x x_1 y) (Aa (y.1==(14:Int)) (XS n x x_1 y) (XU n x x_1 y))))))))))))))))) (fun x=>by kernel_rfl) fun(x:Md×Int) (hx:(mdP x.1∧n+1≤3)∧x.2≤(n+1:Nat)∧ -5≤x.2)=>(by
 dsimp only[XW,XV,XU,Ma,XT,XS,XR,Qm,LZ,Ql,DM,byL,cA,cur,mad,Es,rA,Iu,Bt,BP,HL,As,Az,mvL,lnL,mvE,lnE,Ag,AV.q]
 obtain⟨⟨cv,b,i,h,t⟩,d⟩:=x;dsimp only at hx ⊢
 obtain⟨⟨hx,hn⟩,hd,hd2⟩:=hx
 have hx:Af b i:=hx
 have hv:=XQ n (by omega);have hv2:=b1Z n
 (repeat' first|(apply NX<;>try dsimp only)|(apply NW<;>try dsimp only)|(with_reducible first|rfl|exact True.intro|apply AK|apply And.intro|((first|apply AA|apply AI|apply AB|apply AJ)<;>intro _))|(apply Av<;>intro _)|apply AH|refine Ae () ?_ ?_|((first|apply AO|apply AN|apply AM|apply AL|apply AG|apply AF|apply AE|apply AD|apply AC)<;>try dsimp only)|apply Ae|(refine Prod.forall.2 ?_;intro _;try dsimp only)|(intro _;try dsimp only))
 all_goals(try(have hk:=a3B (And.left (show(((0:Int)<16→_)∧(_→_))∧Af _ _ by assumption));have hk5:=tm5 hk.1))
 all_goals(repeat(rename _∈_∧Af _ _=>hq;obtain⟨hq1,_⟩:=hq;have hq2:=JK (n:=20) hq1 (by decide);clear hq1))
 all_goals(repeat(rename _∧Af _ _=>hq;obtain⟨_,_⟩:=hq))
 all_goals first
  |rfl
  |(with_reducible assumption)
  |exact hx
  |(show Af _ _;with_reducible assumption)
  |(rename _=[]=>hq;cases hq;done)
  |omega
  |(simp only[An,List.length_append,List.length_cons,List.length_nil];omega)
  |skip)
def SD:Sig:= {X:=Md×Int,args:=fun x=>[mad x.1,.q x.2],pre:=fun x=>(mdP x.1∧0≤3)∧x.2≤(0:Nat)∧ -5≤x.2,Y:=List UInt8×Int×Int,post:=fun x y=>y.1.length≤vB 0∧Af x.1.b y.2.1,res:=fun x y=> .str y.1,outs:=fun x y=>[Es x.1 y.2.1 y.2.2 x.1.t,.top],keep:=true}
def Qn(x:Md×Int)(x_1:List UInt8×Int×Int×Int)(y:Int×Int×Int):Prop:=∃(x_2:List UInt8),#[(43:UInt8)].toList=x_2∧(∃(x_3:List UInt8),#[(45:UInt8)].toList=x_3∧(∃(x_4:List UInt8),#[(42:UInt8)].toList=x_4∧(∃(x_5:List UInt8),#[(38:UInt8),38].toList=x_5∧(∃(x_6:List UInt8),#[(124:UInt8),124].toList=x_6∧(∃(x_7:List UInt8),#[(61:UInt8),61].toList=x_7∧(∃(x_8:List UInt8),#[(60:UInt8)].toList=x_8∧(∃(x_9:List UInt8×Int×Int×List (List UInt8)),(Af x_9.1 x_9.2.1∧x_9.2.2.2≠[]∧x_9.2.2.2.length<(1073741824:Nat))∧x.1.cv=x.1.cv∧byL x_1.1=byL x_9.1∧y.2.1=x_9.2.1∧y.2.2=x_9.2.2.1∧AV.sl false 0 1 (List UInt8) (fun(x:List UInt8)=>fzL (Be x)) [x_2,x_3,x_4,x_5,x_6,x_7,x_8]=AV.sl false 0 1 (List UInt8) Be x_9.2.2.2∧(∀(y:List UInt8×Int×Int),y.1∈x_9.2.2.2∧Af x_9.1 y.2.1→x.1.cv=x.1.cv∧inR .i64 (x.2-(1:Int))∧False))))))))
def Qo(x:Md×Int)(x_1:List UInt8×Int×Int×Int)(x_2:List UInt8)(x_3:List UInt8)(x_4:List UInt8)(y:Int×Int×Int):Prop:=∃(x_5:List UInt8×Int×Int×List (List UInt8)),(Af x_5.1 x_5.2.1∧x_5.2.2.2≠[]∧x_5.2.2.2.length<(1073741824:Nat))∧x.1.cv=x.1.cv∧byL x_1.1=byL x_5.1∧y.2.1=x_5.2.1∧y.2.2=x_5.2.2.1∧AV.sl false 0 1 (List UInt8) (fun(x:List UInt8)=>fzL (Be x)) [x_2,x_3,x_4]=AV.sl false 0 1 (List UInt8) Be x_5.2.2.2∧(∀(y:List UInt8×Int×Int),y.1∈x_5.2.2.2∧Af x_5.1 y.2.1→x.1.cv=x.1.cv∧(rA SD x [.str y.1,.box 0 [AV.bv x.1.cv (cur x_5.1 y.2.1 y.2.2),.str x.1.t],.top]))
def XX(x:Md×Int)(x_1:List UInt8×Int×Int×Int)(y:Int×Int×Int):Prop:=∃(x_2:List UInt8),#[].toList=x_2∧(∃(x_3:List UInt8),#[(97:UInt8)].toList=x_3∧(∃(x_4:List UInt8),#[(97:UInt8),44,32,98].toList=x_4∧(∃(x_5:List UInt8×Int×Int×List (List UInt8)),(Af x_5.1 x_5.2.1∧x_5.2.2.2≠[]∧x_5.2.2.2.length<(1073741824:Nat))∧x.1.cv=x.1.cv∧byL x_1.1=byL x_5.1∧y.2.1=x_5.2.1∧y.2.2=x_5.2.2.1∧AV.sl false 0 1 (List UInt8) (fun(x:List UInt8)=>fzL (Be x)) [x_2,x_3,x_4]=AV.sl false 0 1 (List UInt8) Be x_5.2.2.2∧(∀(y:List UInt8×Int×Int),y.1∈x_5.2.2.2∧Af x_5.1 y.2.1→x.1.cv=x.1.cv∧((↑((1:Nat)+y.1.length):Int)≤Ag∧((↑((#[(40:UInt8)].toList++y.1).length+(5:Nat)):Int)≤Ag∧inR .i64 (x.2-(1:Int))∧False))))))
def Mb(x:Md×Int)(x_1:List UInt8×Int×Int×Int)(y:Int×Int×Int):Prop:=cA Bt [.box 0 [AV.bv x.1.cv (cur x_1.1 y.2.1 y.2.2),.str x.1.t]] fun x_2 y=>rA SD x [.str y.1,.box 0 [AV.bv x_2.cv (cur x_2.b y.2.1 y.2.2),.str x_2.t],.top]
def Mc(x:Md×Int)(x_1:List UInt8×Int×Int×Int)(y:Int×Int×Int):Prop:=cA Bt [.box 0 [AV.bv x.1.cv (cur x_1.1 y.2.1 y.2.2),.str x.1.t]] fun x y=>(↑(y.1.length+(1:Nat)):Int)≤Ag∧False
def XY(x:Md×Int)(x_1:List UInt8×Int×Int×Int)(y:Int×Int×Int):Prop:=cA Bt [.box 0 [AV.bv x.1.cv (cur x_1.1 y.2.1 y.2.2),.str x.1.t]] fun x_2 y=>(↑(y.1.length+(3:Nat)):Int)≤Ag∧(cA Bt [.box 0 [AV.bv x_2.cv (cur x_2.b y.2.1 y.2.2),.str x_2.t]] fun x_3 y_1=>(↑((y.1++ #[(32:UInt8),60,32].toList).length+y_1.1.length):Int)≤Ag∧((↑((y.1++ #[(32:UInt8),60,32].toList++y_1.1).length+(3:Nat)):Int)≤Ag∧inR .i64 (x.2-(1:Int))∧False))
def XZ(x:Md×Int)(x_1:List UInt8×Int×Int×Int)(y:Int×Int×Int):Prop:=cA Bt [.box 0 [AV.bv x.1.cv (cur x_1.1 y.2.1 y.2.2),.str x.1.t]] fun x y=>(↑(y.1.length+(1:Nat)):Int)≤Ag∧(cA Bt [.box 0 [AV.bv x.cv (cur x.b y.2.1 y.2.2),.str x.t]] fun x y_1=>(↑((y.1++ #[(46:UInt8)].toList).length+y_1.1.length):Int)≤Ag∧(↑((y.1++ #[(46:UInt8)].toList++y_1.1).length+(1:Nat)):Int)≤Ag∧False)
set_option maxHeartbeats 8000000 in
theorem b2i:Ai G Tryz.prog 179 SD:=
 vcFun_okP [(75,0,Ec),(138,0,Bt),(40,0,Jh)] [(42,⟨List UInt8,Be⟩)] false (fun x=>[]) Tryz.func179 rfl (by decide) ⟨HK,Qk,LY,trivial⟩ (fun(x:Md×Int)=>True∧∃(x_1:List UInt8×Int×Int×Int),Af x_1.1 x_1.2.1∧x.1.cv=x.1.cv∧byL x.1.b=byL x_1.1∧x.1.i=x_1.2.1∧x.1.h=x_1.2.2.1∧16=x_1.2.2.2∧∀(y:Int×Int×Int),((0<x_1.2.2.2→0≤y.1∧y.1<x_1.2.2.2)∧(x_1.2.2.2≤(0:Int)→y.1=(0:Int)))∧Af x_1.1 y.2.1→x.1.cv=x.1.cv∧Aa (decide (x.2≤(0:Int))) ((5:Int)≠(0:Int)∧Aa (Int.tmod y.1 (5:Int)==(0:Int)) (Mb x x_1 y) (Aa (Int.tmod y.1 (5:Int)==(1:Int)) (Mb x x_1 y) (Aa (Int.tmod y.1 (5:Int)==(2:Int)) (Mb x x_1 y) (Aa (Int.tmod y.1 (5:Int)==(3:Int)) (∃(x_2:List UInt8),#[(48:UInt8)].toList=x_2∧(∃(x_3:List UInt8),#[(49:UInt8),50].toList=x_3∧(∃(x_4:List UInt8),#[(49:UInt8),50,51,52,53,54,55].toList=x_4∧(Qo x x_1 x_2 x_3 x_4 y)))) (Aa (Int.tmod y.1 (5:Int)==(4:Int)) (∃(x_2:List UInt8),#[(39:UInt8),115,97,105,100,39].toList=x_2∧(∃(x_3:List UInt8),#[(39:UInt8),39].toList=x_3∧(∃(x_4:List UInt8),#[(39:UInt8),97,32,108,111,110,103,101,114,32,116,101,120,116,32,104,101,114,101,39].toList=x_4∧(Qo x x_1 x_2 x_3 x_4 y)))) (Aa (Int.tmod y.1 (5:Int)==(5:Int)) (Mc x x_1 y) (Aa (Int.tmod y.1 (5:Int)==(6:Int)) (Mc x x_1 y) (Aa (Int.tmod y.1 (5:Int)==(7:Int)) (Mc x x_1 y) (Aa (Int.tmod y.1 (5:Int)==(8:Int)) False (Aa (Int.tmod y.1 (5:Int)==(9:Int)) (XZ x x_1 y) (Aa (Int.tmod y.1 (5:Int)==(10:Int)) (Qn x x_1 y) (Aa (Int.tmod y.1 (5:Int)==(11:Int)) (Qn x x_1 y) (Aa (Int.tmod y.1 (5:Int)==(12:Int)) (inR .i64 (x.2-(1:Int))∧False) (Aa (Int.tmod y.1 (5:Int)==(13:Int)) (XY x x_1 y) (Aa (Int.tmod y.1 (5:Int)==(14:Int)) (XX x x_1 y) (cA Bt [.box 0 [AV.bv x.1.cv (cur x_1.1 y.2.1 y.2.2),.str x.1.t]] fun x y=>(↑(y.1.length+(6:Nat)):Int)≤Ag∧False)))))))))))))))) (Aa (y.1==(0:Int)) (Mb x x_1 y) (Aa (y.1==(1:Int)) (Mb x x_1 y) (Aa (y.1==(2:Int)) (Mb x x_1 y) (Aa (y.1==(3:Int)) (∃(x_2:List UInt8),#[(48:UInt8)].toList=x_2∧(∃(x_3:List UInt8),#[(49:UInt8),50].toList=x_3∧(∃(x_4:List UInt8),#[(49:UInt8),50,51,52,53,54,55].toList=x_4∧(Qo x x_1 x_2 x_3 x_4 y)))) (Aa (y.1==(4:Int)) (∃(x_2:List UInt8),#[(39:UInt8),115,97,105,100,39].toList=x_2∧(∃(x_3:List UInt8),#[(39:UInt8),39].toList=x_3∧(∃(x_4:List UInt8),#[(39:UInt8),97,32,108,111,110,103,101,114,32,116,101,120,116,32,104,101,114,101,39].toList=x_4∧(Qo x x_1 x_2 x_3 x_4 y)))) (Aa (y.1==(5:Int)) (Mc x x_1 y) (Aa (y.1==(6:Int)) (Mc x x_1 y) (Aa (y.1==(7:Int)) (Mc x x_1 y) (Aa (y.1==(8:Int)) False (Aa (y.1==(9:Int)) (XZ x x_1 y) (Aa (y.1==(10:Int)) (Qn x x_1 y) (Aa (y.1==(11:Int)) (Qn x x_1 y) (Aa (y.1==(12:Int)) (inR .i64 (x.2-(1:Int))∧False) (Aa (y.1==(13:Int)) (XY x x_1 y) (Aa (y.1==(14:Int)) (XX x x_1 y) (cA Bt [.box 0 [AV.bv x.1.cv (cur x_1.1 y.2.1 y.2.2),.str x.1.t]] fun x y=>(↑(y.1.length+(6:Nat)):Int)≤Ag∧False))))))))))))))))) (fun x=>by kernel_rfl) fun(x:Md×Int) (hx:(mdP x.1∧0≤3)∧x.2≤(0:Nat)∧ -5≤x.2)=>(by
 dsimp only[XZ,XY,Mc,Mb,XX,Qo,Qn,DM,byL,cA,cur,mad,Es,rA,Bt,SD,As,Az,mvL,lnL,mvE,lnE,Ag,AV.q]
 obtain⟨⟨cv,b,i,h,t⟩,d⟩:=x;dsimp only at hx ⊢
 obtain⟨⟨hx,hn⟩,hd,hd2⟩:=hx
 have hx:Af b i:=hx
 have hv:=XQ 0 (by omega)
 (repeat' first|(apply NX<;>try dsimp only)|(apply NW<;>try dsimp only)|(with_reducible first|rfl|exact True.intro|apply AK|apply And.intro|((first|apply AA|apply AI|apply AB|apply AJ)<;>intro _))|(apply Av<;>intro _)|apply AH|refine Ae () ?_ ?_|((first|apply AO|apply AN|apply AM|apply AL|apply AG|apply AF|apply AE|apply AD|apply AC)<;>try dsimp only)|apply Ae|(refine Prod.forall.2 ?_;intro _;try dsimp only)|(intro _;try dsimp only))
 all_goals(try(have hk:=a3B (And.left (show(((0:Int)<16→_)∧(_→_))∧Af _ _ by assumption));have hk5:=tm5 hk.1))
 all_goals(repeat(rename _∈_∧Af _ _=>hq;obtain⟨hq1,_⟩:=hq;have hq2:=JK (n:=20) hq1 (by decide);clear hq1))
 all_goals(repeat(rename _∧Af _ _=>hq;obtain⟨_,_⟩:=hq))
 all_goals first
  |rfl
  |(with_reducible assumption)
  |exact hx
  |(show Af _ _;with_reducible assumption)
  |(rename _=[]=>hq;cases hq;done)
  |omega
  |(simp only[An,List.length_append,List.length_cons,List.length_nil];omega)
  |skip)
theorem Ya:∀n,Ai G Go.Proofs.Tryz.prog 179 (BP n)
 |0=>b2i
 |n+1=>b2h n (Ya n)
end Go.My
end
section
namespace Go.My
open Go.Eng
variable {c d:UInt8}{i:Int}{m:Nat}{s t x:List UInt8}
def NY(x:List UInt8):SgR:=if CP (x.take 2) then⟨4,x.take 2,(x.take 2).length,true⟩ else if CP (x.take 1) then⟨4,x.take 1,1,true⟩ else⟨0,[],0,false⟩
def Iv(x:List UInt8)(i:Int):Prop:=(0≤i∧i≤2∧i≤x.length)∧Bg x=NY x∧∀j:Nat,i<j→j≤2→j≤x.length→CP (x.take j)=false
theorem b2j(h:Iv x i)(hx:1≤x.length)(h0:i>0)(hm:CP (x.take i.toNat)=true):Bg x=⟨4,x.take i.toNat,i,true⟩:=by
 obtain⟨⟨h1,h2,h3⟩,h4,h5⟩:=h
 rw[h4]
 have hi:i=1∨i=2:=by omega
 rcases hi with rfl|rfl
 ·by_cases hl:x.length=1
  ·have e:x.take 2=x.take 1:=by rw[List.take_of_length_le (by omega),List.take_of_length_le (by omega)]
   have hm':CP (x.take 1)=true:=hm
   simp only[NY,e,hm',if_true]
   have:(x.take 1).length=1:=by simp;omega
   rw[this];rfl
  ·have:=h5 2 (by omega) (by omega) (by omega)
   have hm':CP (x.take 1)=true:=hm
   simp only[NY,this,hm',Bool.false_eq_true,if_false,if_true];rfl
 ·have hm':CP (x.take 2)=true:=hm
  simp only[NY,hm',if_true]
  have:(x.take 2).length=2:=by simp;omega
  rw[this];rfl
theorem b2k(h:Iv x i)(hx:1≤x.length)(h0:¬i>0):Bg x=⟨0,[],0,false⟩:=by
 obtain⟨⟨h1,h2,h3⟩,h4,h5⟩:=h
 rw[h4]
 have a1:=h5 1 (by omega) (by omega) hx
 have a2:CP (x.take 2)=false:=by
  by_cases hl:x.length=1
  ·have e:x.take 2=x.take 1:=by rw[List.take_of_length_le (by omega),List.take_of_length_le (by omega)]
   rw[e];exact a1
  ·exact h5 2 (by omega) (by omega) (by omega)
 simp only[NY,a1,a2,Bool.false_eq_true,if_false]
theorem b2l(h:Iv x i)(h0:i>0)(hm:CP (x.take i.toNat)=false):Iv x (i-1):=by
 obtain⟨⟨h1,h2,h3⟩,h4,h5⟩:=h
 refine⟨⟨by omega,by omega,by omega⟩,h4,fun j a b c=> ?_⟩
 by_cases e:(j:Int)=i
 ·have:j=i.toNat:=by omega
  rw[this];exact hm
 ·exact h5 j (by omega) b c
theorem b2m{b:UInt8}(h1:Ck b=false)(h2:Bn b=false)(h3:¬b.toNat=39)(h4:(b::t).take 2≠[47,47]):Iv (b::t) (min 2 ((b::t).length:Int)):=by
 refine⟨⟨by omega,by omega,by omega⟩,?_,fun j a b c=>by omega⟩
 simp only[Bg,h1,h2,h3,h4,Bool.false_eq_true,if_false,NY]
theorem b2n{b:UInt8}(h:Ck b=true):Bg (b::t)=⟨1,(b::t).takeWhile BM,((b::t).takeWhile BM).length,decide ((((b::t).takeWhile BM).length:Int)≤30)⟩:=by
 have:decide ((((b::t).takeWhile BM).length:Int)≤30)=decide (((b::t).takeWhile BM).length≤30):=decide_eq_decide.2 (by omega)
 rw[this];simp [Bg,h]
theorem b2o{b:UInt8}(h0:Ck b=false)(h:Bn b=true):Bg (b::t)=⟨2,(b::t).takeWhile Bn,((b::t).takeWhile Bn).length,decide ((((b::t).takeWhile Bn).length:Int)≤12)⟩:=by
 have:decide ((((b::t).takeWhile Bn).length:Int)≤12)=decide (((b::t).takeWhile Bn).length≤12):=decide_eq_decide.2 (by omega)
 rw[this];simp [Bg,h,h0]
theorem b2p{b:UInt8}(h0:Ck b=false)(h1:Bn b=false)(h:(b.toNat:Int)=39):Bg (b::t)=⟨3,(DK (b::t)).1,(DK (b::t)).1.length,(DK (b::t)).2⟩:=by
 have h:b.toNat=39:=by omega
 simp [Bg,h0,h1,h]
theorem b2q{b:UInt8}(h0:Ck b=false)(h1:Bn b=false)(h2:(b.toNat:Int)≠39)(h:(b::t).take 2=[47,47]):
 Bg (b::t)=⟨5,CQ ((b::t).takeWhile Cj),((b::t).takeWhile Cj).length,((b::t).takeWhile Cj).all BJ⟩:=by
 have h2:¬b.toNat=39:=by omega
 simp only[Bg,h0,h1,h2,h,Bool.false_eq_true,if_false,if_true]
theorem a3C(s:List UInt8)(c:UInt8):CQ (s++[c])=if c.toNat=32 then CQ s else s++[c]:=by
 unfold CQ
 rw[List.reverse_append]
 simp only[List.reverse_cons,List.reverse_nil,List.nil_append,List.singleton_append,List.dropWhile_cons]
 by_cases h:c.toNat=32
 ·simp [h]
 ·simp [h]
theorem b2r(h:s[s.length-1]? =some c):s=s.take (s.length-1)++[c]:=by
 have h1:=ED h
 have:s.length-1+1=s.length:=by
  have:=(List.getElem?_eq_some_iff.1 h).1;omega
 rw[this,List.take_length] at h1
 exact h1
theorem a3D(h:s[s.length-1]? =some c):CQ s=if c.toNat=32 then CQ (s.take (s.length-1)) else s:=by
 have h1:=b2r h
 rw[h1,a3C]
 split
 ·rw[List.length_append];simp
 ·rfl
theorem a3E{n:Nat}(h:s[n]? =some c):CQ (s.take (n+1))=if c.toNat=32 then CQ (s.take n) else s.take (n+1):=by
 rw[ED h,a3C]
def isQ(c:UInt8):Bool:=decide (c.toNat=39)
def CK(s:List UInt8):Nat:=match Eo isQ (s.drop 1) with
 |none=>0
 |some i=>if((s.drop 1).take i).all BJ then i+2 else 0
def Cy(s:List UInt8):Nat:=if s.take 2=[47,47] then(if(s.takeWhile Cj).all BJ then(s.takeWhile Cj).length else 0) else 0
theorem a3F(s:List UInt8):DK s=match Eo isQ (s.drop 1) with
 |none=>([],false)
 |some i=>(s.take (i+2),(s.take (i+2)).all BJ):=rfl
theorem a3G(h:isQ c=true):BJ c=true:=by
 simp [isQ] at h;simp [BJ,h]
theorem Yb{p:UInt8→Bool}{i:Nat}(h:Eo p s=some i):i<s.length:=by
 obtain⟨_,e,he,_⟩:=LQ.1 h
 exact(List.getElem?_eq_some_iff.1 he).1
theorem SE{c:UInt8}(hc:isQ c=true):(DK (c::s)).2=true↔CK (c::s)≠0:=by
 rw[a3F];unfold CK
 simp only[List.drop_succ_cons,List.drop_zero]
 cases h:Eo isQ s with
 |none=>simp
 |some i=>
  simp only[List.take_succ_cons,List.all_cons,a3G hc,Bool.true_and]
  obtain⟨h1,e,he,hq⟩:=LQ.1 h
  rw[ED he,List.all_append]
  simp [a3G hq]
theorem a3H{c:UInt8}(hc:isQ c=true)(h:CK (c::s)≠0):(DK (c::s)).1=(c::s).take (CK (c::s))∧CK (c::s)≤(c::s).length:=by
 rw[a3F];unfold CK at h ⊢
 simp only[List.drop_succ_cons,List.drop_zero] at h ⊢
 cases hi:Eo isQ s with
 |none=>rw[hi] at h;simp at h
 |some i=>
  rw[hi] at h
  simp only at h ⊢
  split at h
  ·rename_i hp
   have:=Yb hi
   rw[if_pos hp]
   exact⟨rfl,by simp;omega⟩
  ·exact(h rfl).elim
theorem b2s(h:Ck c=true):Bn c=false:=by
 simp [Ck,Bn] at h ⊢;omega
theorem Yc(s:List UInt8):Cr s 1=match s with
 |[]=>false
 |c::_=>Ck c&&(s.all BM&&decide (s.length≤30)):=by
 cases s with
 |nil=>rfl
 |cons c t=>
  by_cases hc:Ck c=true
  ·simp only[Cr,Bg,hc,if_true,Bool.true_and]
   by_cases ha:(c::t).all BM=true
   ·have:=Sz.2 ha
    rw[this,ha];simp
   ·have hn:¬(c::t).takeWhile BM=c::t:=fun e=>ha (Sz.1 e)
    simp only[Bool.not_eq_true] at ha
    rw[ha]
    have:((c::t).takeWhile BM==c::t)=false:=by rw[beq_eq_false_iff_ne];exact hn
    rw[this];simp
  ·simp only[Bool.not_eq_true] at hc
   simp only[hc,Bool.false_and]
   rw[Bool.eq_false_iff]
   intro h
   simp only[Cr,Bg,hc,Bool.false_eq_true,if_false,Bool.and_eq_true,decide_eq_true_eq] at h
   have h1:=h.2.2.1
   repeat' split at h1
   all_goals simp at h1
theorem Yd(s:List UInt8):Cr s 2=(s.all Bn&&(decide (1≤s.length)&&decide (s.length≤12))):=by
 cases s with
 |nil=>rfl
 |cons c t=>
  by_cases hc:Ck c=true
  ·have hf:=b2s hc
   simp only[List.all_cons,hf,Bool.false_and]
   simp [Cr,Bg,hc]
  ·simp only[Bool.not_eq_true] at hc
   by_cases hf:Bn c=true
   ·simp only[Cr,Bg,hc,hf,Bool.false_eq_true,if_false,if_true]
    by_cases ha:(c::t).all Bn=true
    ·have:=Sz.2 ha
     rw[this,ha];simp
    ·have hn:¬(c::t).takeWhile Bn=c::t:=fun e=>ha (Sz.1 e)
     simp only[Bool.not_eq_true] at ha
     rw[ha]
     have:((c::t).takeWhile Bn==c::t)=false:=by rw[beq_eq_false_iff_ne];exact hn
     rw[this];simp
   ·simp only[Bool.not_eq_true] at hf
    simp only[List.all_cons,hf,Bool.false_and]
    rw[Bool.eq_false_iff]
    intro h
    simp only[Cr,Bg,hc,hf,Bool.false_eq_true,if_false,Bool.and_eq_true,decide_eq_true_eq] at h
    have h1:=h.2.2.1
    repeat' split at h1
    all_goals simp at h1
theorem SF(s:List UInt8):Cr s 3=match s with
 |[]=>false
 |c::_=>isQ c&&(decide (1<s.length)&&decide (CK s=s.length)):=by
 cases s with
 |nil=>rfl
 |cons c t=>
  by_cases hq:isQ c=true
  ·have h39:c.toNat=39:=by simpa [isQ] using hq
   have hc:Ck c=false:=by simp [Ck];omega
   have hf:Bn c=false:=by simp [Bn];omega
   simp only[hq,Bool.true_and]
   simp only[Cr,Bg,hc,hf,h39,Bool.false_eq_true,if_false,if_true]
   by_cases h0:CK (c::t)=0
   ·have h2:(DK (c::t)).2=false:=by
     rw[Bool.eq_false_iff];intro h;exact(SE hq).1 h h0
    rw[h2,h0];simp
   ·have h2:=(SE hq).2 h0
    obtain⟨h3,h4⟩:=a3H hq h0
    have h5:1<CK (c::t):=by
     unfold CK at h0 ⊢
     split at h0
     ·exact(h0 rfl).elim
     ·split at h0
      ·rename_i hp;rw[if_pos hp];omega
      ·exact(h0 rfl).elim
    rw[h2,h3]
    rw[Bool.eq_iff_iff]
    simp only[Bool.and_eq_true,Bool.not_eq_true',decide_eq_true_eq,beq_iff_eq,List.length_take]
    constructor
    ·rintro⟨_,_,_,e,hl⟩
     have:=congrArg List.length e
     simp only[List.length_take] at this
     constructor<;>omega
    ·rintro⟨h6,h7⟩
     refine⟨by simp,trivial,trivial,?_,?_⟩
     ·rw[h7,List.take_length]
     ·omega
  ·simp only[Bool.not_eq_true] at hq
   have h39:¬c.toNat=39:=by simpa [isQ] using hq
   simp only[hq,Bool.false_and]
   rw[Bool.eq_false_iff]
   intro h
   simp only[Cr,Bg,h39,if_false,Bool.and_eq_true,decide_eq_true_eq] at h
   have h1:=h.2.2.1
   repeat' split at h1
   all_goals simp at h1
theorem Ye(s:List UInt8):Cr s 5=(decide (1<s.length)&&(decide (Cy s=s.length)&&(CQ s==s))):=by
 cases s with
 |nil=>rfl
 |cons c t=>
  by_cases hp:(c::t).take 2=[47,47]
  ·have h47:c=47:=by
    have:=congrArg (fun l:List UInt8=>l.head?) hp
    simpa using this
   subst h47
   have hl:1<(47::t).length:=by
    have:=congrArg List.length hp
    simp only[List.length_take,List.length_cons,List.length_nil] at this ⊢;omega
   have hc:Ck 47=false:=by decide
   have hf:Bn 47=false:=by decide
   have hq:¬(47:UInt8).toNat=39:=by decide
   simp only[Cr,Bg,hc,hf,hq,hp,Bool.false_eq_true,if_false,if_true,Cy]
   rw[Bool.eq_iff_iff]
   simp only[Bool.and_eq_true,Bool.not_eq_true',decide_eq_true_eq,beq_iff_eq,beq_eq_false_iff_ne]
   constructor
   ·rintro⟨_,h1,_,h2,h3⟩
    rw[if_pos h1]
    have h3:((47::t).takeWhile Cj).length=(47::t).length:=by omega
    refine⟨hl,h3,?_⟩
    have e:(47::t).takeWhile Cj=47::t:=by
     have:=List.takeWhile_prefix (p:=Cj) (l:=47::t)
     exact List.IsPrefix.eq_of_length this h3
    rw[e] at h2;exact h2
   ·rintro⟨_,h1,h2⟩
    split at h1
    ·rename_i h3
     have e:(47::t).takeWhile Cj=47::t:=by
      have:=List.takeWhile_prefix (p:=Cj) (l:=47::t)
      exact List.IsPrefix.eq_of_length this h1
     rw[e] at h3 ⊢
     exact⟨by simp,h3,trivial,h2,rfl⟩
    ·simp at h1
  ·have h0:Cy (c::t)=0:=by simp only[Cy,if_neg hp]
   rw[h0]
   have:decide (0=(c::t).length)=false:=by simp
   rw[this]
   simp only[Bool.false_and,Bool.and_false]
   rw[Bool.eq_false_iff]
   intro h
   simp only[Cr,Bg,hp,if_false,Bool.and_eq_true,decide_eq_true_eq] at h
   have h1:=h.2.2.1
   repeat' split at h1
   all_goals simp at h1
theorem b2t{e:UInt8}(h:∀e∈(s.drop 1).take m,isQ e=false∧BJ e=true)(he:(s.drop 1)[m]? =some e)(hq:isQ e=true):CK s=m+2:=by
 unfold CK
 rw[LQ.2 ⟨fun e he=>(h e he).1,e,he,hq⟩]
 simp only
 rw[if_pos (List.all_eq_true.2 fun e he=>(h e he).2)]
theorem b2u{e:UInt8}(h:∀e∈(s.drop 1).take m,isQ e=false∧BJ e=true)(he:(s.drop 1)[m]? =some e)(hq:isQ e=false)(hp:BJ e=false):CK s=0:=by
 unfold CK
 cases hi:Eo isQ (s.drop 1) with
 |none=>rfl
 |some i=>
  simp only
  obtain⟨h1,d,hd,hdq⟩:=LQ.1 hi
  rw[if_neg]
  intro hall
  have hmi:m<i:=by
   rcases Nat.lt_trichotomy m i with h'|h'|h'
   ·exact h'
   ·subst h';rw[he] at hd;cases hd;rw[hq] at hdq;cases hdq
   ·have:d∈(s.drop 1).take m:=by
     rw[List.mem_take_iff_getElem]
     obtain⟨a,b⟩:=List.getElem?_eq_some_iff.1 hd
     exact⟨i,by omega,b⟩
    rw[(h d this).1] at hdq;cases hdq
  have:e∈(s.drop 1).take i:=by
   rw[List.mem_take_iff_getElem]
   obtain⟨a,b⟩:=List.getElem?_eq_some_iff.1 he
   exact⟨m,by omega,b⟩
  rw[List.all_eq_true.1 hall e this] at hp;cases hp
theorem b2v(h:∀e∈(s.drop 1).take m,isQ e=false∧BJ e=true)(hl:(s.drop 1).length≤m):CK s=0:=by
 unfold CK
 rw[List.take_of_length_le hl] at h
 rw[XG.2 fun e he=>(h e he).1]
theorem a3I(hp:s.take 2=[47,47])(h:∀e∈s.take m,Cj e=true∧BJ e=true)(he:s.length≤m∨∃e,s[m]? =some e∧Cj e=false)(hm:m≤s.length):Cy s=m:=by
 have h1:=JH (fun e he=>(h e he).1) he
 unfold Cy
 rw[if_pos hp,←h1,if_pos (List.all_eq_true.2 fun e he=>(h e he).2),List.length_take];omega
theorem b2w{e:UInt8}(hp:s.take 2=[47,47])(h:∀e∈s.take m,Cj e=true∧BJ e=true)(he:s[m]? =some e)(hn:Cj e=true)(hq:BJ e=false):Cy s=0:=by
 unfold Cy
 rw[if_pos hp,if_neg]
 intro hall
 have:e∈s.takeWhile Cj:=by
  have h2:s=s.take m++e::s.drop (m+1):=by rw[←HI he,List.take_append_drop]
  rw[h2,List.takeWhile_append_of_pos (fun e he=>(h e he).1),List.takeWhile_cons,if_pos hn]
  simp
 rw[List.all_eq_true.1 hall e this] at hq;cases hq
theorem a3J(hp:s.take 2≠[47,47]):Cy s=0:=by
 unfold Cy;rw[if_neg hp]
theorem Yf{a n:Int}(h0:0≤a)(h:a+1≤n):((s.drop a.toNat).drop 1)[(n-a-1).toNat]? =s[n.toNat]? :=by
 rw[List.getElem?_drop,List.getElem?_drop];congr 1;omega
theorem Qp{a n:Int}(h0:0≤a)(h:a≤n):(s.drop a.toNat)[(n-a).toNat]? =s[n.toNat]? :=by
 rw[List.getElem?_drop];congr 1;omega
theorem SG{p:UInt8→Prop}{k:Nat}{e:UInt8}(h:∀e∈s.take m,p e)(he:s[m]? =some e)(hp:p e)(hk:k=m+1):∀e∈s.take k,p e:=by
 subst hk
 rw[ED he];intro x hx
 rcases List.mem_append.1 hx with hx|hx
 ·exact h x hx
 ·simp at hx;subst hx;exact hp
def qI(x:List UInt8×Int)(i:Int):Prop:=x.2+1≤i∧(i≤x.1.length∨i=x.2+1)∧∀e∈((x.1.drop x.2.toNat).drop 1).take (i-x.2-1).toNat,isQ e=false∧BJ e=true
theorem b2x{x:List UInt8×Int}:qI x (x.2+1):=by
 refine⟨by omega,.inr rfl,fun e he=> ?_⟩
 rw[show(x.2+1-x.2-1).toNat=0 by omega] at he;simp at he
theorem b2y{x:List UInt8×Int}(h:qI x i):x.2+1≤i∧(i≤x.1.length∨i=x.2+1):=⟨h.1,h.2.1⟩
theorem b2z{x:List UInt8×Int}(h0:0≤x.2)(h:qI x i)(hq:(c.toNat:Int)=39)(hc:x.1[i.toNat]? =some c):i+1-x.2=CK (x.1.drop x.2.toNat):=by
 have:=h.1
 rw[b2t h.2.2 (by rw[Yf h0 h.1];exact hc) (by simp [isQ];omega)];omega
theorem b2A{x:List UInt8×Int}(h0:0≤x.2)(h:qI x i)(hq:(c.toNat:Int)≠39)(hc:x.1[i.toNat]? =some c)(hp:BJ d=false)(hd:x.1[i.toNat]? =some d):0=(CK (x.1.drop x.2.toNat):Int):=by
 rw[hc] at hd;cases hd
 rw[b2u h.2.2 (by rw[Yf h0 h.1];exact hc) (by simp [isQ];omega) hp];rfl
theorem b2B{x:List UInt8×Int}(h0:0≤x.2)(h:qI x i)(hl:i<x.1.length)(hq:(c.toNat:Int)≠39)(hc:x.1[i.toNat]? =some c)(hp:BJ d=true)(hd:x.1[i.toNat]? =some d):qI x (i+1):=by
 rw[hc] at hd;cases hd
 have:=h.1
 exact⟨by omega,.inl (by omega),SG (p:=fun e=>isQ e=false∧BJ e=true) h.2.2 (by rw[Yf h0 h.1];exact hc) ⟨by simp [isQ];omega,hp⟩ (by omega)⟩
theorem b2C{x:List UInt8×Int}(h0:0≤x.2)(h:qI x i)(hl:¬i<x.1.length):0=(CK (x.1.drop x.2.toNat):Int):=by
 rw[b2v h.2.2 (by simp;omega)];rfl
def nI(x:List UInt8×Int)(i:Int):Prop:=(x.2≤i∧i≤x.1.length)∧(x.1.drop x.2.toNat).take 2=[47,47]∧∀e∈(x.1.drop x.2.toNat).take (i-x.2).toNat,Cj e=true∧BJ e=true
theorem a3K{x:List UInt8×Int}(h0:0≤x.2):List.drop x.2.toNat (List.take (x.2+2).toNat x.1)=(x.1.drop x.2.toNat).take 2:=by
 rw[List.drop_take];congr 1;omega
theorem b2D{x:List UInt8×Int}(h0:0≤x.2)(hl:x.2≤x.1.length)(h:(List.drop x.2.toNat (List.take (x.2+2).toNat x.1)==[47,47])=true):nI x x.2:=by
 rw[a3K h0] at h
 refine⟨⟨by omega,hl⟩,by simpa using h,fun e he=> ?_⟩
 rw[show(x.2-x.2).toNat=0 by omega] at he;simp at he
theorem b2E{x:List UInt8×Int}(h0:0≤x.2)(h:(List.drop x.2.toNat (List.take (x.2+2).toNat x.1)==[47,47])=false):0=(Cy (x.1.drop x.2.toNat):Int):=by
 rw[a3K h0] at h
 rw[a3J (by simpa using h)];rfl
theorem b2F{x:List UInt8×Int}(h0:0≤x.2)(h:x.2+2>x.1.length):0=(Cy (x.1.drop x.2.toNat):Int):=by
 rw[a3J]
 ·rfl
 ·intro e;have:=congrArg List.length e;simp at this;omega
theorem b2G{x:List UInt8×Int}(h0:0≤x.2)(h:nI x i)(hn:(c.toNat:Int)≠10)(hc:x.1[i.toNat]? =some c)(hp:BJ d=false)(hd:x.1[i.toNat]? =some d):0=(Cy (x.1.drop x.2.toNat):Int):=by
 rw[hc] at hd;cases hd
 rw[b2w h.2.1 h.2.2 (by rw[Qp h0 h.1.1];exact hc) (by simp [Cj];omega) hp];rfl
theorem b2H{x:List UInt8×Int}(h0:0≤x.2)(h:nI x i)(hl:i<x.1.length)(hn:(c.toNat:Int)≠10)(hc:x.1[i.toNat]? =some c)(hp:BJ d=true)(hd:x.1[i.toNat]? =some d):nI x (i+1):=by
 rw[hc] at hd;cases hd
 have:=h.1
 exact⟨by omega,h.2.1,SG (p:=fun e=>Cj e=true∧BJ e=true) h.2.2 (by rw[Qp h0 h.1.1];exact hc) ⟨by simp [Cj];omega,hp⟩ (by omega)⟩
theorem b2I{x:List UInt8×Int}(h0:0≤x.2)(h:nI x i)(hn:(c.toNat:Int)=10)(hc:x.1[i.toNat]? =some c):i-x.2=(Cy (x.1.drop x.2.toNat):Int):=by
 have:=h.1
 have hl:=(List.getElem?_eq_some_iff.1 hc).1
 rw[a3I h.2.1 h.2.2 (.inr ⟨c,by rw[Qp h0 h.1.1];exact hc,by simp [Cj];omega⟩) (by simp;omega)];omega
theorem b2J{x:List UInt8×Int}(h0:0≤x.2)(h:nI x i)(hl:¬i<x.1.length):i-x.2=(Cy (x.1.drop x.2.toNat):Int):=by
 have:=h.1
 rw[a3I h.2.1 h.2.2 (.inl (by simp;omega)) (by simp;omega)];omega
def nmI(x:List UInt8)(i:Int):Prop:=(0≤i∧i≤x.length)∧(inn x.length 1 30=true∧Ck (x.headD 0)=true∧kw x=false)∧∀e∈x.take i.toNat,BM e=true
theorem Yg:DL x=true↔(inn x.length 1 30=true∧Ck (x.headD 0)=true∧kw x=false)∧x.all BM=true:=by
 unfold DL
 rw[Yc]
 cases x with
 |nil=>simp [inn]
 |cons c t=>
  simp only[inn,Bool.and_eq_true,decide_eq_true_eq,Bool.not_eq_true',List.headD_cons,List.length_cons]
  constructor
  ·rintro⟨⟨h1,h2,h3⟩,h4⟩;exact⟨⟨⟨by omega,by omega⟩,h1,h4⟩,h2⟩
  ·rintro⟨⟨⟨h1,h2⟩,h3,h4⟩,h5⟩;exact⟨⟨h3,h5,by omega⟩,h4⟩
theorem a3L(h:x[0]? =some c):x.headD 0=c:=by cases x<;>simp_all
theorem Yh(h:¬(inn x.length 1 30=true∧Ck (x.headD 0)=true∧kw x=false)):false=DL x:=by
 symm;rw[Bool.eq_false_iff];intro hn;exact h (Yg.1 hn).1
theorem b2K(h:inn x.length 1 30=true)(h1:Ck (x.headD 0)=true)(h2:kw x=false):nmI x 0:=⟨by omega,⟨h,h1,h2⟩,fun e he=>by simp at he⟩
theorem a3M(h:nmI x i)(hc:x[i.toNat]? =some c)(hl:i<x.length)(hp:BM c=true):nmI x (i+1):=by
 have:=h.1
 exact⟨by omega,h.2.1,SG (p:=fun e=>BM e=true) h.2.2 hc hp (by omega)⟩
theorem b2L(h:nmI x i)(hc:x[i.toNat]? =some c)(hp:BM c=false):false=DL x:=by
 symm;rw[Bool.eq_false_iff];intro hn
 have:=(Yg.1 hn).2
 rw[Sy hc hp] at this;cases this
theorem b2M(h:nmI x i)(hl:¬i<x.length):true=DL x:=by
 symm;rw[Yg];exact⟨h.2.1,XF h.2.2 (by omega)⟩
theorem b2N{x:List UInt8}(h1:(x.length:Int)>1)(hq:(c.toNat:Int)=39)(h:x[0]? =some c):((CK x:Int)==(x.length:Int))=Cr x 3:=by
 cases x with
 |nil=>cases h
 |cons d t=>
  have:d=c:=by simpa using h
  subst this
  have e:isQ d=true:=by simp [isQ];omega
  rw[SF,Bool.eq_iff_iff]
  simp [e] at h1 ⊢;omega
theorem b2O(hq:(c.toNat:Int)≠39)(h:x[0]? =some c):false=Cr x 3:=by
 cases x with
 |nil=>cases h
 |cons d t=>
  have:d=c:=by simpa using h
  subst this
  have e:isQ d=false:=by simp [isQ];omega
  rw[SF];simp [e]
theorem b2P(h1:¬(x.length:Int)>1):false=Cr x 3:=by
 rw[SF]
 cases x with
 |nil=>rfl
 |cons d t=>
  have:decide (1<(d::t).length)=false:=decide_eq_false (by omega)
  simp only[this,Bool.false_and,Bool.and_false]
theorem b2Q(h1:(x.length:Int)>1)(h2:(Cy x:Int)=x.length):(CQ x==x)=Cr x 5:=by
 rw[Ye]
 have e1:decide (1<x.length)=true:=decide_eq_true (by omega)
 have e2:decide (Cy x=x.length)=true:=decide_eq_true (by omega)
 simp [e1,e2]
theorem b2R(h2:(Cy x:Int)≠x.length):false=Cr x 5:=by
 rw[Ye]
 have e2:decide (Cy x=x.length)=false:=decide_eq_false (by omega)
 simp only[e2,Bool.false_and,Bool.and_false]
theorem b2S(h1:¬(x.length:Int)>1):false=Cr x 5:=by
 rw[Ye]
 have e2:decide (1<x.length)=false:=decide_eq_false (by omega)
 simp only[e2,Bool.false_and]
end Go.My
end
