/- joined -/
import Derived.Test.YtaenadacepeagaaGreatDoorQD
import Derived.Test.YtaenadacepeagaaGreatDoorProg
import Derived.WalkKit
import Derived.Lib.Bytealg
import Derived.Laws.Externs
set_option linter.unusedSimpArgs false
set_option linter.unusedVariables false
section
namespace Go.My
open Go.Eng
def inn(x a b:Int):Bool:=decide (a≤x)&&decide (x≤b)
def BF(l:List Nd)(k:Int):Bool:=decide (0≤k)&&decide (k<l.length)
def BH(k:Int):Bool:=inn k 1 11
def JP(k:Int):Bool:=inn k 12 17
def Fc(k:Int):Bool:=decide (k=12)||(decide (k=20)||decide (k=19))
def DZ(k:Int):Bool:=decide (k=18)
def EL(k:Int):Bool:=decide (k=1)
def Gb(k:Int):Bool:=decide (k=5)
def Fd(k:Int):Bool:=JP k||decide (k=19)
def Hb(k:Int):Bool:=Fc k||decide (k=21)
def Hy(p:Int→Bool)(ks:List Int):Bool:=match ks.getLast? with
 |some k=>p k&&ks.dropLast.all EL
 |none=>false
def Eo(k:Int)(ks:List Int):Bool:=
 if k=1∨k=2∨k=3∨k=19 then decide (ks.length=0)
 else if k=4 then ks.all BH
 else if k=5 then decide (1≤ks.length)&&ks.all BH
 else if k=7 then decide (2≤ks.length)&&ks.all BH
 else if k=8 then decide (ks.length=3)&&ks.all BH
 else if k=6∨k=11∨k=13∨k=14 then decide (ks.length=1)&&ks.all BH
 else if k=12∨k=15 then decide (ks.length≤1)&&ks.all BH
 else if k=9 then Hy BH ks
 else if k=10 then decide (2≤ks.length)&&(BH (ks.headD 0)&&(ks.drop 1).all Gb)
 else if k=16 then(decide (2≤ks.length)&&decide (ks.length≤3))&&(BH (ks.headD 0)&&(ks.drop 1).all DZ)
 else if k=17 then decide (ks.length=2)&&(BH (ks.headD 0)&&DZ (ks.getD 1 0))
 else if k=18 then ks.all Fd
 else if k=20 then Hy DZ ks
 else if k=21 then ks.all Fc
 else if k=22 then ks.all Hb
 else false
def Aj(ns:List Nd)(c:Int):Nd:=ns.getD c.toNat ⟨0,[],[],false⟩
def BQ(ns:List Nd)(c:Int):Int:=(Aj ns c).kind
def CQ(ns:List Nd)(x:Nd)(i:Nat)(c:Int):Bool:=
 let y:=Aj ns c
 if y.kind=5 then match y.kids with
  |[]=>false
  |h::_=>BF ns h&& !(decide (x.kind=10)&&(decide (0<i)&& !decide (BQ ns h=1)))
 else true
def Ep(ns:List Nd)(x:Nd):Bool:=(x.kids.zipIdx).all fun p=>CQ ns x p.2 p.1
def DK(l:List Int)(k:Int):Bool:=l.all fun c=>decide (0≤c)&&decide (c<k)
def Hz(k:Int):Bool:=JP k||(Fc k||decide (k=21))
def HA(ns:List Nd)(k:Int)(x:Nd):Bool:=
 decide (x.kids.length≤12)&&(FF x.kind x.text&&((DK x.kids k&&decide x.kids.Nodup)&&(Eo x.kind (x.kids.map (BQ ns))&&(Ep ns x&&(Hz x.kind|| !x.blank)))))
def Cb(ns:List Nd)(k:Int):Bool:=BF ns k&&HA ns k (Aj ns k)
def mx(ds:List Int):List Int→Int→Int
 |[],d=>d
 |c::l,d=>mx ds l (max d (ds.getD c.toNat 0))
def De(ns:List Nd):Nat→Option (List Int)
 |0=>some []
 |n+1=>match De ns n with
  |none=>none
  |some ds=>if Cb ns n then(if 14≤mx ds (Aj ns n).kids 0 then none else some (ds++[mx ds (Aj ns n).kids 0+1])) else none
def Dr(ns:List Nd)(k:Int):Int:=if BF ns k then match De ns (k.toNat+1) with
    |none=>0
    |some ds=>ds.getD k.toNat 0
 else 0
def BR(ns:List Nd):List Int:=ns.flatMap (·.kids)
def BO(ns:List Nd):Bool:=
 (decide (1≤ns.length)&&decide (ns.length≤300))&&(decide (BQ ns (ns.length-1)=22)&&(!decide (Dr ns (ns.length-1)=0)&&((List.range (ns.length-1)).all fun i=>decide ((BR ns).count (i:Int)=1))))
theorem CR{l:List Nd}{k:Int}:BF l k=true↔0≤k∧k<l.length:=by simp [BF]
theorem Bz{ns:List Nd}{c:Int}{x:Nd}(h:ns[c.toNat]? =some x):Aj ns c=x:=by
 simp [Aj,List.getD,h]
theorem Uv(ds:List Int):∀(l:List Int) (d:Int),d≤mx ds l d
 |[],d=>Int.le_refl d
 |c::l,d=>by unfold mx;have:=Uv ds l (max d (ds.getD c.toNat 0));omega
theorem Ov{ns:List Nd}:∀ {n:Nat} {ds:List Int},De ns n=some ds→ds.length=n
 |0,ds,h=>by cases h;rfl
 |n+1,ds,h=>by
  unfold De at h
  split at h
  ·cases h
  ·rename_i ds' hd
   split at h
   ·split at h
    ·cases h
    ·simp at h;rw[←h];simp [Ov hd]
   ·cases h
theorem Uw{ns:List Nd}:∀ {n:Nat} {ds:List Int},De ns n=some ds→∀d∈ds,1≤d∧d≤14
 |0,ds,h=>by cases h;simp
 |n+1,ds,h=>by
  unfold De at h
  split at h
  ·cases h
  ·rename_i ds' hd
   split at h
   ·split at h
    ·cases h
    ·simp at h;rw[←h]
     intro d hdm
     rcases List.mem_append.1 hdm with hdm|hdm
     ·exact Uw hd d hdm
     ·simp at hdm
      have:=Uv ds' (Aj ns n).kids 0
      omega
   ·cases h
theorem YD{ns:List Nd}:∀ {n:Nat} {ds:List Int},De ns n=some ds→∀i,i<n→Cb ns i=true
 |0,ds,h,i,hi=>by omega
 |n+1,ds,h,i,hi=>by
  unfold De at h
  split at h
  ·cases h
  ·rename_i ds' hd
   split at h
   ·rename_i hok
    by_cases e:i=n
    ·subst e;exact hok
    ·exact YD hd i (by omega)
   ·cases h
theorem YE{ns:List Nd}{n m:Nat}(h:De ns n=none)(hm:n≤m):De ns m=none:=by
 induction m with
 |zero=>obtain rfl:n=0:=by omega
        exact h
 |succ m ih=>
  by_cases e:n=m+1
  ·subst e;exact h
  ·unfold De;rw[ih (by omega)]
theorem Ql{ns:List Nd}{k:Int}(h:Dr ns k≠0):BF ns k=true∧(∃ds,De ns (k.toNat+1)=some ds)∧∀i:Nat,(i:Int)≤k→Cb ns i=true:=by
 unfold Dr at h
 split at h
 ·rename_i hn
  split at h
  ·exact(h rfl).elim
  ·rename_i ds hd
   exact⟨hn,⟨ds,hd⟩,fun i hi=>YD hd i (by have:=CR.1 hn;omega)⟩
 ·exact(h rfl).elim
theorem FG{ns:List Nd}{k:Int}(h:Cb ns k=true):(0≤k∧k<ns.length)∧(Aj ns k).kids.length≤12∧FF (Aj ns k).kind (Aj ns k).text=true∧
 (∀c∈(Aj ns k).kids,0≤c∧c<k)∧(Aj ns k).kids.Nodup∧Eo (Aj ns k).kind ((Aj ns k).kids.map (BQ ns))=true∧Ep ns (Aj ns k)=true:=by
 simp only[Cb,HA,Bool.and_eq_true,decide_eq_true_eq,DK,List.all_eq_true] at h
 exact⟨CR.1 h.1,h.2.1,h.2.2.1,h.2.2.2.1.1,h.2.2.2.1.2,h.2.2.2.2.1,h.2.2.2.2.2.1⟩
end Go.My
end
section
namespace Go.My
open Go.Eng Go.Proofs Go.RowKit
variable {G:GInv}
def CF(s:List UInt8)(c:UInt8):Int:=match CI (fun d=>decide (d.toNat=c.toNat)) s with
 |none=> -1
 |some i=>i
theorem YF:∀(s:List UInt8) (c:UInt8),Lib.indexByte s c=CF s c
 |[],c=>rfl
 |b::s,c=>by
  unfold Lib.indexByte CF CI
  have e:(b==c)=decide (b.toNat=c.toNat):=by
   rw[Bool.eq_iff_iff];simp [UInt8.toNat_inj]
  rw[e]
  by_cases h:b.toNat=c.toNat
  ·simp [h]
  ·have ih:=YF s c
   unfold CF at ih
   simp only[h,decide_false,Bool.false_eq_true,if_false]
   rw[ih]
   cases hh:CI (fun d=>decide (d.toNat=c.toNat)) s with
   |none=>simp
   |some i=>simp
set_option maxHeartbeats 1000000 in
set_option maxRecDepth 100000 in
theorem a5v(s:ByteArray)(c:Int)(w:World):
 Calls Tryz.prog 144 #[.string s,.int .u8 c] w fun e w'=>e= .returned (.int .i64 (Lib.indexByte s.data.toList c.toNat.toUInt8))∧w'=w:=by
 go_enter Tryz.func144,Tryz.ntmps144
 go_wp2
 rw[run_callFunc_extern Tryz.func150 (by kernel_rfl) (by kernel_rfl) (by kernel_rfl) (e:=Extern.BytealgIndexByte.indexByte) (by kernel_rfl),Lib.run_indexByteString]
 simp only[Result.andThen]
 rw[Oper.upon_value]
 go_wp2
 go_ret
 exact⟨rfl,rfl⟩
def MB:Sig:= {X:=List UInt8×UInt8,args:=fun x=>[.str x.1,.int .u8 x.2.toNat],pre:=fun _=>True,Y:=Unit,post:=fun _ _=>True,res:=fun x _=> .int .i64 (CF x.1 x.2),outs:=fun _ _=>[.top,.top],keep:=false}
theorem Ux:Am G Tryz.prog 144 MB:=by
 refine⟨⟨⟨_,Tryz.func144,by kernel_rfl,by kernel_rfl⟩,fun x y _ _=>⟨trivial,trivial,trivial,trivial⟩⟩,?_⟩
 rintro⟨l,c⟩ _ Z w vals A _ h hA _
 simp only[MB,AZ,Al] at h
 obtain⟨v,cs,A1,A2,rfl,_,⟨rfl,_⟩,v',cs',A3,A4,rfl,_,⟨rfl,_⟩,rfl,_⟩:=h
 refine(a5v ⟨l.toArray⟩ c.toNat w).mono ?_
 rintro e w' ⟨rfl,rfl⟩
 refine⟨(),_,Z,(fun _=>False),trivial,rfl,?_,⟨rfl,rfl,rfl,Nat.le_refl _,fun _ _ _=>⟨rfl,Iff.rfl⟩,fun _ h=>h.elim⟩⟩
 simp only[MB,AZ,Al]
 refine⟨_,_,_,_,rfl,BX _,⟨?_,AU⟩,_,_,_,_,rfl,BX _,AU,_,_,_,_,rfl,BX _,AU,rfl,AU⟩
 rw[YF];simp
def Qm:Sig:= {X:=List UInt8,args:=fun x=>[.str x,.int .u8 39],pre:=fun _=>True,Y:=Unit,post:=fun _ _=>True,res:=fun x _=> .int .i64 (CF x 39),outs:=fun _ _=>[.top,.top],keep:=false}
theorem a5w:Am G Tryz.prog 144 Qm:=⟨⟨(Ux (G:=G)).1.1,fun x y _ _=>⟨trivial,trivial,trivial,trivial⟩⟩,fun x hx=>(Ux (G:=G)).2 (x,39) trivial⟩
def MC:Sig:= {X:=List UInt8,args:=fun x=>[.str x,.int .u8 39],pre:=fun x=>True,Y:=Unit,post:=fun x y=>True,res:=fun x y=> .int .i64 (CF x 39),outs:=fun x y=>[.top,.top],keep:=false}
theorem a5x:Am G Tryz.prog 140 MC:=
 vcFun_okP [(144,0,Qm)] [] false (fun x=>[]) Tryz.func140 rfl (by decide) ⟨a5w,trivial⟩ (fun(x:List UInt8)=>(∀(y:Unit),True→True∧True∧True∧True)∧cA Qm [.str x,AV.int IntKind.u8 (39:Int)] fun x_1 y=>rA MC x [.int .i64 (CF x_1 (39:UInt8)),.top,.top]) (fun x=>by kernel_rfl) fun(x:List UInt8) (hx:True)=>(by
 dsimp only[cA,rA,Qm,MC,Aw,AR,mvL,lnL,mvE,lnE]
 (repeat' first|(with_reducible first|rfl|exact True.intro|apply AM|apply And.intro|((first|apply AC|apply AK|apply AD|apply AL)<;>intro _))|(apply AB<;>intro _)|apply AJ|refine Ag () ?_ ?_|((first|apply AQ|apply AP|apply AO|apply AN|apply AI|apply AH|apply AG|apply AF|apply AE)<;>try dsimp only)|apply Ag|(refine Prod.forall.2 ?_;intro _;try dsimp only)|(intro _;try dsimp only))<;>(try dsimp only at*)<;>(try simp only[AS,List.length_cons,List.length_nil])<;>(try omega))
def IX:Sig:= {X:=List UInt8×List UInt8,args:=fun x=>[.str x.1,.str x.2],pre:=fun x=>x.2.length=1,Y:=Unit,post:=fun x y=>True,res:=fun x y=> .int .i64 (CF x.1 (x.2.headD 0)),outs:=fun x y=>[.top,.top],keep:=false}
theorem a5y:Am G Tryz.prog 154 IX:=
 vcFun_okP [(144,0,MB)] [] false (fun x=>[]) Tryz.func154 rfl (by decide) ⟨Ux,trivial⟩ (fun(x:List UInt8×List UInt8)=>(∀(y:Unit),True→True∧True∧True∧True)∧Aa ((↑(List.length x.2):Int)==(0:Int)) (rA IX x [.int .i64 (0:Int),.top,.top]) (Aa (x.2==x.1) (rA IX x [.int .i64 (0:Int),.top,.top]) (Aa ((↑(List.length x.2):Int)==(1:Int)) (((0:Int)≤(0:Int)∧(0:Int)<(↑(List.length x.2):Int))∧∀(c:UInt8),x.2[(0:Nat)]? =some c→cA MB [.str x.1,AV.int IntKind.u8 (↑(UInt8.toNat c):Int)] fun x_1 y=>rA IX x [.int .i64 (CF x_1.1 x_1.2),.top,.top]) (Aa (decide ((↑(List.length x.2):Int)≥(↑(List.length x.1):Int))) (rA IX x [.int .i64 (-1:Int),.top,.top]) False)))) (fun x=>by kernel_rfl) fun(x:List UInt8×List UInt8) (hx:x.2.length=1)=>(by
 dsimp only[cA,rA,MB,IX,Aw,AR,mvL,lnL,mvE,lnE]
 (repeat' first|(with_reducible first|rfl|exact True.intro|apply AM|apply And.intro|((first|apply AC|apply AK|apply AD|apply AL)<;>intro _))|(apply AB<;>intro _)|apply AJ|refine Ag () ?_ ?_|((first|apply AQ|apply AP|apply AO|apply AN|apply AI|apply AH|apply AG|apply AF|apply AE)<;>try dsimp only)|apply Ag|(refine Prod.forall.2 ?_;intro _;try dsimp only)|(intro _;try dsimp only))<;>(try dsimp only at*)<;>(try simp only[AS,List.length_cons,List.length_nil])<;>(try omega)
 ·rename_i _ h;rw[←h];match x.2,hx with
  |[c],_=>simp [CF,CI]
 ·rename_i c hc _ _
  match x.2,hx,hc with
  |[d],_,hc=>simp at hc;rw[←hc];rfl)
def MD:Sig:= {X:=List UInt8×List UInt8,args:=fun x=>[.str x.1,.str x.2],pre:=fun x=>x.2.length=1,Y:=Unit,post:=fun x y=>True,res:=fun x y=> .int .i64 (CF x.1 (x.2.headD 0)),outs:=fun x y=>[.top,.top],keep:=false}
theorem a5z:Am G Tryz.prog 149 MD:=
 vcFun_okP [(154,0,IX)] [] false (fun x=>[]) Tryz.func149 rfl (by decide) ⟨a5y,trivial⟩ (fun(x:List UInt8×List UInt8)=>(∀(y:Unit),True→True∧True∧True∧True)∧cA IX [.str x.1,.str x.2] fun x_1 y=>rA MD x [.int .i64 (CF x_1.1 (List.headD x_1.2 (0:UInt8))),.top,.top]) (fun x=>by kernel_rfl) fun(x:List UInt8×List UInt8) (hx:x.2.length=1)=>(by
 dsimp only[cA,rA,MD,IX,Aw,AR,mvL,lnL,mvE,lnE]
 (repeat' first|(with_reducible first|rfl|exact True.intro|apply AM|apply And.intro|((first|apply AC|apply AK|apply AD|apply AL)<;>intro _))|(apply AB<;>intro _)|apply AJ|refine Ag () ?_ ?_|((first|apply AQ|apply AP|apply AO|apply AN|apply AI|apply AH|apply AG|apply AF|apply AE)<;>try dsimp only)|apply Ag|(refine Prod.forall.2 ?_;intro _;try dsimp only)|(intro _;try dsimp only))<;>(try dsimp only at*)<;>(try simp only[AS,List.length_cons,List.length_nil])<;>(try omega))
def ME:Sig:= {X:=List UInt8×List UInt8,args:=fun x=>[.str x.1,.str x.2],pre:=fun x=>x.2.length=1,Y:=Unit,post:=fun x y=>True,res:=fun x y=> .bool (decide (CF x.1 (x.2.headD 0)≥0)),outs:=fun x y=>[.top,.top],keep:=false}
theorem a5A:Am G Tryz.prog 143 ME:=
 vcFun_okP [(149,0,MD)] [] false (fun x=>[]) Tryz.func143 rfl (by decide) ⟨a5z,trivial⟩ (fun(x:List UInt8×List UInt8)=>(∀(y:Unit),True→True∧True∧True∧True)∧cA MD [.str x.1,.str x.2] fun x_1 y=>rA ME x [.bool (decide (CF x_1.1 (List.headD x_1.2 (0:UInt8))≥(0:Int))),.top,.top]) (fun x=>by kernel_rfl) fun(x:List UInt8×List UInt8) (hx:x.2.length=1)=>(by
 dsimp only[cA,rA,ME,MD,Aw,AR,mvL,lnL,mvE,lnE]
 (repeat' first|(with_reducible first|rfl|exact True.intro|apply AM|apply And.intro|((first|apply AC|apply AK|apply AD|apply AL)<;>intro _))|(apply AB<;>intro _)|apply AJ|refine Ag () ?_ ?_|((first|apply AQ|apply AP|apply AO|apply AN|apply AI|apply AH|apply AG|apply AF|apply AE)<;>try dsimp only)|apply Ag|(refine Prod.forall.2 ?_;intro _;try dsimp only)|(intro _;try dsimp only))<;>(try dsimp only at*)<;>(try simp only[AS,List.length_cons,List.length_nil])<;>(try omega))
def KD:Sig:= {X:=List UInt8×List UInt8,args:=fun x=>[.str x.1,.str x.2],pre:=fun x=>x.2.length<2^62∧x.1.length<2^63,Y:=Unit,post:=fun x y=>True,res:=fun x y=> .bool (x.1.take x.2.length==x.2),outs:=fun x y=>[.top,.top],keep:=false}
theorem a5B:Am G Tryz.prog 141 KD:=
 vcFun_okP [] [] false (fun x=>[]) Tryz.func141 rfl (by decide) trivial (fun(x:List UInt8×List UInt8)=>(∀(y:Unit),True→True∧True∧True∧True)∧Aa (decide ((↑(List.length x.1):Int)≥(↑(List.length x.2):Int))) (((0:Int)≤(0:Int)∧(0:Int)≤(↑(List.length x.2):Int)∧(↑(List.length x.2):Int)≤(↑(List.length x.1):Int))∧rA KD x [.bool (List.take (Int.toNat (↑(List.length x.2):Int)) x.1==x.2),.top,.top]) (rA KD x [.bool false,.top,.top])) (fun x=>by kernel_rfl) fun(x:List UInt8×List UInt8) (hx:x.2.length<2^62∧x.1.length<2^63)=>(by
 dsimp only[rA,KD,Aw,AR]
 obtain⟨h1,h2⟩:=hx
 (repeat' first|(with_reducible first|rfl|exact True.intro|apply AM|apply And.intro|((first|apply AC|apply AK|apply AD|apply AL)<;>intro _))|(apply AB<;>intro _)|apply AJ|refine Ag () ?_ ?_|((first|apply AQ|apply AP|apply AO|apply AN|apply AI|apply AH|apply AG|apply AF|apply AE)<;>try dsimp only)|apply Ag|(refine Prod.forall.2 ?_;intro _;try dsimp only)|(intro _;try dsimp only))<;>(try dsimp only at*)<;>(try simp only[AS,List.length_cons,List.length_nil])<;>(try omega)
 ·simp
 ·rename_i h;rw[eq_comm,beq_eq_false_iff_ne];intro e;have:=congrArg List.length e;simp at this;omega)
def MF:Sig:= {X:=List UInt8×List UInt8,args:=fun x=>[.str x.1,.str x.2],pre:=fun x=>x.2.length<2^62∧x.1.length<2^63,Y:=Unit,post:=fun x y=>True,res:=fun x y=> .bool (x.1.take x.2.length==x.2),outs:=fun x y=>[.top,.top],keep:=false}
theorem a5C:Am G Tryz.prog 134 MF:=
 vcFun_okP [(141,0,KD)] [] false (fun x=>[]) Tryz.func134 rfl (by decide) ⟨a5B,trivial⟩ (fun(x:List UInt8×List UInt8)=>(∀(y:Unit),True→True∧True∧True∧True)∧cA KD [.str x.1,.str x.2] fun x_1 y=>rA MF x [.bool (List.take (List.length x_1.2) x_1.1==x_1.2),.top,.top]) (fun x=>by kernel_rfl) fun(x:List UInt8×List UInt8) (hx:x.2.length<2^62∧x.1.length<2^63)=>(by
 dsimp only[cA,rA,MF,KD,Aw,AR,mvL,lnL,mvE,lnE]
 obtain⟨h1,h2⟩:=hx
 (repeat' first|(with_reducible first|rfl|exact True.intro|apply AM|apply And.intro|((first|apply AC|apply AK|apply AD|apply AL)<;>intro _))|(apply AB<;>intro _)|apply AJ|refine Ag () ?_ ?_|((first|apply AQ|apply AP|apply AO|apply AN|apply AI|apply AH|apply AG|apply AF|apply AE)<;>try dsimp only)|apply Ag|(refine Prod.forall.2 ?_;intro _;try dsimp only)|(intro _;try dsimp only))<;>(try dsimp only at*)<;>(try simp only[AS,List.length_cons,List.length_nil])<;>(try omega))
end Go.My
end
section
namespace Go.My
open Go.Eng Go.Proofs
variable {G:GInv}
def Fr:Sig:= {X:=Int×Int×Int,args:=fun x=>[.int .i64 x.1,.int .i64 x.2.1,.int .i64 x.2.2],pre:=fun x=>True,Y:=Unit,post:=fun x y=>True,res:=fun x y=> .bool (inn x.1 x.2.1 x.2.2),outs:=fun x y=>[.top,.top,.top],keep:=false}
theorem Qn:Am G Tryz.prog 56 Fr:=
 vcFun_okP [] [] false (fun x=>[]) Tryz.func56 rfl (by decide) trivial (fun(x:Int×Int×Int)=>(∀(y:Unit),True→True∧True∧True∧True∧True)∧Aa (decide (x.1≥x.2.1)) (rA Fr x [.bool (decide (x.1≤x.2.2)),.top,.top,.top]) (rA Fr x [.bool false,.top,.top,.top])) (fun x=>by kernel_rfl) fun(x:Int×Int×Int) (hx:True)=>(by
 dsimp only[rA,Fr,Aw,AR]
 (repeat' first|(with_reducible first|rfl|exact True.intro|apply AM|apply And.intro|((first|apply AC|apply AK|apply AD|apply AL)<;>intro _))|(apply AB<;>intro _)|apply AJ|refine Ag () ?_ ?_|((first|apply AQ|apply AP|apply AO|apply AN|apply AI|apply AH|apply AG|apply AF|apply AE)<;>try dsimp only)|apply Ag|(refine Prod.forall.2 ?_;intro _;try dsimp only)|(intro _;try dsimp only))<;>(try dsimp only at*)<;>(try simp only[AS,List.length_cons,List.length_nil])<;>(try omega)
 all_goals simp [inn, *])
def CU:Sig:= {X:=Int×Int×Int,args:=fun x=>[.int .i64 x.1,.int .i64 x.2.1,.int .i64 x.2.2],pre:=fun x=>True,Y:=Unit,post:=fun x y=>True,res:=fun x y=> .bool (inn x.1 x.2.1 x.2.2),outs:=fun x y=>[.top,.top,.top],keep:=false}
theorem KE:Am G Tryz.prog 48 CU:=
 vcFun_okP [] [] false (fun x=>[]) Tryz.func48 rfl (by decide) trivial (fun(x:Int×Int×Int)=>(∀(y:Unit),True→True∧True∧True∧True∧True)∧Aa (decide (x.1≥x.2.1)) (rA CU x [.bool (decide (x.1≤x.2.2)),.top,.top,.top]) (rA CU x [.bool false,.top,.top,.top])) (fun x=>by kernel_rfl) fun(x:Int×Int×Int) (hx:True)=>(by
 dsimp only[rA,CU,Aw,AR]
 (repeat' first|(with_reducible first|rfl|exact True.intro|apply AM|apply And.intro|((first|apply AC|apply AK|apply AD|apply AL)<;>intro _))|(apply AB<;>intro _)|apply AJ|refine Ag () ?_ ?_|((first|apply AQ|apply AP|apply AO|apply AN|apply AI|apply AH|apply AG|apply AF|apply AE)<;>try dsimp only)|apply Ag|(refine Prod.forall.2 ?_;intro _;try dsimp only)|(intro _;try dsimp only))<;>(try dsimp only at*)<;>(try simp only[AS,List.length_cons,List.length_nil])<;>(try omega)
 all_goals simp [inn, *])
def GB:Sig:= {X:=UInt8,args:=fun x=>[.int .u8 x.toNat],pre:=fun x=>True,Y:=Unit,post:=fun x y=>True,res:=fun x y=> .bool (Bj x),outs:=fun x y=>[.top],keep:=false}
theorem Uy:Am G Tryz.prog 132 GB:=
 vcFun_okP [] [] false (fun x=>[]) Tryz.func132 rfl (by decide) trivial (fun(x:UInt8)=>(∀(y:Unit),True→True∧True∧True)∧Aa (decide ((↑(UInt8.toNat x):Int)≥(48:Int))) (rA GB x [.bool (decide ((↑(UInt8.toNat x):Int)≤(57:Int))),.top]) (rA GB x [.bool false,.top])) (fun x=>by kernel_rfl) fun(x:UInt8) (hx:True)=>(by
 dsimp only[rA,GB,Aw,AR]
 (repeat' first|(with_reducible first|rfl|exact True.intro|apply AM|apply And.intro|((first|apply AC|apply AK|apply AD|apply AL)<;>intro _))|(apply AB<;>intro _)|apply AJ|refine Ag () ?_ ?_|((first|apply AQ|apply AP|apply AO|apply AN|apply AI|apply AH|apply AG|apply AF|apply AE)<;>try dsimp only)|apply Ag|(refine Prod.forall.2 ?_;intro _;try dsimp only)|(intro _;try dsimp only))<;>(try dsimp only at*)<;>(try simp only[AS,List.length_cons,List.length_nil])<;>(try omega)
 all_goals(rw[Bool.eq_iff_iff];simp only[Bj,Bool.and_eq_true,Bool.or_eq_true,decide_eq_true_eq,Bool.not_eq_true',decide_eq_false_iff_not,bne_iff_ne,ne_eq,beq_iff_eq,Bool.not_not,reduceCtorEq,Bool.false_eq_true,true_iff,false_iff,iff_true,iff_false,not_true,not_false_eq_true]<;>omega))
def FH:Sig:= {X:=UInt8,args:=fun x=>[.int .u8 x.toNat],pre:=fun x=>True,Y:=Unit,post:=fun x y=>True,res:=fun x y=> .bool (Bj x),outs:=fun x y=>[.top],keep:=false}
theorem Uz:Am G Tryz.prog 53 FH:=
 vcFun_okP [] [] false (fun x=>[]) Tryz.func53 rfl (by decide) trivial (fun(x:UInt8)=>(∀(y:Unit),True→True∧True∧True)∧Aa (decide ((↑(UInt8.toNat x):Int)≥(48:Int))) (rA FH x [.bool (decide ((↑(UInt8.toNat x):Int)≤(57:Int))),.top]) (rA FH x [.bool false,.top])) (fun x=>by kernel_rfl) fun(x:UInt8) (hx:True)=>(by
 dsimp only[rA,FH,Aw,AR]
 (repeat' first|(with_reducible first|rfl|exact True.intro|apply AM|apply And.intro|((first|apply AC|apply AK|apply AD|apply AL)<;>intro _))|(apply AB<;>intro _)|apply AJ|refine Ag () ?_ ?_|((first|apply AQ|apply AP|apply AO|apply AN|apply AI|apply AH|apply AG|apply AF|apply AE)<;>try dsimp only)|apply Ag|(refine Prod.forall.2 ?_;intro _;try dsimp only)|(intro _;try dsimp only))<;>(try dsimp only at*)<;>(try simp only[AS,List.length_cons,List.length_nil])<;>(try omega)
 all_goals(rw[Bool.eq_iff_iff];simp only[Bj,Bool.and_eq_true,Bool.or_eq_true,decide_eq_true_eq,Bool.not_eq_true',decide_eq_false_iff_not,bne_iff_ne,ne_eq,beq_iff_eq,Bool.not_not,reduceCtorEq,Bool.false_eq_true,true_iff,false_iff,iff_true,iff_false,not_true,not_false_eq_true]<;>omega))
def FI:Sig:= {X:=UInt8,args:=fun x=>[.int .u8 x.toNat],pre:=fun x=>True,Y:=Unit,post:=fun x y=>True,res:=fun x y=> .bool (Cf x),outs:=fun x y=>[.top],keep:=false}
theorem YG:Am G Tryz.prog 129 FI:=
 vcFun_okP [] [] false (fun x=>[]) Tryz.func129 rfl (by decide) trivial (fun(x:UInt8)=>(∀(y:Unit),True→True∧True∧True)∧Aa (decide ((↑(UInt8.toNat x):Int)≥(97:Int))) (Aa (decide ((↑(UInt8.toNat x):Int)≤(122:Int))) (rA FI x [.bool true,.top]) (Aa (decide ((↑(UInt8.toNat x):Int)≥(65:Int))) (Aa (decide ((↑(UInt8.toNat x):Int)≤(90:Int))) (rA FI x [.bool true,.top]) (rA FI x [.bool ((↑(UInt8.toNat x):Int)==(95:Int)),.top])) (rA FI x [.bool ((↑(UInt8.toNat x):Int)==(95:Int)),.top]))) (Aa (decide ((↑(UInt8.toNat x):Int)≥(65:Int))) (Aa (decide ((↑(UInt8.toNat x):Int)≤(90:Int))) (rA FI x [.bool true,.top]) (rA FI x [.bool ((↑(UInt8.toNat x):Int)==(95:Int)),.top])) (rA FI x [.bool ((↑(UInt8.toNat x):Int)==(95:Int)),.top]))) (fun x=>by kernel_rfl) fun(x:UInt8) (hx:True)=>(by
 dsimp only[rA,FI,Aw,AR]
 (repeat' first|(with_reducible first|rfl|exact True.intro|apply AM|apply And.intro|((first|apply AC|apply AK|apply AD|apply AL)<;>intro _))|(apply AB<;>intro _)|apply AJ|refine Ag () ?_ ?_|((first|apply AQ|apply AP|apply AO|apply AN|apply AI|apply AH|apply AG|apply AF|apply AE)<;>try dsimp only)|apply Ag|(refine Prod.forall.2 ?_;intro _;try dsimp only)|(intro _;try dsimp only))<;>(try dsimp only at*)<;>(try simp only[AS,List.length_cons,List.length_nil])<;>(try omega)
 all_goals(rw[Bool.eq_iff_iff];simp only[Cf,Bool.and_eq_true,Bool.or_eq_true,decide_eq_true_eq,Bool.not_eq_true',decide_eq_false_iff_not,bne_iff_ne,ne_eq,beq_iff_eq,Bool.not_not,reduceCtorEq,Bool.false_eq_true,true_iff,false_iff,iff_true,iff_false,not_true,not_false_eq_true]<;>omega))
def Fe:Sig:= {X:=UInt8,args:=fun x=>[.int .u8 x.toNat],pre:=fun x=>True,Y:=Unit,post:=fun x y=>True,res:=fun x y=> .bool (Cf x),outs:=fun x y=>[.top],keep:=false}
theorem YH:Am G Tryz.prog 52 Fe:=
 vcFun_okP [] [] false (fun x=>[]) Tryz.func52 rfl (by decide) trivial (fun(x:UInt8)=>(∀(y:Unit),True→True∧True∧True)∧Aa (decide ((↑(UInt8.toNat x):Int)≥(97:Int))) (Aa (decide ((↑(UInt8.toNat x):Int)≤(122:Int))) (rA Fe x [.bool true,.top]) (Aa (decide ((↑(UInt8.toNat x):Int)≥(65:Int))) (Aa (decide ((↑(UInt8.toNat x):Int)≤(90:Int))) (rA Fe x [.bool true,.top]) (rA Fe x [.bool ((↑(UInt8.toNat x):Int)==(95:Int)),.top])) (rA Fe x [.bool ((↑(UInt8.toNat x):Int)==(95:Int)),.top]))) (Aa (decide ((↑(UInt8.toNat x):Int)≥(65:Int))) (Aa (decide ((↑(UInt8.toNat x):Int)≤(90:Int))) (rA Fe x [.bool true,.top]) (rA Fe x [.bool ((↑(UInt8.toNat x):Int)==(95:Int)),.top])) (rA Fe x [.bool ((↑(UInt8.toNat x):Int)==(95:Int)),.top]))) (fun x=>by kernel_rfl) fun(x:UInt8) (hx:True)=>(by
 dsimp only[rA,Fe,Aw,AR]
 (repeat' first|(with_reducible first|rfl|exact True.intro|apply AM|apply And.intro|((first|apply AC|apply AK|apply AD|apply AL)<;>intro _))|(apply AB<;>intro _)|apply AJ|refine Ag () ?_ ?_|((first|apply AQ|apply AP|apply AO|apply AN|apply AI|apply AH|apply AG|apply AF|apply AE)<;>try dsimp only)|apply Ag|(refine Prod.forall.2 ?_;intro _;try dsimp only)|(intro _;try dsimp only))<;>(try dsimp only at*)<;>(try simp only[AS,List.length_cons,List.length_nil])<;>(try omega)
 all_goals(rw[Bool.eq_iff_iff];simp only[Cf,Bool.and_eq_true,Bool.or_eq_true,decide_eq_true_eq,Bool.not_eq_true',decide_eq_false_iff_not,bne_iff_ne,ne_eq,beq_iff_eq,Bool.not_not,reduceCtorEq,Bool.false_eq_true,true_iff,false_iff,iff_true,iff_false,not_true,not_false_eq_true]<;>omega))
def KF:Sig:= {X:=UInt8,args:=fun x=>[.int .u8 x.toNat],pre:=fun x=>True,Y:=Unit,post:=fun x y=>True,res:=fun x y=> .bool (BD x),outs:=fun x y=>[.top],keep:=false}
theorem a5D:Am G Tryz.prog 131 KF:=
 vcFun_okP [(129,0,FI),(132,0,GB)] [] false (fun x=>[]) Tryz.func131 rfl (by decide) ⟨YG,Uy,trivial⟩ (fun(x:UInt8)=>(∀(y:Unit),True→True∧True∧True)∧cA FI [AV.int IntKind.u8 (↑(UInt8.toNat x):Int)] fun x_1 y=>Aa (Cf x_1) (rA KF x [.bool true,.top]) (cA GB [AV.int IntKind.u8 (↑(UInt8.toNat x):Int)] fun x_2 y=>rA KF x [.bool (Bj x_2),.top])) (fun x=>by kernel_rfl) fun(x:UInt8) (hx:True)=>(by
 dsimp only[cA,rA,GB,FI,KF,Aw,AR,mvL,lnL,mvE,lnE]
 (repeat' first|(with_reducible first|rfl|exact True.intro|apply AM|apply And.intro|((first|apply AC|apply AK|apply AD|apply AL)<;>intro _))|(apply AB<;>intro _)|apply AJ|refine Ag () ?_ ?_|((first|apply AQ|apply AP|apply AO|apply AN|apply AI|apply AH|apply AG|apply AF|apply AE)<;>try dsimp only)|apply Ag|(refine Prod.forall.2 ?_;intro _;try dsimp only)|(intro _;try dsimp only))<;>(try dsimp only at*)<;>(try simp only[AS,List.length_cons,List.length_nil])<;>(try omega)
 all_goals simp [BD, *])
def Il:Sig:= {X:=UInt8,args:=fun x=>[.int .u8 x.toNat],pre:=fun x=>True,Y:=Unit,post:=fun x y=>True,res:=fun x y=> .bool (BZ x),outs:=fun x y=>[.top],keep:=false}
theorem YI:Am G Tryz.prog 81 Il:=
 vcFun_okP [] [] false (fun x=>[]) Tryz.func81 rfl (by decide) trivial (fun(x:UInt8)=>(∀(y:Unit),True→True∧True∧True)∧Aa (decide ((↑(UInt8.toNat x):Int)≥(32:Int))) (rA Il x [.bool (decide ((↑(UInt8.toNat x):Int)≤(126:Int))),.top]) (rA Il x [.bool false,.top])) (fun x=>by kernel_rfl) fun(x:UInt8) (hx:True)=>(by
 dsimp only[rA,Il,Aw,AR]
 (repeat' first|(with_reducible first|rfl|exact True.intro|apply AM|apply And.intro|((first|apply AC|apply AK|apply AD|apply AL)<;>intro _))|(apply AB<;>intro _)|apply AJ|refine Ag () ?_ ?_|((first|apply AQ|apply AP|apply AO|apply AN|apply AI|apply AH|apply AG|apply AF|apply AE)<;>try dsimp only)|apply Ag|(refine Prod.forall.2 ?_;intro _;try dsimp only)|(intro _;try dsimp only))<;>(try dsimp only at*)<;>(try simp only[AS,List.length_cons,List.length_nil])<;>(try omega)
 all_goals(rw[Bool.eq_iff_iff];simp only[BZ,Bool.and_eq_true,Bool.or_eq_true,decide_eq_true_eq,Bool.not_eq_true',decide_eq_false_iff_not,bne_iff_ne,ne_eq,beq_iff_eq,Bool.not_not,reduceCtorEq,Bool.false_eq_true,true_iff,false_iff,iff_true,iff_false,not_true,not_false_eq_true]<;>omega))
def MG:Sig:= {X:=UInt8,args:=fun x=>[.int .u8 x.toNat],pre:=fun x=>True,Y:=Unit,post:=fun x y=>True,res:=fun x y=> .bool (BM x),outs:=fun x y=>[.top],keep:=false}
theorem a5E:Am G Tryz.prog 135 MG:=
 vcFun_okP [] [] false (fun x=>[]) Tryz.func135 rfl (by decide) trivial (fun(x:UInt8)=>(∀(y:Unit),True→True∧True∧True)∧rA MG x [.bool ((↑(UInt8.toNat x):Int) != (10:Int)),.top]) (fun x=>by kernel_rfl) fun(x:UInt8) (hx:True)=>(by
 dsimp only[rA,MG,Aw,AR]
 (repeat' first|(with_reducible first|rfl|exact True.intro|apply AM|apply And.intro|((first|apply AC|apply AK|apply AD|apply AL)<;>intro _))|(apply AB<;>intro _)|apply AJ|refine Ag () ?_ ?_|((first|apply AQ|apply AP|apply AO|apply AN|apply AI|apply AH|apply AG|apply AF|apply AE)<;>try dsimp only)|apply Ag|(refine Prod.forall.2 ?_;intro _;try dsimp only)|(intro _;try dsimp only))<;>(try dsimp only at*)<;>(try simp only[AS,List.length_cons,List.length_nil])<;>(try omega)
 all_goals(rw[Bool.eq_iff_iff];simp only[BM,Bool.and_eq_true,Bool.or_eq_true,decide_eq_true_eq,Bool.not_eq_true',decide_eq_false_iff_not,bne_iff_ne,ne_eq,beq_iff_eq,Bool.not_not,reduceCtorEq,Bool.false_eq_true,true_iff,false_iff,iff_true,iff_false,not_true,not_false_eq_true]<;>omega))
def Ea(p:UInt8→Bool)(x:List UInt8)(rs:Int→List (Nat×AV)):LS:= {
 ι:=Int,inv:=fun i=>0≤i∧i≤x.length∧∀e∈x.take i.toNat,p e=true,regs:=rs,als:=[],meas:=fun i=>x.length-i.toNat}
def HB:Sig:= {X:=List UInt8,args:=fun x=>[.str x],pre:=fun x=>x.length<2^63,Y:=Unit,post:=fun x y=>True,res:=fun x y=> .bool (x.all BZ),outs:=fun x y=>[.top],keep:=false}
theorem YJ:Am G Tryz.prog 137 HB:=
 vcFun_okP [] [] false (fun x=>[(2,Ea BZ x fun i=>[(0,.str x),(3,.int .i64 i)])]) Tryz.func137 rfl (by decide) trivial (fun(x:List UInt8)=>(∀(y:Unit),True→True∧True∧True)∧eA (Ea BZ x fun(i:Int)=>[((0:Nat),.str x),((3:Nat),.int .i64 i)]) [.str x,.int .i64 (0:Int)]∧∀(i:Int),((0:Int)≤i∧i≤(↑(List.length x):Int)∧∀(e:UInt8),e∈List.take (Int.toNat i) x→BZ e=true)→Aa (decide (i<(↑(List.length x):Int))) (((0:Int)≤i∧i<(↑(List.length x):Int))∧∀(c:UInt8),x[Int.toNat i]? =some c→Aa (decide ((↑(UInt8.toNat c):Int)<(32:Int))) (rA HB x [.bool false,.top]) (((0:Int)≤i∧i<(↑(List.length x):Int))∧∀(c:UInt8),x[Int.toNat i]? =some c→Aa (decide ((↑(UInt8.toNat c):Int)>(126:Int))) (rA HB x [.bool false,.top]) (inR IntKind.i64 (i+(1:Int))∧eN (Ea BZ x fun(i:Int)=>[((0:Nat),.str x),((3:Nat),.int .i64 i)]) i [.str x,.int .i64 (i+(1:Int))]))) (rA HB x [.bool true,.top])) (fun x=>by kernel_rfl) fun(x:List UInt8) (hx:x.length<2^63)=>(by
 dsimp only[eA,eN,Ea,rA,HB,Aw,AR,Br]
 (repeat' first|(with_reducible first|rfl|exact True.intro|apply AM|apply And.intro|((first|apply AC|apply AK|apply AD|apply AL)<;>intro _))|(apply AB<;>intro _)|apply AJ|refine Ag () ?_ ?_|((first|apply AQ|apply AP|apply AO|apply AN|apply AI|apply AH|apply AG|apply AF|apply AE)<;>try dsimp only)|apply Ag|(refine Prod.forall.2 ?_;intro _;try dsimp only)|(intro _;try dsimp only))<;>(try dsimp only at*)<;>(try simp only[AS,List.length_cons,List.length_nil])<;>(try omega)
 ·rename_i h;simp at h
 ·rename_i i hi hl c hc h;exact(Qj hc (by(rw[Bool.eq_iff_iff];simp only[BZ,Bool.and_eq_true,Bool.or_eq_true,decide_eq_true_eq,Bool.not_eq_true',decide_eq_false_iff_not,bne_iff_ne,ne_eq,beq_iff_eq,Bool.not_not,reduceCtorEq,Bool.false_eq_true,true_iff,false_iff,iff_true,iff_false,not_true,not_false_eq_true]<;>omega))).symm
 ·rename_i i hi hl c hc h d hd h2;exact(Qj hd (by(rw[Bool.eq_iff_iff];simp only[BZ,Bool.and_eq_true,Bool.or_eq_true,decide_eq_true_eq,Bool.not_eq_true',decide_eq_false_iff_not,bne_iff_ne,ne_eq,beq_iff_eq,Bool.not_not,reduceCtorEq,Bool.false_eq_true,true_iff,false_iff,iff_true,iff_false,not_true,not_false_eq_true]<;>omega))).symm
 ·rename_i i hi hl c hc h d hd h2 e he
  rw[hc] at hd;cases hd
  rw[Dz hi.1] at he;exact Ou hi.2.2 hc (by(rw[Bool.eq_iff_iff];simp only[BZ,Bool.and_eq_true,Bool.or_eq_true,decide_eq_true_eq,Bool.not_eq_true',decide_eq_false_iff_not,bne_iff_ne,ne_eq,beq_iff_eq,Bool.not_not,reduceCtorEq,Bool.false_eq_true,true_iff,false_iff,iff_true,iff_false,not_true,not_false_eq_true]<;>omega)) e he
 ·rename_i i hi hl;exact(Ut hi.2.2 (by omega)).symm)
def KG:Sig:= {X:=List UInt8,args:=fun x=>[.str x,.clo (.func 131) []],pre:=fun x=>x.length<2^63,Y:=Unit,post:=fun x y=>True,res:=fun x y=> .str (x.takeWhile BD),outs:=fun x y=>[.top,.top],keep:=false}
theorem a5F:Am G Tryz.prog 130 KG:=
 vcFun_okP [(131,0,KF)] [] false (fun x=>[(2,Ea BD x fun i=>[(0,.str x),(1,.clo (.func 131) []),(5,.int .i64 i)])]) Tryz.func130 rfl (by decide) ⟨a5D,trivial⟩ (fun(x:List UInt8)=>(∀(y:Unit),True→True∧True∧True∧True)∧eA (Ea BD x fun(i:Int)=>[((0:Nat),.str x),((1:Nat),AV.clo (Fn.func (84:FuncId)) []),((5:Nat),.int .i64 i)]) [.str x,AV.clo (Fn.func (84:FuncId)) [],.int .i64 (0:Int)]∧∀(i:Int),((0:Int)≤i∧i≤(↑(List.length x):Int)∧∀(e:UInt8),e∈List.take (Int.toNat i) x→BD e=true)→Aa (decide (i<(↑(List.length x):Int))) (((0:Int)≤i∧i<(↑(List.length x):Int))∧∀(c:UInt8),x[Int.toNat i]? =some c→cA KF [AV.int IntKind.u8 (↑(UInt8.toNat c):Int)] fun x_1 y=>Aa (BD x_1) (inR IntKind.i64 (i+(1:Int))∧eN (Ea BD x fun(i:Int)=>[((0:Nat),.str x),((1:Nat),AV.clo (Fn.func (84:FuncId)) []),((5:Nat),.int .i64 i)]) i [.str x,AV.clo (Fn.func (84:FuncId)) [],.int .i64 (i+(1:Int))]) (((0:Int)≤(0:Int)∧(0:Int)≤i∧i≤(↑(List.length x):Int))∧rA KG x [.str (List.take (Int.toNat i) x),.top,.top])) (((0:Int)≤(0:Int)∧(0:Int)≤i∧i≤(↑(List.length x):Int))∧rA KG x [.str (List.take (Int.toNat i) x),.top,.top])) (fun x=>by kernel_rfl) fun(x:List UInt8) (hx:x.length<2^63)=>(by
 dsimp only[cA,eA,eN,Ea,rA,KF,KG,Aw,AR,mvL,lnL,mvE,lnE,Br]
 (repeat' first|(with_reducible first|rfl|exact True.intro|apply AM|apply And.intro|((first|apply AC|apply AK|apply AD|apply AL)<;>intro _))|(apply AB<;>intro _)|apply AJ|refine Ag () ?_ ?_|((first|apply AQ|apply AP|apply AO|apply AN|apply AI|apply AH|apply AG|apply AF|apply AE)<;>try dsimp only)|apply Ag|(refine Prod.forall.2 ?_;intro _;try dsimp only)|(intro _;try dsimp only))<;>(try dsimp only at*)<;>(try simp only[AS,List.length_cons,List.length_nil])<;>(try omega)
 ·rename_i h;simp at h
 ·rename_i i hi hl c hc y _ hp e he
  rw[Dz hi.1] at he;exact Ou hi.2.2 hc hp e he
 ·rename_i i hi hl c hc y _ hp
  exact IW hi.2.2 (.inr ⟨c,hc,hp⟩)
 ·rename_i i hi hl
  exact IW hi.2.2 (.inl (by omega)))
def KH:Sig:= {X:=List UInt8,args:=fun x=>[.str x,.clo (.func 132) []],pre:=fun x=>x.length<2^63,Y:=Unit,post:=fun x y=>True,res:=fun x y=> .str (x.takeWhile Bj),outs:=fun x y=>[.top,.top],keep:=false}
theorem a5G:Am G Tryz.prog 130 KH:=
 vcFun_okP [(132,0,GB)] [] false (fun x=>[(2,Ea Bj x fun i=>[(0,.str x),(1,.clo (.func 132) []),(5,.int .i64 i)])]) Tryz.func130 rfl (by decide) ⟨Uy,trivial⟩ (fun(x:List UInt8)=>(∀(y:Unit),True→True∧True∧True∧True)∧eA (Ea Bj x fun(i:Int)=>[((0:Nat),.str x),((1:Nat),AV.clo (Fn.func (85:FuncId)) []),((5:Nat),.int .i64 i)]) [.str x,AV.clo (Fn.func (85:FuncId)) [],.int .i64 (0:Int)]∧∀(i:Int),((0:Int)≤i∧i≤(↑(List.length x):Int)∧∀(e:UInt8),e∈List.take (Int.toNat i) x→Bj e=true)→Aa (decide (i<(↑(List.length x):Int))) (((0:Int)≤i∧i<(↑(List.length x):Int))∧∀(c:UInt8),x[Int.toNat i]? =some c→cA GB [AV.int IntKind.u8 (↑(UInt8.toNat c):Int)] fun x_1 y=>Aa (Bj x_1) (inR IntKind.i64 (i+(1:Int))∧eN (Ea Bj x fun(i:Int)=>[((0:Nat),.str x),((1:Nat),AV.clo (Fn.func (85:FuncId)) []),((5:Nat),.int .i64 i)]) i [.str x,AV.clo (Fn.func (85:FuncId)) [],.int .i64 (i+(1:Int))]) (((0:Int)≤(0:Int)∧(0:Int)≤i∧i≤(↑(List.length x):Int))∧rA KH x [.str (List.take (Int.toNat i) x),.top,.top])) (((0:Int)≤(0:Int)∧(0:Int)≤i∧i≤(↑(List.length x):Int))∧rA KH x [.str (List.take (Int.toNat i) x),.top,.top])) (fun x=>by kernel_rfl) fun(x:List UInt8) (hx:x.length<2^63)=>(by
 dsimp only[cA,eA,eN,Ea,rA,GB,KH,Aw,AR,mvL,lnL,mvE,lnE,Br]
 (repeat' first|(with_reducible first|rfl|exact True.intro|apply AM|apply And.intro|((first|apply AC|apply AK|apply AD|apply AL)<;>intro _))|(apply AB<;>intro _)|apply AJ|refine Ag () ?_ ?_|((first|apply AQ|apply AP|apply AO|apply AN|apply AI|apply AH|apply AG|apply AF|apply AE)<;>try dsimp only)|apply Ag|(refine Prod.forall.2 ?_;intro _;try dsimp only)|(intro _;try dsimp only))<;>(try dsimp only at*)<;>(try simp only[AS,List.length_cons,List.length_nil])<;>(try omega)
 ·rename_i h;simp at h
 ·rename_i i hi hl c hc y _ hp e he
  rw[Dz hi.1] at he;exact Ou hi.2.2 hc hp e he
 ·rename_i i hi hl c hc y _ hp
  exact IW hi.2.2 (.inr ⟨c,hc,hp⟩)
 ·rename_i i hi hl
  exact IW hi.2.2 (.inl (by omega)))
def KI:Sig:= {X:=List UInt8,args:=fun x=>[.str x,.clo (.func 135) []],pre:=fun x=>x.length<2^63,Y:=Unit,post:=fun x y=>True,res:=fun x y=> .str (x.takeWhile BM),outs:=fun x y=>[.top,.top],keep:=false}
theorem a5H:Am G Tryz.prog 130 KI:=
 vcFun_okP [(135,0,MG)] [] false (fun x=>[(2,Ea BM x fun i=>[(0,.str x),(1,.clo (.func 135) []),(5,.int .i64 i)])]) Tryz.func130 rfl (by decide) ⟨a5E,trivial⟩ (fun(x:List UInt8)=>(∀(y:Unit),True→True∧True∧True∧True)∧eA (Ea BM x fun(i:Int)=>[((0:Nat),.str x),((1:Nat),AV.clo (Fn.func (88:FuncId)) []),((5:Nat),.int .i64 i)]) [.str x,AV.clo (Fn.func (88:FuncId)) [],.int .i64 (0:Int)]∧∀(i:Int),((0:Int)≤i∧i≤(↑(List.length x):Int)∧∀(e:UInt8),e∈List.take (Int.toNat i) x→BM e=true)→Aa (decide (i<(↑(List.length x):Int))) (((0:Int)≤i∧i<(↑(List.length x):Int))∧∀(c:UInt8),x[Int.toNat i]? =some c→cA MG [AV.int IntKind.u8 (↑(UInt8.toNat c):Int)] fun x_1 y=>Aa (BM x_1) (inR IntKind.i64 (i+(1:Int))∧eN (Ea BM x fun(i:Int)=>[((0:Nat),.str x),((1:Nat),AV.clo (Fn.func (88:FuncId)) []),((5:Nat),.int .i64 i)]) i [.str x,AV.clo (Fn.func (88:FuncId)) [],.int .i64 (i+(1:Int))]) (((0:Int)≤(0:Int)∧(0:Int)≤i∧i≤(↑(List.length x):Int))∧rA KI x [.str (List.take (Int.toNat i) x),.top,.top])) (((0:Int)≤(0:Int)∧(0:Int)≤i∧i≤(↑(List.length x):Int))∧rA KI x [.str (List.take (Int.toNat i) x),.top,.top])) (fun x=>by kernel_rfl) fun(x:List UInt8) (hx:x.length<2^63)=>(by
 dsimp only[cA,eA,eN,Ea,rA,KI,MG,Aw,AR,mvL,lnL,mvE,lnE,Br]
 (repeat' first|(with_reducible first|rfl|exact True.intro|apply AM|apply And.intro|((first|apply AC|apply AK|apply AD|apply AL)<;>intro _))|(apply AB<;>intro _)|apply AJ|refine Ag () ?_ ?_|((first|apply AQ|apply AP|apply AO|apply AN|apply AI|apply AH|apply AG|apply AF|apply AE)<;>try dsimp only)|apply Ag|(refine Prod.forall.2 ?_;intro _;try dsimp only)|(intro _;try dsimp only))<;>(try dsimp only at*)<;>(try simp only[AS,List.length_cons,List.length_nil])<;>(try omega)
 ·rename_i h;simp at h
 ·rename_i i hi hl c hc y _ hp e he
  rw[Dz hi.1] at he;exact Ou hi.2.2 hc hp e he
 ·rename_i i hi hl c hc y _ hp
  exact IW hi.2.2 (.inr ⟨c,hc,hp⟩)
 ·rename_i i hi hl
  exact IW hi.2.2 (.inl (by omega)))
end Go.My
end
section
namespace Go.My
open Go.Eng
def MH(x:List UInt8):SgR:=if BW (x.take 2) then⟨4,x.take 2,(x.take 2).length,true⟩ else if BW (x.take 1) then⟨4,x.take 1,1,true⟩ else⟨0,[],0,false⟩
def HC(x:List UInt8)(i:Int):Prop:=(0≤i∧i≤2∧i≤x.length)∧Be x=MH x∧∀j:Nat,i<j→j≤2→j≤x.length→BW (x.take j)=false
theorem a5I{x:List UInt8}{i:Int}(h:HC x i)(hx:1≤x.length)(h0:i>0)(hm:BW (x.take i.toNat)=true):Be x=⟨4,x.take i.toNat,i,true⟩:=by
 obtain⟨⟨h1,h2,h3⟩,h4,h5⟩:=h
 rw[h4]
 have hi:i=1∨i=2:=by omega
 rcases hi with rfl|rfl
 ·by_cases hl:x.length=1
  ·have e:x.take 2=x.take 1:=by rw[List.take_of_length_le (by omega),List.take_of_length_le (by omega)]
   have hm':BW (x.take 1)=true:=hm
   simp only[MH,e,hm',if_true]
   have:(x.take 1).length=1:=by simp;omega
   rw[this];rfl
  ·have:=h5 2 (by omega) (by omega) (by omega)
   have hm':BW (x.take 1)=true:=hm
   simp only[MH,this,hm',Bool.false_eq_true,if_false,if_true];rfl
 ·have hm':BW (x.take 2)=true:=hm
  simp only[MH,hm',if_true]
  have:(x.take 2).length=2:=by simp;omega
  rw[this];rfl
theorem a5J{x:List UInt8}{i:Int}(h:HC x i)(hx:1≤x.length)(h0:¬i>0):Be x=⟨0,[],0,false⟩:=by
 obtain⟨⟨h1,h2,h3⟩,h4,h5⟩:=h
 rw[h4]
 have a1:=h5 1 (by omega) (by omega) hx
 have a2:BW (x.take 2)=false:=by
  by_cases hl:x.length=1
  ·have e:x.take 2=x.take 1:=by rw[List.take_of_length_le (by omega),List.take_of_length_le (by omega)]
   rw[e];exact a1
  ·exact h5 2 (by omega) (by omega) (by omega)
 simp only[MH,a1,a2,Bool.false_eq_true,if_false]
theorem a5K{x:List UInt8}{i:Int}(h:HC x i)(h0:i>0)(hm:BW (x.take i.toNat)=false):HC x (i-1):=by
 obtain⟨⟨h1,h2,h3⟩,h4,h5⟩:=h
 refine⟨⟨by omega,by omega,by omega⟩,h4,fun j a b c=> ?_⟩
 by_cases e:(j:Int)=i
 ·have:j=i.toNat:=by omega
  rw[this];exact hm
 ·exact h5 j (by omega) b c
theorem a5L{b:UInt8}{t:List UInt8}(h1:Cf b=false)(h2:Bj b=false)(h3:¬b.toNat=39)(h4:(b::t).take 2≠[47,47]):HC (b::t) (min 2 ((b::t).length:Int)):=by
 refine⟨⟨by omega,by omega,by omega⟩,?_,fun j a b c=>by omega⟩
 simp only[Be,h1,h2,h3,h4,Bool.false_eq_true,if_false,MH]
theorem UA{b:UInt8}{t:List UInt8}(h:Cf b=true):Be (b::t)=⟨1,(b::t).takeWhile BD,((b::t).takeWhile BD).length,decide ((((b::t).takeWhile BD).length:Int)≤30)⟩:=by
 have:decide ((((b::t).takeWhile BD).length:Int)≤30)=decide (((b::t).takeWhile BD).length≤30):=decide_eq_decide.2 (by omega)
 rw[this];simp [Be,h]
theorem UB{b:UInt8}{t:List UInt8}(h0:Cf b=false)(h:Bj b=true):Be (b::t)=⟨2,(b::t).takeWhile Bj,((b::t).takeWhile Bj).length,decide ((((b::t).takeWhile Bj).length:Int)≤12)⟩:=by
 have:decide ((((b::t).takeWhile Bj).length:Int)≤12)=decide (((b::t).takeWhile Bj).length≤12):=decide_eq_decide.2 (by omega)
 rw[this];simp [Be,h,h0]
theorem a5M{b:UInt8}{t:List UInt8}(h0:Cf b=false)(h1:Bj b=false)(h:(b.toNat:Int)=39):Be (b::t)=⟨3,(CY (b::t)).1,(CY (b::t)).1.length,(CY (b::t)).2⟩:=by
 have h:b.toNat=39:=by omega
 simp [Be,h0,h1,h]
theorem a5N{b:UInt8}{t:List UInt8}(h0:Cf b=false)(h1:Bj b=false)(h2:(b.toNat:Int)≠39)(h:(b::t).take 2=[47,47]):
 Be (b::t)=⟨5,Ca ((b::t).takeWhile BM),((b::t).takeWhile BM).length,((b::t).takeWhile BM).all BZ⟩:=by
 have h2:¬b.toNat=39:=by omega
 simp only[Be,h0,h1,h2,h,Bool.false_eq_true,if_false,if_true]
theorem UC(s:List UInt8)(c:UInt8):Ca (s++[c])=if c.toNat=32 then Ca s else s++[c]:=by
 unfold Ca
 rw[List.reverse_append]
 simp only[List.reverse_cons,List.reverse_nil,List.nil_append,List.singleton_append,List.dropWhile_cons]
 by_cases h:c.toNat=32
 ·simp [h]
 ·simp [h]
theorem a5O{s:List UInt8}{c:UInt8}(h:s[s.length-1]? =some c):s=s.take (s.length-1)++[c]:=by
 have h1:=Fb h
 have:s.length-1+1=s.length:=by
  have:=(List.getElem?_eq_some_iff.1 h).1;omega
 rw[this,List.take_length] at h1
 exact h1
theorem YK{s:List UInt8}{c:UInt8}(h:s[s.length-1]? =some c):Ca s=if c.toNat=32 then Ca (s.take (s.length-1)) else s:=by
 have h1:=a5O h
 rw[h1,UC]
 split
 ·rw[List.length_append];simp
 ·rfl
theorem YL{s:List UInt8}{n:Nat}{c:UInt8}(h:s[n]? =some c):Ca (s.take (n+1))=if c.toNat=32 then Ca (s.take n) else s.take (n+1):=by
 rw[Fb h,UC]
theorem a5P(s:List UInt8):∃n,Ca s=s.take n:=by
 unfold Ca
 refine⟨(s.reverse.dropWhile fun c=>decide (c.toNat=32)).length,?_⟩
 have:=List.dropWhile_suffix (fun c:UInt8=>decide (c.toNat=32)) (l:=s.reverse)
 have:=List.reverse_prefix.2 this
 rw[List.reverse_reverse] at this
 have h2:=List.prefix_iff_eq_take.1 this
 rw[List.length_reverse] at h2
 exact h2
def isQ(c:UInt8):Bool:=decide (c.toNat=39)
def CB(s:List UInt8):Nat:=match CI isQ (s.drop 1) with
 |none=>0
 |some i=>if((s.drop 1).take i).all BZ then i+2 else 0
def Cs(s:List UInt8):Nat:=if s.take 2=[47,47] then(if(s.takeWhile BM).all BZ then(s.takeWhile BM).length else 0) else 0
theorem Qo(s:List UInt8):CY s=match CI isQ (s.drop 1) with
 |none=>([],false)
 |some i=>(s.take (i+2),(s.take (i+2)).all BZ):=rfl
theorem YM{c:UInt8}(h:isQ c=true):BZ c=true:=by
 simp [isQ] at h;simp [BZ,h]
theorem Qp{p:UInt8→Bool}{s:List UInt8}{i:Nat}(h:CI p s=some i):i<s.length:=by
 obtain⟨_,e,he,_⟩:=KC.1 h
 exact(List.getElem?_eq_some_iff.1 he).1
theorem Qq{c:UInt8}{s:List UInt8}(hc:isQ c=true):(CY (c::s)).2=true↔CB (c::s)≠0:=by
 rw[Qo];unfold CB
 simp only[List.drop_succ_cons,List.drop_zero]
 cases h:CI isQ s with
 |none=>simp
 |some i=>
  simp only[List.take_succ_cons,List.all_cons,YM hc,Bool.true_and]
  obtain⟨h1,e,he,hq⟩:=KC.1 h
  rw[Fb he,List.all_append]
  simp [YM hq]
theorem YN{c:UInt8}{s:List UInt8}(hc:isQ c=true)(h:CB (c::s)≠0):(CY (c::s)).1=(c::s).take (CB (c::s))∧CB (c::s)≤(c::s).length:=by
 rw[Qo];unfold CB at h ⊢
 simp only[List.drop_succ_cons,List.drop_zero] at h ⊢
 cases hi:CI isQ s with
 |none=>rw[hi] at h;simp at h
 |some i=>
  rw[hi] at h
  simp only at h ⊢
  split at h
  ·rename_i hp
   have:=Qp hi
   rw[if_pos hp]
   exact⟨rfl,by simp;omega⟩
  ·exact(h rfl).elim
theorem a5Q{c:UInt8}(h:Cf c=true):Bj c=false:=by
 simp [Cf,Bj] at h ⊢;omega
theorem a5R{c:UInt8}(h:Cf c=true):BD c=true:=by simp [BD,h]
theorem a5S(s:List UInt8):Cw s 1=match s with
 |[]=>false
 |c::_=>Cf c&&(s.all BD&&decide (s.length≤30)):=by
 cases s with
 |nil=>rfl
 |cons c t=>
  by_cases hc:Cf c=true
  ·simp only[Cw,Be,hc,if_true,Bool.true_and]
   by_cases ha:(c::t).all BD=true
   ·have:=Qk.2 ha
    rw[this,ha];simp
   ·have hn:¬(c::t).takeWhile BD=c::t:=fun e=>ha (Qk.1 e)
    simp only[Bool.not_eq_true] at ha
    rw[ha]
    have:((c::t).takeWhile BD==c::t)=false:=by rw[beq_eq_false_iff_ne];exact hn
    rw[this];simp
  ·simp only[Bool.not_eq_true] at hc
   simp only[hc,Bool.false_and]
   rw[Bool.eq_false_iff]
   intro h
   simp only[Cw,Be,hc,Bool.false_eq_true,if_false,Bool.and_eq_true,decide_eq_true_eq] at h
   have h1:=h.2.2.1
   repeat' split at h1
   all_goals simp at h1
theorem YO(s:List UInt8):Cw s 2=(s.all Bj&&(decide (1≤s.length)&&decide (s.length≤12))):=by
 cases s with
 |nil=>rfl
 |cons c t=>
  by_cases hc:Cf c=true
  ·have hf:=a5Q hc
   simp only[List.all_cons,hf,Bool.false_and]
   simp [Cw,Be,hc]
  ·simp only[Bool.not_eq_true] at hc
   by_cases hf:Bj c=true
   ·simp only[Cw,Be,hc,hf,Bool.false_eq_true,if_false,if_true]
    by_cases ha:(c::t).all Bj=true
    ·have:=Qk.2 ha
     rw[this,ha];simp
    ·have hn:¬(c::t).takeWhile Bj=c::t:=fun e=>ha (Qk.1 e)
     simp only[Bool.not_eq_true] at ha
     rw[ha]
     have:((c::t).takeWhile Bj==c::t)=false:=by rw[beq_eq_false_iff_ne];exact hn
     rw[this];simp
   ·simp only[Bool.not_eq_true] at hf
    simp only[List.all_cons,hf,Bool.false_and]
    rw[Bool.eq_false_iff]
    intro h
    simp only[Cw,Be,hc,hf,Bool.false_eq_true,if_false,Bool.and_eq_true,decide_eq_true_eq] at h
    have h1:=h.2.2.1
    repeat' split at h1
    all_goals simp at h1
theorem UD(s:List UInt8):Cw s 3=match s with
 |[]=>false
 |c::_=>isQ c&&(decide (1<s.length)&&decide (CB s=s.length)):=by
 cases s with
 |nil=>rfl
 |cons c t=>
  by_cases hq:isQ c=true
  ·have h39:c.toNat=39:=by simpa [isQ] using hq
   have hc:Cf c=false:=by simp [Cf];omega
   have hf:Bj c=false:=by simp [Bj];omega
   simp only[hq,Bool.true_and]
   simp only[Cw,Be,hc,hf,h39,Bool.false_eq_true,if_false,if_true]
   by_cases h0:CB (c::t)=0
   ·have h2:(CY (c::t)).2=false:=by
     rw[Bool.eq_false_iff];intro h;exact(Qq hq).1 h h0
    rw[h2,h0];simp
   ·have h2:=(Qq hq).2 h0
    obtain⟨h3,h4⟩:=YN hq h0
    have h5:1<CB (c::t):=by
     unfold CB at h0 ⊢
     split at h0
     ·exact(h0 rfl).elim
     ·split at h0
      ·rename_i hp;rw[if_pos hp];omega
      ·exact(h0 rfl).elim
    rw[h2,h3]
    rw[Bool.eq_iff_iff]
    simp only[Bool.and_eq_true,Bool.not_eq_true',decide_eq_true_eq,beq_iff_eq,List.length_take]
    constructor
    ·rintro⟨_,_,_,e,hl⟩
     have:=congrArg List.length e
     simp only[List.length_take] at this
     constructor<;>omega
    ·rintro⟨h6,h7⟩
     refine⟨by simp,trivial,trivial,?_,?_⟩
     ·rw[h7,List.take_length]
     ·omega
  ·simp only[Bool.not_eq_true] at hq
   have h39:¬c.toNat=39:=by simpa [isQ] using hq
   simp only[hq,Bool.false_and]
   rw[Bool.eq_false_iff]
   intro h
   simp only[Cw,Be,h39,if_false,Bool.and_eq_true,decide_eq_true_eq] at h
   have h1:=h.2.2.1
   repeat' split at h1
   all_goals simp at h1
theorem UE(s:List UInt8):Cw s 5=(decide (1<s.length)&&(decide (Cs s=s.length)&&(Ca s==s))):=by
 cases s with
 |nil=>rfl
 |cons c t=>
  by_cases hp:(c::t).take 2=[47,47]
  ·have h47:c=47:=by
    have:=congrArg (fun l:List UInt8=>l.head?) hp
    simpa using this
   subst h47
   have hl:1<(47::t).length:=by
    have:=congrArg List.length hp
    simp only[List.length_take,List.length_cons,List.length_nil] at this ⊢;omega
   have hc:Cf 47=false:=by decide
   have hf:Bj 47=false:=by decide
   have hq:¬(47:UInt8).toNat=39:=by decide
   simp only[Cw,Be,hc,hf,hq,hp,Bool.false_eq_true,if_false,if_true,Cs]
   rw[Bool.eq_iff_iff]
   simp only[Bool.and_eq_true,Bool.not_eq_true',decide_eq_true_eq,beq_iff_eq,beq_eq_false_iff_ne]
   constructor
   ·rintro⟨_,h1,_,h2,h3⟩
    rw[if_pos h1]
    have h3:((47::t).takeWhile BM).length=(47::t).length:=by omega
    refine⟨hl,h3,?_⟩
    have e:(47::t).takeWhile BM=47::t:=by
     have:=List.takeWhile_prefix (p:=BM) (l:=47::t)
     exact List.IsPrefix.eq_of_length this h3
    rw[e] at h2;exact h2
   ·rintro⟨_,h1,h2⟩
    split at h1
    ·rename_i h3
     have e:(47::t).takeWhile BM=47::t:=by
      have:=List.takeWhile_prefix (p:=BM) (l:=47::t)
      exact List.IsPrefix.eq_of_length this h1
     rw[e] at h3 ⊢
     exact⟨by simp,h3,trivial,h2,rfl⟩
    ·simp at h1
  ·have h0:Cs (c::t)=0:=by simp only[Cs,if_neg hp]
   rw[h0]
   have:decide (0=(c::t).length)=false:=by simp
   rw[this]
   simp only[Bool.false_and,Bool.and_false]
   rw[Bool.eq_false_iff]
   intro h
   simp only[Cw,Be,hp,if_false,Bool.and_eq_true,decide_eq_true_eq] at h
   have h1:=h.2.2.1
   repeat' split at h1
   all_goals simp at h1
theorem a5T{s:List UInt8}{m:Nat}{e:UInt8}(h:∀e∈(s.drop 1).take m,isQ e=false∧BZ e=true)(he:(s.drop 1)[m]? =some e)(hq:isQ e=true):CB s=m+2:=by
 unfold CB
 rw[KC.2 ⟨fun e he=>(h e he).1,e,he,hq⟩]
 simp only
 rw[if_pos (List.all_eq_true.2 fun e he=>(h e he).2)]
theorem a5U{s:List UInt8}{m:Nat}{e:UInt8}(h:∀e∈(s.drop 1).take m,isQ e=false∧BZ e=true)(he:(s.drop 1)[m]? =some e)(hq:isQ e=false)(hp:BZ e=false):CB s=0:=by
 unfold CB
 cases hi:CI isQ (s.drop 1) with
 |none=>rfl
 |some i=>
  simp only
  obtain⟨h1,d,hd,hdq⟩:=KC.1 hi
  rw[if_neg]
  intro hall
  have hmi:m<i:=by
   rcases Nat.lt_trichotomy m i with h'|h'|h'
   ·exact h'
   ·subst h';rw[he] at hd;cases hd;rw[hq] at hdq;cases hdq
   ·have:d∈(s.drop 1).take m:=by
     rw[List.mem_take_iff_getElem]
     obtain⟨a,b⟩:=List.getElem?_eq_some_iff.1 hd
     exact⟨i,by omega,b⟩
    rw[(h d this).1] at hdq;cases hdq
  have:e∈(s.drop 1).take i:=by
   rw[List.mem_take_iff_getElem]
   obtain⟨a,b⟩:=List.getElem?_eq_some_iff.1 he
   exact⟨m,by omega,b⟩
  rw[List.all_eq_true.1 hall e this] at hp;cases hp
theorem a5V{s:List UInt8}{m:Nat}(h:∀e∈(s.drop 1).take m,isQ e=false∧BZ e=true)(hl:(s.drop 1).length≤m):CB s=0:=by
 unfold CB
 rw[List.take_of_length_le hl] at h
 rw[Uu.2 fun e he=>(h e he).1]
theorem YP{s:List UInt8}{m:Nat}(hp:s.take 2=[47,47])(h:∀e∈s.take m,BM e=true∧BZ e=true)(he:s.length≤m∨∃e,s[m]? =some e∧BM e=false)(hm:m≤s.length):Cs s=m:=by
 have h1:=IW (fun e he=>(h e he).1) he
 unfold Cs
 rw[if_pos hp,←h1,if_pos (List.all_eq_true.2 fun e he=>(h e he).2),List.length_take];omega
theorem a5W{s:List UInt8}{m:Nat}{e:UInt8}(hp:s.take 2=[47,47])(h:∀e∈s.take m,BM e=true∧BZ e=true)(he:s[m]? =some e)(hn:BM e=true)(hq:BZ e=false):Cs s=0:=by
 unfold Cs
 rw[if_pos hp,if_neg]
 intro hall
 have:e∈s.takeWhile BM:=by
  have h2:s=s.take m++e::s.drop (m+1):=by rw[←Ik he,List.take_append_drop]
  rw[h2,List.takeWhile_append_of_pos (fun e he=>(h e he).1),List.takeWhile_cons,if_pos hn]
  simp
 rw[List.all_eq_true.1 hall e this] at hq;cases hq
theorem YQ{s:List UInt8}(hp:s.take 2≠[47,47]):Cs s=0:=by
 unfold Cs;rw[if_neg hp]
theorem UF{s:List UInt8}{a n:Int}(h0:0≤a)(h:a+1≤n):((s.drop a.toNat).drop 1)[(n-a-1).toNat]? =s[n.toNat]? :=by
 rw[List.getElem?_drop,List.getElem?_drop];congr 1;omega
theorem Ow{s:List UInt8}{a n:Int}(h0:0≤a)(h:a≤n):(s.drop a.toNat)[(n-a).toNat]? =s[n.toNat]? :=by
 rw[List.getElem?_drop];congr 1;omega
theorem Qr{p:UInt8→Prop}{s:List UInt8}{m k:Nat}{e:UInt8}(h:∀e∈s.take m,p e)(he:s[m]? =some e)(hp:p e)(hk:k=m+1):∀e∈s.take k,p e:=by
 subst hk
 rw[Fb he];intro x hx
 rcases List.mem_append.1 hx with hx|hx
 ·exact h x hx
 ·simp at hx;subst hx;exact hp
def qI(x:List UInt8×Int)(i:Int):Prop:=x.2+1≤i∧(i≤x.1.length∨i=x.2+1)∧∀e∈((x.1.drop x.2.toNat).drop 1).take (i-x.2-1).toNat,isQ e=false∧BZ e=true
theorem a5X{x:List UInt8×Int}:qI x (x.2+1):=by
 refine⟨by omega,.inr rfl,fun e he=> ?_⟩
 rw[show(x.2+1-x.2-1).toNat=0 by omega] at he;simp at he
theorem a5Y{x:List UInt8×Int}{i:Int}(h:qI x i):x.2+1≤i∧(i≤x.1.length∨i=x.2+1):=⟨h.1,h.2.1⟩
theorem a5Z{x:List UInt8×Int}{i:Int}{c:UInt8}(h0:0≤x.2)(h:qI x i)(hq:(c.toNat:Int)=39)(hc:x.1[i.toNat]? =some c):i+1-x.2=CB (x.1.drop x.2.toNat):=by
 have:=h.1
 rw[a5T h.2.2 (by rw[UF h0 h.1];exact hc) (by simp [isQ];omega)];omega
theorem a6a{x:List UInt8×Int}{i:Int}{c d:UInt8}(h0:0≤x.2)(h:qI x i)(hq:(c.toNat:Int)≠39)(hc:x.1[i.toNat]? =some c)(hp:BZ d=false)(hd:x.1[i.toNat]? =some d):0=(CB (x.1.drop x.2.toNat):Int):=by
 rw[hc] at hd;cases hd
 rw[a5U h.2.2 (by rw[UF h0 h.1];exact hc) (by simp [isQ];omega) hp];rfl
theorem a6b{x:List UInt8×Int}{i:Int}{c d:UInt8}(h0:0≤x.2)(h:qI x i)(hl:i<x.1.length)(hq:(c.toNat:Int)≠39)(hc:x.1[i.toNat]? =some c)(hp:BZ d=true)(hd:x.1[i.toNat]? =some d):qI x (i+1):=by
 rw[hc] at hd;cases hd
 have:=h.1
 exact⟨by omega,.inl (by omega),Qr (p:=fun e=>isQ e=false∧BZ e=true) h.2.2 (by rw[UF h0 h.1];exact hc) ⟨by simp [isQ];omega,hp⟩ (by omega)⟩
theorem a6c{x:List UInt8×Int}{i:Int}(h0:0≤x.2)(h:qI x i)(hl:¬i<x.1.length):0=(CB (x.1.drop x.2.toNat):Int):=by
 rw[a5V h.2.2 (by simp;omega)];rfl
def nI(x:List UInt8×Int)(i:Int):Prop:=(x.2≤i∧i≤x.1.length)∧(x.1.drop x.2.toNat).take 2=[47,47]∧∀e∈(x.1.drop x.2.toNat).take (i-x.2).toNat,BM e=true∧BZ e=true
theorem YR{x:List UInt8×Int}(h0:0≤x.2):List.drop x.2.toNat (List.take (x.2+2).toNat x.1)=(x.1.drop x.2.toNat).take 2:=by
 rw[List.drop_take];congr 1;omega
theorem a6d{x:List UInt8×Int}(h0:0≤x.2)(hl:x.2≤x.1.length)(h:(List.drop x.2.toNat (List.take (x.2+2).toNat x.1)==[47,47])=true):nI x x.2:=by
 rw[YR h0] at h
 refine⟨⟨by omega,hl⟩,by simpa using h,fun e he=> ?_⟩
 rw[show(x.2-x.2).toNat=0 by omega] at he;simp at he
theorem a6e{x:List UInt8×Int}(h0:0≤x.2)(h:(List.drop x.2.toNat (List.take (x.2+2).toNat x.1)==[47,47])=false):0=(Cs (x.1.drop x.2.toNat):Int):=by
 rw[YR h0] at h
 rw[YQ (by simpa using h)];rfl
theorem a6f{x:List UInt8×Int}(h0:0≤x.2)(h:x.2+2>x.1.length):0=(Cs (x.1.drop x.2.toNat):Int):=by
 rw[YQ]
 ·rfl
 ·intro e;have:=congrArg List.length e;simp at this;omega
theorem a6g{x:List UInt8×Int}{i:Int}{c d:UInt8}(h0:0≤x.2)(h:nI x i)(hn:(c.toNat:Int)≠10)(hc:x.1[i.toNat]? =some c)(hp:BZ d=false)(hd:x.1[i.toNat]? =some d):0=(Cs (x.1.drop x.2.toNat):Int):=by
 rw[hc] at hd;cases hd
 rw[a5W h.2.1 h.2.2 (by rw[Ow h0 h.1.1];exact hc) (by simp [BM];omega) hp];rfl
theorem a6h{x:List UInt8×Int}{i:Int}{c d:UInt8}(h0:0≤x.2)(h:nI x i)(hl:i<x.1.length)(hn:(c.toNat:Int)≠10)(hc:x.1[i.toNat]? =some c)(hp:BZ d=true)(hd:x.1[i.toNat]? =some d):nI x (i+1):=by
 rw[hc] at hd;cases hd
 have:=h.1
 exact⟨by omega,h.2.1,Qr (p:=fun e=>BM e=true∧BZ e=true) h.2.2 (by rw[Ow h0 h.1.1];exact hc) ⟨by simp [BM];omega,hp⟩ (by omega)⟩
theorem a6i{x:List UInt8×Int}{i:Int}{c:UInt8}(h0:0≤x.2)(h:nI x i)(hn:(c.toNat:Int)=10)(hc:x.1[i.toNat]? =some c):i-x.2=(Cs (x.1.drop x.2.toNat):Int):=by
 have:=h.1
 have hl:=(List.getElem?_eq_some_iff.1 hc).1
 rw[YP h.2.1 h.2.2 (.inr ⟨c,by rw[Ow h0 h.1.1];exact hc,by simp [BM];omega⟩) (by simp;omega)];omega
theorem a6j{x:List UInt8×Int}{i:Int}(h0:0≤x.2)(h:nI x i)(hl:¬i<x.1.length):i-x.2=(Cs (x.1.drop x.2.toNat):Int):=by
 have:=h.1
 rw[YP h.2.1 h.2.2 (.inl (by simp;omega)) (by simp;omega)];omega
def nmI(x:List UInt8)(i:Int):Prop:=(0≤i∧i≤x.length)∧(inn x.length 1 30=true∧Cf (x.headD 0)=true∧kw x=false)∧∀e∈x.take i.toNat,BD e=true
theorem UG{x:List UInt8}:DJ x=true↔(inn x.length 1 30=true∧Cf (x.headD 0)=true∧kw x=false)∧x.all BD=true:=by
 unfold DJ
 rw[a5S]
 cases x with
 |nil=>simp [inn]
 |cons c t=>
  simp only[inn,Bool.and_eq_true,decide_eq_true_eq,Bool.not_eq_true',List.headD_cons,List.length_cons]
  constructor
  ·rintro⟨⟨h1,h2,h3⟩,h4⟩;exact⟨⟨⟨by omega,by omega⟩,h1,h4⟩,h2⟩
  ·rintro⟨⟨⟨h1,h2⟩,h3,h4⟩,h5⟩;exact⟨⟨h3,h5,by omega⟩,h4⟩
theorem YS{x:List UInt8}{c:UInt8}(h:x[0]? =some c):x.headD 0=c:=by cases x<;>simp_all
theorem UH{x:List UInt8}(h:¬(inn x.length 1 30=true∧Cf (x.headD 0)=true∧kw x=false)):false=DJ x:=by
 symm;rw[Bool.eq_false_iff];intro hn;exact h (UG.1 hn).1
theorem a6k{x:List UInt8}(h:inn x.length 1 30=true)(h1:Cf (x.headD 0)=true)(h2:kw x=false):nmI x 0:=⟨by omega,⟨h,h1,h2⟩,fun e he=>by simp at he⟩
theorem YT{x:List UInt8}{i:Int}{c:UInt8}(h:nmI x i)(hc:x[i.toNat]? =some c)(hl:i<x.length)(hp:BD c=true):nmI x (i+1):=by
 have:=h.1
 exact⟨by omega,h.2.1,Qr (p:=fun e=>BD e=true) h.2.2 hc hp (by omega)⟩
theorem a6l{x:List UInt8}{i:Int}{c:UInt8}(h:nmI x i)(hc:x[i.toNat]? =some c)(hp:BD c=false):false=DJ x:=by
 symm;rw[Bool.eq_false_iff];intro hn
 have:=(UG.1 hn).2
 rw[Qj hc hp] at this;cases this
theorem a6m{x:List UInt8}{i:Int}(h:nmI x i)(hl:¬i<x.length):true=DJ x:=by
 symm;rw[UG];exact⟨h.2.1,Ut h.2.2 (by omega)⟩
theorem a6n{x:List UInt8}{c:UInt8}(h1:(x.length:Int)>1)(hq:(c.toNat:Int)=39)(h:x[0]? =some c):((CB x:Int)==(x.length:Int))=Cw x 3:=by
 cases x with
 |nil=>cases h
 |cons d t=>
  have:d=c:=by simpa using h
  subst this
  have e:isQ d=true:=by simp [isQ];omega
  rw[UD,Bool.eq_iff_iff]
  simp [e] at h1 ⊢;omega
theorem a6o{x:List UInt8}{c:UInt8}(hq:(c.toNat:Int)≠39)(h:x[0]? =some c):false=Cw x 3:=by
 cases x with
 |nil=>cases h
 |cons d t=>
  have:d=c:=by simpa using h
  subst this
  have e:isQ d=false:=by simp [isQ];omega
  rw[UD];simp [e]
theorem a6p{x:List UInt8}(h1:¬(x.length:Int)>1):false=Cw x 3:=by
 rw[UD]
 cases x with
 |nil=>rfl
 |cons d t=>
  have:decide (1<(d::t).length)=false:=decide_eq_false (by omega)
  simp only[this,Bool.false_and,Bool.and_false]
theorem a6q{x:List UInt8}(h1:(x.length:Int)>1)(h2:(Cs x:Int)=x.length):(Ca x==x)=Cw x 5:=by
 rw[UE]
 have e1:decide (1<x.length)=true:=decide_eq_true (by omega)
 have e2:decide (Cs x=x.length)=true:=decide_eq_true (by omega)
 simp [e1,e2]
theorem a6r{x:List UInt8}(h2:(Cs x:Int)≠x.length):false=Cw x 5:=by
 rw[UE]
 have e2:decide (Cs x=x.length)=false:=decide_eq_false (by omega)
 simp only[e2,Bool.false_and,Bool.and_false]
theorem a6s{x:List UInt8}(h1:¬(x.length:Int)>1):false=Cw x 5:=by
 rw[UE]
 have e2:decide (1<x.length)=false:=decide_eq_false (by omega)
 simp only[e2,Bool.false_and]
end Go.My
end
section
namespace Go.My
open Go.Eng Go.Proofs
variable {G:GInv}
def Hc:Sig:= {X:=List UInt8,args:=fun x=>[.str x],pre:=fun x=>True,Y:=Unit,post:=fun x y=>True,res:=fun x y=> .bool (kw x),outs:=fun x y=>[.top],keep:=false}
theorem a6t:Am G Tryz.prog 125 Hc:=
 vcFun_okP [] [] false (fun x=>[]) Tryz.func125 rfl (by decide) trivial (fun(x:List UInt8)=>(∀(y:Unit),True→True∧True∧True)∧Aa (x== #[(99:UInt8),(108:UInt8),(97:UInt8),(115:UInt8),(115:UInt8)].toList) (rA Hc x [.bool true,.top]) (Aa (x== #[(118:UInt8),(97:UInt8),(114:UInt8)].toList) (rA Hc x [.bool true,.top]) (Aa (x== #[(105:UInt8),(102:UInt8)].toList) (rA Hc x [.bool true,.top]) (Aa (x== #[(101:UInt8),(108:UInt8),(115:UInt8),(101:UInt8)].toList) (rA Hc x [.bool true,.top]) (Aa (x== #[(119:UInt8),(104:UInt8),(105:UInt8),(108:UInt8),(101:UInt8)].toList) (rA Hc x [.bool true,.top]) (Aa (x== #[(114:UInt8),(101:UInt8),(116:UInt8),(117:UInt8),(114:UInt8),(110:UInt8)].toList) (rA Hc x [.bool true,.top]) (rA Hc x [.bool false,.top]))))))) (fun x=>by kernel_rfl) fun(x:List UInt8) (hx:True)=>(by
 dsimp only[rA,Hc,Aw,AR]
 (repeat' first|(with_reducible first|rfl|exact True.intro|apply AM|apply And.intro|((first|apply AC|apply AK|apply AD|apply AL)<;>intro _))|(apply AB<;>intro _)|apply AJ|refine Ag () ?_ ?_|((first|apply AQ|apply AP|apply AO|apply AN|apply AI|apply AH|apply AG|apply AF|apply AE)<;>try dsimp only)|apply Ag|(refine Prod.forall.2 ?_;intro _;try dsimp only)|(intro _;try dsimp only))<;>(try dsimp only at*)<;>(try simp only[AS,List.length_cons,List.length_nil])<;>(try omega)
 all_goals simp [kw, *])
def Gc:Sig:= {X:=List UInt8,args:=fun x=>[.str x],pre:=fun x=>True,Y:=Unit,post:=fun x y=>True,res:=fun x y=> .bool (kw x),outs:=fun x y=>[.top],keep:=false}
theorem UI:Am G Tryz.prog 76 Gc:=
 vcFun_okP [] [] false (fun x=>[]) Tryz.func76 rfl (by decide) trivial (fun(x:List UInt8)=>(∀(y:Unit),True→True∧True∧True)∧Aa (x== #[(99:UInt8),(108:UInt8),(97:UInt8),(115:UInt8),(115:UInt8)].toList) (rA Gc x [.bool true,.top]) (Aa (x== #[(118:UInt8),(97:UInt8),(114:UInt8)].toList) (rA Gc x [.bool true,.top]) (Aa (x== #[(105:UInt8),(102:UInt8)].toList) (rA Gc x [.bool true,.top]) (Aa (x== #[(101:UInt8),(108:UInt8),(115:UInt8),(101:UInt8)].toList) (rA Gc x [.bool true,.top]) (Aa (x== #[(119:UInt8),(104:UInt8),(105:UInt8),(108:UInt8),(101:UInt8)].toList) (rA Gc x [.bool true,.top]) (Aa (x== #[(114:UInt8),(101:UInt8),(116:UInt8),(117:UInt8),(114:UInt8),(110:UInt8)].toList) (rA Gc x [.bool true,.top]) (rA Gc x [.bool false,.top]))))))) (fun x=>by kernel_rfl) fun(x:List UInt8) (hx:True)=>(by
 dsimp only[rA,Gc,Aw,AR]
 (repeat' first|(with_reducible first|rfl|exact True.intro|apply AM|apply And.intro|((first|apply AC|apply AK|apply AD|apply AL)<;>intro _))|(apply AB<;>intro _)|apply AJ|refine Ag () ?_ ?_|((first|apply AQ|apply AP|apply AO|apply AN|apply AI|apply AH|apply AG|apply AF|apply AE)<;>try dsimp only)|apply Ag|(refine Prod.forall.2 ?_;intro _;try dsimp only)|(intro _;try dsimp only))<;>(try dsimp only at*)<;>(try simp only[AS,List.length_cons,List.length_nil])<;>(try omega)
 all_goals simp [kw, *])
theorem a6u{c:UInt8}:decide (CF mk1 c≥0)=mk1.elem c:=by
 unfold CF
 cases h:CI (fun d=>decide (d.toNat=c.toNat)) mk1 with
 |none=>
  have:=Uu.1 h
  symm
  simp only[Int.reduceNeg,ge_iff_le,Int.reduceLE,decide_false]
  rw[Bool.eq_false_iff]
  intro h2
  have h3:=this c (by simpa using h2)
  simp at h3
 |some i=>
  obtain⟨_,e,he,hq⟩:=KC.1 h
  have h3:e=c:=by simpa [UInt8.toNat_inj] using hq
  subst h3
  have:=List.mem_of_getElem? he
  simp [this]
def Hd:Sig:= {X:=List UInt8,args:=fun x=>[.str x],pre:=fun x=>x.length<2^63,Y:=Unit,post:=fun x y=>True,res:=fun x y=> .bool (BW x),outs:=fun x y=>[.top],keep:=false}
theorem a6v:Am G Tryz.prog 138 Hd:=
 vcFun_okP [(143,0,ME)] [] false (fun x=>[]) Tryz.func138 rfl (by decide) ⟨a5A,trivial⟩ (fun(x:List UInt8)=>(∀(y:Unit),True→True∧True∧True)∧Aa (x== #[(38:UInt8),(38:UInt8)].toList) (rA Hd x [.bool true,.top]) (Aa (x== #[(124:UInt8),(124:UInt8)].toList) (rA Hd x [.bool true,.top]) (Aa (x== #[(61:UInt8),(61:UInt8)].toList) (rA Hd x [.bool true,.top]) (Aa (x== #[(61:UInt8),(62:UInt8)].toList) (rA Hd x [.bool true,.top]) (Aa (x== #[(46:UInt8),(46:UInt8)].toList) (rA Hd x [.bool true,.top]) (Aa ((↑(List.length x):Int)==(1:Int)) (cA ME [.str #[(40:UInt8),(41:UInt8),(123:UInt8),(125:UInt8),(91:UInt8),(93:UInt8),(59:UInt8),(44:UInt8),(46:UInt8),(61:UInt8),(43:UInt8),(45:UInt8),(42:UInt8),(60:UInt8),(63:UInt8),(58:UInt8)].toList,.str x] fun x_1 y=>rA Hd x [.bool (decide (CF x_1.1 (List.headD x_1.2 (0:UInt8))≥(0:Int))),.top]) (rA Hd x [.bool false,.top]))))))) (fun x=>by kernel_rfl) fun(x:List UInt8) (hx:x.length<2^63)=>(by
 dsimp only[cA,rA,Hd,ME,Aw,AR,mvL,lnL,mvE,lnE]
 (repeat' first|(with_reducible first|rfl|exact True.intro|apply AM|apply And.intro|((first|apply AC|apply AK|apply AD|apply AL)<;>intro _))|(apply AB<;>intro _)|apply AJ|refine Ag () ?_ ?_|((first|apply AQ|apply AP|apply AO|apply AN|apply AI|apply AH|apply AG|apply AF|apply AE)<;>try dsimp only)|apply Ag|(refine Prod.forall.2 ?_;intro _;try dsimp only)|(intro _;try dsimp only))<;>(try dsimp only at*)<;>(try simp only[AS,List.length_cons,List.length_nil])<;>(try omega)
 ·rename_i h;simp [BW,mk2,h]
 ·rename_i h;simp [BW,mk2,h]
 ·rename_i h;simp [BW,mk2,h]
 ·rename_i h;simp [BW,mk2,h]
 ·rename_i h;simp [BW,mk2,h]
 ·rename_i h1 h2 h3 h4 h5 h _ _
  have h:x.length=1:=by omega
  match x,h with
  |[c],_=>exact a6u.trans (by simp [BW,mk2])
 ·rename_i h1 h2 h3 h4 h5 h
  symm;simp only[BW,mk2,Bool.or_eq_false_iff,beq_eq_false_iff_ne]
  refine⟨⟨h1,h2,h3,h4,h5⟩,?_⟩
  split
  ·simp at h
  ·rfl)
def KJ:Sig:= {X:=List UInt8,args:=fun x=>[.str x,.int .u8 32],pre:=fun x=>x.length<2^63,Y:=Unit,post:=fun x y=>True,res:=fun x y=> .str (Ca x),outs:=fun x y=>[.top,.top],keep:=false}
def Qs(x:List UInt8):LS:= {ι:=List UInt8,inv:=fun s=>s.length≤x.length∧Ca s=Ca x,regs:=fun s=>[(0,.str s),(1,.int .u8 32)],als:=[],meas:=fun s=>s.length}
theorem a6w:Am G Tryz.prog 145 KJ:=
 vcFun_okP [] [] false (fun x=>[(1,Qs x)]) Tryz.func145 rfl (by decide) trivial (fun(x:List UInt8)=>(∀(y:Unit),True→True∧True∧True∧True)∧eA (Qs x) [.str x,AV.int IntKind.u8 (32:Int)]∧∀(i:List UInt8),List.length i≤List.length x∧Ca i=Ca x→Aa (decide ((↑(List.length i):Int)>(0:Int))) (inR IntKind.i64 ((↑(List.length i):Int)-(1:Int))∧((0:Int)≤(↑(List.length i):Int)-(1:Int)∧(↑(List.length i):Int)-(1:Int)<(↑(List.length i):Int))∧∀(c:UInt8),i[Int.toNat ((↑(List.length i):Int)-(1:Int))]? =some c→Aa ((↑(UInt8.toNat c):Int)==(32:Int)) (inR IntKind.i64 ((↑(List.length i):Int)-(1:Int))∧((0:Int)≤(0:Int)∧(0:Int)≤(↑(List.length i):Int)-(1:Int)∧(↑(List.length i):Int)-(1:Int)≤(↑(List.length i):Int))∧eN (Qs x) i [.str (List.take (Int.toNat ((↑(List.length i):Int)-(1:Int))) i),AV.int IntKind.u8 (32:Int)]) (rA KJ x [.str i,.top,.top])) (rA KJ x [.str i,.top,.top])) (fun x=>by kernel_rfl) fun(x:List UInt8) (hx:x.length<2^63)=>(by
 dsimp only[eA,eN,Qs,rA,KJ,Aw,AR,Br]
 (repeat' first|(with_reducible first|rfl|exact True.intro|apply AM|apply And.intro|((first|apply AC|apply AK|apply AD|apply AL)<;>intro _))|(apply AB<;>intro _)|apply AJ|refine Ag () ?_ ?_|((first|apply AQ|apply AP|apply AO|apply AN|apply AI|apply AH|apply AG|apply AF|apply AE)<;>try dsimp only)|apply Ag|(refine Prod.forall.2 ?_;intro _;try dsimp only)|(intro _;try dsimp only))<;>(try dsimp only at*)<;>(try simp only[AS,List.length_cons,List.length_nil])<;>(try omega)
 ·rename_i s hs h c hc h2;simp;omega
 ·rename_i s hs h c hc h2;simp;omega
 ·rename_i s hs h c hc h2
  have e:((s.length:Int)-1).toNat=s.length-1:=by omega
  rw[e] at hc ⊢
  rw[←hs.2,YK hc,if_pos (by omega)]
 ·rename_i s hs h c hc h2
  have e:((s.length:Int)-1).toNat=s.length-1:=by omega
  rw[e] at hc
  rw[←hs.2,YK hc,if_neg (by omega)]
 ·rename_i s hs h
  have:s=[]:=List.length_eq_zero_iff.1 (by omega)
  rw[←hs.2,this];rfl)
def KK:Sig:= {X:=List UInt8,args:=fun x=>[.str x,.str [32]],pre:=fun x=>x.length<2^63,Y:=Unit,post:=fun x y=>True,res:=fun x y=> .str (Ca x),outs:=fun x y=>[.top,.top],keep:=false}
theorem a6x:Am G Tryz.prog 142 KK:=
 vcFun_okP [(145,0,KJ)] [] false (fun x=>[]) Tryz.func142 rfl (by decide) ⟨a6w,trivial⟩ (fun(x:List UInt8)=>(∀(y:Unit),True→True∧True∧True∧True)∧Aa (x== #[].toList) (rA KK x [.str x,.top,.top]) (((0:Int)≤(0:Int)∧(0:Int)<(↑(1:Nat):Int))∧∀(c:UInt8),[(32:UInt8)][(0:Nat)]? =some c→Aa (decide ((↑(UInt8.toNat c):Int)<(128:Int))) (((0:Int)≤(0:Int)∧(0:Int)<(↑(1:Nat):Int))∧∀(c:UInt8),[(32:UInt8)][(0:Nat)]? =some c→cA KJ [.str x,AV.int IntKind.u8 (↑(UInt8.toNat c):Int)] fun x_1 y=>rA KK x [.str (Ca x_1),.top,.top]) False)) (fun x=>by kernel_rfl) fun(x:List UInt8) (hx:x.length<2^63)=>(by
 dsimp only[cA,rA,KJ,KK,Aw,AR,mvL,lnL,mvE,lnE]
 refine⟨fun _ _=>⟨trivial,trivial,trivial,trivial⟩,AD (fun h=>⟨(),trivial,by rw[h];rfl,trivial⟩) (fun h=>⟨by omega,fun c hc=> ?_⟩)⟩
 have hc:32=c:=by simpa using hc
 subst hc
 refine AC (fun _=>⟨by omega,fun c hc=> ?_⟩) (fun h=>(h (by decide)).elim)
 have hc:32=c:=by simpa using hc
 subst hc
 exact⟨x,hx,rfl,rfl,fun _ _=>⟨(),trivial,rfl,trivial⟩⟩)
def MI:Sig:= {X:=List UInt8,args:=fun x=>[.str x],pre:=fun x=>x.length<2^63,Y:=Unit,post:=fun x y=>True,res:=fun x y=> .str (Ca x),outs:=fun x y=>[.top],keep:=false}
theorem a6y:Am G Tryz.prog 136 MI:=
 vcFun_okP [(142,0,KK)] [] false (fun x=>[]) Tryz.func136 rfl (by decide) ⟨a6x,trivial⟩ (fun(x:List UInt8)=>(∀(y:Unit),True→True∧True∧True)∧cA KK [.str x,.str #[(32:UInt8)].toList] fun x_1 y=>rA MI x [.str (Ca x_1),.top]) (fun x=>by kernel_rfl) fun(x:List UInt8) (hx:x.length<2^63)=>(by
 dsimp only[cA,rA,MI,KK,Aw,AR,mvL,lnL,mvE,lnE]
 (repeat' first|(with_reducible first|rfl|exact True.intro|apply AM|apply And.intro|((first|apply AC|apply AK|apply AD|apply AL)<;>intro _))|(apply AB<;>intro _)|apply AJ|refine Ag () ?_ ?_|((first|apply AQ|apply AP|apply AO|apply AN|apply AI|apply AH|apply AG|apply AF|apply AE)<;>try dsimp only)|apply Ag|(refine Prod.forall.2 ?_;intro _;try dsimp only)|(intro _;try dsimp only))<;>(try dsimp only at*)<;>(try simp only[AS,List.length_cons,List.length_nil])<;>(try omega))
def Im:Sig:= {X:=List UInt8,args:=fun x=>[.str x],pre:=fun x=>x.length<2^63,Y:=Unit,post:=fun x y=>True,res:=fun x y=> .str (Ca x),outs:=fun x y=>[.top],keep:=false}
def Qt(x:List UInt8):LS:= {ι:=Int,inv:=fun i=>0≤i∧i≤x.length∧Ca (x.take i.toNat)=Ca x,regs:=fun i=>[(0,.str x),(3,.int .i64 i)],als:=[],meas:=fun i=>i.toNat}
theorem YU:Am G Tryz.prog 51 Im:=
 vcFun_okP [] [] false (fun x=>[(2,Qt x)]) Tryz.func51 rfl (by decide) trivial (fun(x:List UInt8)=>(∀(y:Unit),True→True∧True∧True)∧eA (Qt x) [.str x,.int .i64 (↑(List.length x):Int)]∧∀(i:Int),(0:Int)≤i∧i≤(↑(List.length x):Int)∧Ca (List.take (Int.toNat i) x)=Ca x→Aa (decide (i>(0:Int))) (inR IntKind.i64 (i-(1:Int))∧((0:Int)≤i-(1:Int)∧i-(1:Int)<(↑(List.length x):Int))∧∀(c:UInt8),x[Int.toNat (i-(1:Int))]? =some c→Aa ((↑(UInt8.toNat c):Int)==(32:Int)) (inR IntKind.i64 (i-(1:Int))∧eN (Qt x) i [.str x,.int .i64 (i-(1:Int))]) (((0:Int)≤(0:Int)∧(0:Int)≤i∧i≤(↑(List.length x):Int))∧rA Im x [.str (List.take (Int.toNat i) x),.top])) (((0:Int)≤(0:Int)∧(0:Int)≤i∧i≤(↑(List.length x):Int))∧rA Im x [.str (List.take (Int.toNat i) x),.top])) (fun x=>by kernel_rfl) fun(x:List UInt8) (hx:x.length<2^63)=>(by
 dsimp only[eA,eN,Qt,rA,Im,Aw,AR,Br]
 (repeat' first|(with_reducible first|rfl|exact True.intro|apply AM|apply And.intro|((first|apply AC|apply AK|apply AD|apply AL)<;>intro _))|(apply AB<;>intro _)|apply AJ|refine Ag () ?_ ?_|((first|apply AQ|apply AP|apply AO|apply AN|apply AI|apply AH|apply AG|apply AF|apply AE)<;>try dsimp only)|apply Ag|(refine Prod.forall.2 ?_;intro _;try dsimp only)|(intro _;try dsimp only))<;>(try dsimp only at*)<;>(try simp only[AS,List.length_cons,List.length_nil])<;>(try omega)
 ·simp
 ·rename_i i hi h c hc h2
  rw[←hi.2.2,show i.toNat=(i-1).toNat+1 by omega,YL hc,if_pos (by omega)]
 ·rename_i i hi h c hc h2
  have:=hi.2.2
  rw[show i.toNat=(i-1).toNat+1 by omega,YL hc,if_neg (by omega)] at this
  rw[←this,show i.toNat=(i-1).toNat+1 by omega]
 ·rename_i i hi h
  rw[←hi.2.2,show i.toNat=0 by omega];rfl)
theorem a6z(s:List UInt8)(c:UInt8):CF s c= -1∨(0≤CF s c∧CF s c<s.length):=by
 unfold CF
 split
 ·exact .inl rfl
 ·rename_i i h;have:=Qp h;omega
theorem YV{s:List UInt8}:CY s=if CF (s.drop 1) 39<0 then([],false) else(s.take (CF (s.drop 1) 39+2).toNat,(s.take (CF (s.drop 1) 39+2).toNat).all BZ):=by
 unfold CY CF
 have e:(fun c:UInt8=>decide (c.toNat=39))=fun d:UInt8=>decide (d.toNat=(39:UInt8).toNat):=rfl
 rw[e]
 cases CI (fun d:UInt8=>decide (d.toNat=(39:UInt8).toNat)) (s.drop 1) with
 |none=>simp
 |some i=>
  have h1:¬(i:Int)<0:=by omega
  have h2:((i:Int)+2).toNat=i+2:=by omega
  simp only[if_neg h1,h2]
def KL:Sig:= {X:=List UInt8,args:=fun x=>[.str x],pre:=fun x=>1≤x.length∧x.length<2^62,Y:=Unit,post:=fun x y=>True,res:=fun x y=> .tup [.str (CY x).1,.bool (CY x).2],outs:=fun x y=>[.top],keep:=false}
theorem a6A:Am G Tryz.prog 133 KL:=
 vcFun_okP [(140,0,MC),(137,0,HB)] [] false (fun x=>[]) Tryz.func133 rfl (by decide) ⟨a5x,YJ,trivial⟩ (fun(x:List UInt8)=>(∀(y:Unit),True→(True∧True∧True)∧True∧True)∧((0:Int)≤(1:Int)∧(1:Int)≤(↑(List.length x):Int)∧(↑(List.length x):Int)≤(↑(List.length x):Int))∧cA MC [.str (List.drop (1:Nat) x),AV.int IntKind.u8 (39:Int)] fun x_1 y=>Aa (decide (CF x_1 (39:UInt8)<(0:Int))) (rA KL x [.tup [.str #[].toList,.bool false],.top]) (inR IntKind.i64 (CF x_1 (39:UInt8)+(2:Int))∧((0:Int)≤(0:Int)∧(0:Int)≤CF x_1 (39:UInt8)+(2:Int)∧CF x_1 (39:UInt8)+(2:Int)≤(↑(List.length x):Int))∧cA HB [.str (List.take (Int.toNat (CF x_1 (39:UInt8)+(2:Int))) x)] fun x_2 y=>rA KL x [.tup [.str (List.take (Int.toNat (CF x_1 (39:UInt8)+(2:Int))) x),.bool (List.all x_2 BZ)],.top])) (fun x=>by kernel_rfl) fun(x:List UInt8) (hx:1≤x.length∧x.length<2^62)=>(by
 dsimp only[cA,rA,HB,KL,MC,Aw,AR,mvL,lnL,mvE,lnE]
 obtain⟨h1,h2⟩:=hx
 have hq:=a6z (x.drop 1) 39;have hl:(x.drop 1).length=x.length-1:=by simp
 (repeat' first|(with_reducible first|rfl|exact True.intro|apply AM|apply And.intro|((first|apply AC|apply AK|apply AD|apply AL)<;>intro _))|(apply AB<;>intro _)|apply AJ|refine Ag () ?_ ?_|((first|apply AQ|apply AP|apply AO|apply AN|apply AI|apply AH|apply AG|apply AF|apply AE)<;>try dsimp only)|apply Ag|(refine Prod.forall.2 ?_;intro _;try dsimp only)|(intro _;try dsimp only))<;>(try dsimp only at*)<;>(try simp only[AS,List.length_cons,List.length_nil])<;>(try omega)
 all_goals first
  |omega
  |(rw[YV,if_neg ‹¬CF _ 39<0›];done)
  |(rw[YV,if_pos ‹CF _ 39<0›];done)
  |(simp;omega))
def HD:Sig:= {X:=List UInt8,args:=fun x=>[.str x],pre:=fun x=>1≤x.length∧x.length<2^62,Y:=Unit,post:=fun x y=>True,res:=fun x y=> .tup [.int .i64 (Be x).kind,.str (Be x).text,.int .i64 (Be x).size,.bool (Be x).ok],outs:=fun x y=>[.top],keep:=false}
def Qu(x:List UInt8):LS:= {ι:=Int,inv:=fun i=>HC x i,regs:=fun i=>[(0,.str x),(12,.int .i64 i)],als:=[],meas:=fun i=>i.toNat}
theorem a6B:Am G Tryz.prog 126 HD:=
 vcFun_okP [(129,0,FI),(130,131+1,KG),(132,0,GB),(130,132+1,KH),(133,0,KL),(134,0,MF),(130,135+1,KI),(136,0,MI),(137,0,HB),(138,0,Hd)] [] false (fun x=>[(15,Qu x)]) Tryz.func126 rfl (by decide) ⟨YG,a5F,Uy,a5G,a6A,a5C,a5H,a6y,YJ,a6v,trivial⟩ (fun(x:List UInt8)=>(∀(y:Unit),True→(True∧True∧True∧True∧True)∧True∧True)∧((0:Int)≤(0:Int)∧(0:Int)<(↑(List.length x):Int))∧∀(c:UInt8),x[(0:Nat)]? =some c→cA FI [AV.int IntKind.u8 (↑(UInt8.toNat c):Int)] fun x_1 y=>Aa (Cf x_1) (cA KG [.str x,AV.clo (Fn.func (84:Nat)) []] fun x_2 y=>rA HD x [.tup [.int .i64 (1:Int),.str (List.takeWhile BD x_2),.int .i64 (↑(List.length (List.takeWhile BD x_2)):Int),.bool (decide ((↑(List.length (List.takeWhile BD x_2)):Int)≤(30:Int)))],.top]) (cA GB [AV.int IntKind.u8 (↑(UInt8.toNat c):Int)] fun x_2 y=>Aa (Bj x_2) (cA KH [.str x,AV.clo (Fn.func (85:Nat)) []] fun x_3 y=>rA HD x [.tup [.int .i64 (2:Int),.str (List.takeWhile Bj x_3),.int .i64 (↑(List.length (List.takeWhile Bj x_3)):Int),.bool (decide ((↑(List.length (List.takeWhile Bj x_3)):Int)≤(12:Int)))],.top]) (Aa ((↑(UInt8.toNat c):Int)==(39:Int)) (cA KL [.str x] fun x_3 y=>rA HD x [.tup [.int .i64 (3:Int),.str (CY x_3).1,.int .i64 (↑(List.length (CY x_3).1):Int),.bool (CY x_3).2],.top]) (cA MF [.str x,.str #[(47:UInt8),(47:UInt8)].toList] fun x_3 y=>Aa (List.take (List.length x_3.2) x_3.1==x_3.2) (cA KI [.str x,AV.clo (Fn.func (88:Nat)) []] fun x_4 y=>cA MI [.str (List.takeWhile BM x_4)] fun x_5 y=>cA HB [.str (List.takeWhile BM x_4)] fun x_6 y=>rA HD x [.tup [.int .i64 (5:Int),.str (Ca x_5),.int .i64 (↑(List.length (List.takeWhile BM x_4)):Int),.bool (List.all x_6 BZ)],.top]) (eA (Qu x) [.str x,.int .i64 (min (2:Int) (↑(List.length x):Int))]∧∀(i:Int),HC x i→Aa (decide (i>(0:Int))) (((0:Int)≤(0:Int)∧(0:Int)≤i∧i≤(↑(List.length x):Int))∧cA Hd [.str (List.take (Int.toNat i) x)] fun x_4 y=>Aa (BW x_4) (true=true∧true=true∧((0:Int)≤(0:Int)∧(0:Int)≤i∧i≤(↑(List.length x):Int))∧rA HD x [.tup [.int .i64 (4:Int),.str (List.take (Int.toNat i) x),.int .i64 i,.bool true],.top]) (inR IntKind.i64 (i-(1:Int))∧eN (Qu x) i [.str x,.int .i64 (i-(1:Int))])) (rA HD x [.tup [.int .i64 (0:Int),.str #[].toList,.int .i64 (0:Int),.bool false],.top])))))) (fun x=>by kernel_rfl) fun(x:List UInt8) (hx:1≤x.length∧x.length<2^62)=>(by
 dsimp only[cA,eA,eN,Qu,rA,MI,GB,FI,HB,Hd,KL,KH,KG,KI,MF,HD,Aw,AR,mvL,lnL,mvE,lnE,Br]
 obtain⟨h1,h2⟩:=hx
 have h3:x.length<9223372036854775808:=by omega
 match x,h1,h2,h3 with
 |b::t,h1,h2,h3=>
 (repeat' first|(with_reducible first|rfl|exact True.intro|apply AM|apply And.intro|((first|apply AC|apply AK|apply AD|apply AL)<;>intro _))|(apply AB<;>intro _)|apply AJ|refine Ag () ?_ ?_|((first|apply AQ|apply AP|apply AO|apply AN|apply AI|apply AH|apply AG|apply AF|apply AE)<;>try dsimp only)|apply Ag|(refine Prod.forall.2 ?_;intro _;try dsimp only)|(intro _;try dsimp only))<;>(try dsimp only at*)<;>(try simp only[AS,List.length_cons,List.length_nil])<;>(try omega)
 all_goals(try simp only[List.getElem?_cons_zero,Option.some.injEq] at*)
 all_goals(try subst_vars)
 all_goals first
  |exact h3
  |(rw[UA ‹_›];done)
  |(rw[UB ‹_› ‹_›];done)
  |(rw[a5M ‹_› ‹_› ‹_›];done)
  |(rw[a5N ‹_› ‹_› ‹_› ‹_›];done)
  |(rw[a5I ‹_› h1 ‹_› ‹_›];done)
  |(rw[a5J ‹_› h1 ‹_›];done)
  |exact a5K ‹_› ‹_› ‹_›
  |exact a5L ‹_› ‹_› (by omega) ‹_›
  |exact Nat.lt_of_le_of_lt (List.takeWhile_prefix _).length_le h3
  |(have hI:=(‹HC _ _› :HC _ _).1;rw[List.length_cons] at hI;omega)
  |(have hI:=(‹HC _ _› :HC _ _).1;rw[List.length_take];omega)
  |trace_state)
def FJ:Sig:= {X:=List UInt8×Int,args:=fun x=>[.str x.1,.int .i64 x.2],pre:=fun x=>x.1.length<2^62,Y:=Unit,post:=fun x y=>True,res:=fun x y=> .bool (Cw x.1 x.2),outs:=fun x y=>[.top,.top],keep:=false}
theorem YW:Am G Tryz.prog 109 FJ:=
 vcFun_okP [(126,0,HD)] [] false (fun x=>[]) Tryz.func109 rfl (by decide) ⟨a6B,trivial⟩ (fun(x:List UInt8×Int)=>(∀(y:Unit),True→True∧True∧True∧True)∧Aa (x.1== #[].toList) (rA FJ x [.bool false,.top,.top]) (cA HD [.str x.1] fun x_1 y=>Aa (Be x_1).ok (Aa ((Be x_1).kind==x.2) (Aa ((Be x_1).text==x.1) (rA FJ x [.bool ((Be x_1).size==(↑(List.length x.1):Int)),.top,.top]) (rA FJ x [.bool false,.top,.top])) (rA FJ x [.bool false,.top,.top])) (rA FJ x [.bool false,.top,.top]))) (fun x=>by kernel_rfl) fun(x:List UInt8×Int) (hx:x.1.length<2^62)=>(by
 dsimp only[cA,rA,FJ,HD,Aw,AR,mvL,lnL,mvE,lnE]
 (repeat' first|(with_reducible first|rfl|exact True.intro|apply AM|apply And.intro|((first|apply AC|apply AK|apply AD|apply AL)<;>intro _))|(apply AB<;>intro _)|apply AJ|refine Ag () ?_ ?_|((first|apply AQ|apply AP|apply AO|apply AN|apply AI|apply AH|apply AG|apply AF|apply AE)<;>try dsimp only)|apply Ag|(refine Prod.forall.2 ?_;intro _;try dsimp only)|(intro _;try dsimp only))<;>(try dsimp only at*)<;>(try simp only[AS,List.length_cons,List.length_nil])<;>(try omega)
 all_goals first
  |exact List.length_pos_iff.2 ‹_›
  |(simp [Cw, *];done)
  |(rw[Bool.eq_iff_iff];simp [Cw, *];done))
def He:Sig:= {X:=List UInt8,args:=fun x=>[.str x],pre:=fun x=>x.length<2^62,Y:=Unit,post:=fun x y=>True,res:=fun x y=> .bool (DJ x),outs:=fun x y=>[.top],keep:=false}
theorem a6C:Am G Tryz.prog 108 He:=
 vcFun_okP [(109,0,FJ),(125,0,Hc)] [] false (fun x=>[]) Tryz.func108 rfl (by decide) ⟨YW,a6t,trivial⟩ (fun(x:List UInt8)=>(∀(y:Unit),True→True∧True∧True)∧cA FJ [.str x,.int .i64 (1:Int)] fun x_1 y=>Aa (Cw x_1.1 x_1.2) (cA Hc [.str x] fun x_2 y=>rA He x [.bool !kw x_2,.top]) (rA He x [.bool false,.top])) (fun x=>by kernel_rfl) fun(x:List UInt8) (hx:x.length<2^62)=>(by
 dsimp only[cA,rA,Hc,He,FJ,Aw,AR,mvL,lnL,mvE,lnE]
 (repeat' first|(with_reducible first|rfl|exact True.intro|apply AM|apply And.intro|((first|apply AC|apply AK|apply AD|apply AL)<;>intro _))|(apply AB<;>intro _)|apply AJ|refine Ag () ?_ ?_|((first|apply AQ|apply AP|apply AO|apply AN|apply AI|apply AH|apply AG|apply AF|apply AE)<;>try dsimp only)|apply Ag|(refine Prod.forall.2 ?_;intro _;try dsimp only)|(intro _;try dsimp only))<;>(try dsimp only at*)<;>(try simp only[AS,List.length_cons,List.length_nil])<;>(try omega)
 all_goals simp [DJ, *])
def DA:Sig:= {X:=Nd,args:=fun x=>[.agg (ndA false x)],pre:=fun x=>x.text.length<2^62,Y:=Unit,post:=fun x y=>True,res:=fun x y=> .bool (FF x.kind x.text),outs:=fun x y=>[.top],keep:=false}
theorem a6D:Am G Tryz.prog 92 DA:=
 vcFun_okP [(109,0,FJ),(108,0,He)] [] false (fun x=>[]) Tryz.func92 rfl (by decide) ⟨YW,a6C,trivial⟩ (fun(x:Nd)=>(∀(y:Unit),True→True∧True∧True)∧Aa (x.kind==(1:Int)) (cA He [.str x.text] fun x_1 y=>rA DA x [.bool (DJ x_1),.top]) (Aa (x.kind==(6:Int)) (cA He [.str x.text] fun x_1 y=>rA DA x [.bool (DJ x_1),.top]) (Aa (x.kind==(12:Int)) (cA He [.str x.text] fun x_1 y=>rA DA x [.bool (DJ x_1),.top]) (Aa (x.kind==(13:Int)) (cA He [.str x.text] fun x_1 y=>rA DA x [.bool (DJ x_1),.top]) (Aa (x.kind==(20:Int)) (cA He [.str x.text] fun x_1 y=>rA DA x [.bool (DJ x_1),.top]) (Aa (x.kind==(21:Int)) (cA He [.str x.text] fun x_1 y=>rA DA x [.bool (DJ x_1),.top]) (Aa (x.kind==(2:Int)) (cA FJ [.str x.text,.int .i64 (2:Int)] fun x_1 y=>rA DA x [.bool (Cw x_1.1 x_1.2),.top]) (Aa (x.kind==(3:Int)) (cA FJ [.str x.text,.int .i64 (3:Int)] fun x_1 y=>rA DA x [.bool (Cw x_1.1 x_1.2),.top]) (Aa (x.kind==(19:Int)) (cA FJ [.str x.text,.int .i64 (5:Int)] fun x_1 y=>rA DA x [.bool (Cw x_1.1 x_1.2),.top]) (Aa (x.kind==(7:Int)) (Aa (x.text== #[(38:UInt8),(38:UInt8)].toList) (rA DA x [.bool true,.top]) (Aa (x.text== #[(124:UInt8),(124:UInt8)].toList) (rA DA x [.bool true,.top]) (Aa (x.text== #[(61:UInt8),(61:UInt8)].toList) (rA DA x [.bool true,.top]) (Aa (x.text== #[(60:UInt8)].toList) (rA DA x [.bool true,.top]) (Aa (x.text== #[(43:UInt8)].toList) (rA DA x [.bool true,.top]) (Aa (x.text== #[(45:UInt8)].toList) (rA DA x [.bool true,.top]) (Aa (x.text== #[(42:UInt8)].toList) (rA DA x [.bool true,.top]) (rA DA x [.bool false,.top])))))))) (rA DA x [.bool (x.text== #[].toList),.top]))))))))))) (fun x=>by kernel_rfl) fun(x:Nd) (hx:x.text.length<2^62)=>(by
 dsimp only[cA,Bx,rA,He,FJ,DA,Aw,AR,mvL,lnL,mvE,lnE]
 (repeat' first|(with_reducible first|rfl|exact True.intro|apply AM|apply And.intro|((first|apply AC|apply AK|apply AD|apply AL)<;>intro _))|(apply AB<;>intro _)|apply AJ|refine Ag () ?_ ?_|((first|apply AQ|apply AP|apply AO|apply AN|apply AI|apply AH|apply AG|apply AF|apply AE)<;>try dsimp only)|apply Ag|(refine Prod.forall.2 ?_;intro _;try dsimp only)|(intro _;try dsimp only))<;>(try dsimp only at*)<;>(try simp only[AS,List.length_cons,List.length_nil])<;>(try omega)
 all_goals simp [FF,Ot, *])
def HE:Sig:= {X:=List UInt8×Int,args:=fun x=>[.str x.1,.int .i64 x.2],pre:=fun x=>0≤x.2∧x.2≤x.1.length∧x.1.length<2^62,Y:=Unit,post:=fun x y=>True,res:=fun x y=> .int .i64 (CB (x.1.drop x.2.toNat)),outs:=fun x y=>[.top,.top],keep:=false}
def Qv(x:List UInt8×Int):LS:= {ι:=Int,inv:=fun i=>qI x i,regs:=fun i=>[(0,.str x.1),(1,.int .i64 x.2),(5,.int .i64 i)],als:=[],meas:=fun i=>x.1.length-i.toNat}
theorem YX:Am G Tryz.prog 54 HE:=
 vcFun_okP [(81,0,Il)] [] false (fun x=>[(2,Qv x)]) Tryz.func54 rfl (by decide) ⟨YI,trivial⟩ (fun(x:List UInt8×Int)=>(∀(y:Unit),True→True∧True∧True∧True)∧inR IntKind.i64 (x.2+(1:Int))∧eA (Qv x) [.str x.1,.int .i64 x.2,.int .i64 (x.2+(1:Int))]∧∀(i:Int),qI x i→Aa (decide (i<(↑(List.length x.1):Int))) (((0:Int)≤i∧i<(↑(List.length x.1):Int))∧∀(c:UInt8),x.1[Int.toNat i]? =some c→Aa ((↑(UInt8.toNat c):Int)==(39:Int)) (inR IntKind.i64 (i+(1:Int))∧inR IntKind.i64 (i+(1:Int)-x.2)∧rA HE x [.int .i64 (i+(1:Int)-x.2),.top,.top]) (((0:Int)≤i∧i<(↑(List.length x.1):Int))∧∀(c:UInt8),x.1[Int.toNat i]? =some c→cA Il [AV.int IntKind.u8 (↑(UInt8.toNat c):Int)] fun x_1 y=>Aa (!BZ x_1) (rA HE x [.int .i64 (0:Int),.top,.top]) (inR IntKind.i64 (i+(1:Int))∧eN (Qv x) i [.str x.1,.int .i64 x.2,.int .i64 (i+(1:Int))]))) (rA HE x [.int .i64 (0:Int),.top,.top])) (fun x=>by kernel_rfl) fun(x:List UInt8×Int) (hx:0≤x.2∧x.2≤x.1.length∧x.1.length<2^62)=>(by
 dsimp only[cA,eA,eN,Qv,rA,Il,HE,Aw,AR,mvL,lnL,mvE,lnE,Br]
 obtain⟨h1,h2,h3⟩:=hx
 (repeat' first|(with_reducible first|rfl|exact True.intro|apply AM|apply And.intro|((first|apply AC|apply AK|apply AD|apply AL)<;>intro _))|(apply AB<;>intro _)|apply AJ|refine Ag () ?_ ?_|((first|apply AQ|apply AP|apply AO|apply AN|apply AI|apply AH|apply AG|apply AF|apply AE)<;>try dsimp only)|apply Ag|(refine Prod.forall.2 ?_;intro _;try dsimp only)|(intro _;try dsimp only))<;>(try dsimp only at*)<;>(try simp only[AS,List.length_cons,List.length_nil])<;>(try omega)
 all_goals first
  |exact a5X
  |exact a5Z h1 ‹_› ‹_› ‹_›
  |exact a6a h1 ‹_› ‹_› ‹_› ‹_› ‹_›
  |exact a6b h1 ‹_› ‹_› ‹_› ‹_› ‹_› ‹_›
  |exact a6c h1 ‹_› ‹_›
  |(have hI:=a5Y ‹_›;omega))
def GC:Sig:= {X:=List UInt8×Int,args:=fun x=>[.str x.1,.int .i64 x.2],pre:=fun x=>0≤x.2∧x.2≤x.1.length∧x.1.length<2^62,Y:=Unit,post:=fun x y=>True,res:=fun x y=> .int .i64 (Cs (x.1.drop x.2.toNat)),outs:=fun x y=>[.top,.top],keep:=false}
def Qw(x:List UInt8×Int):LS:= {ι:=Int,inv:=fun i=>nI x i,regs:=fun i=>[(0,.str x.1),(1,.int .i64 x.2),(5,.int .i64 i)],als:=[],meas:=fun i=>x.1.length-i.toNat}
theorem YY:Am G Tryz.prog 50 GC:=
 vcFun_okP [(81,0,Il)] [] false (fun x=>[(4,Qw x)]) Tryz.func50 rfl (by decide) ⟨YI,trivial⟩ (fun(x:List UInt8×Int)=>(∀(y:Unit),True→True∧True∧True∧True)∧inR IntKind.i64 (x.2+(2:Int))∧Aa (decide (x.2+(2:Int)>(↑(List.length x.1):Int))) (rA GC x [.int .i64 (0:Int),.top,.top]) (inR IntKind.i64 (x.2+(2:Int))∧((0:Int)≤x.2∧x.2≤x.2+(2:Int)∧x.2+(2:Int)≤(↑(List.length x.1):Int))∧Aa (!List.drop (Int.toNat x.2) (List.take (Int.toNat (x.2+(2:Int))) x.1)== #[(47:UInt8),(47:UInt8)].toList) (rA GC x [.int .i64 (0:Int),.top,.top]) (eA (Qw x) [.str x.1,.int .i64 x.2,.int .i64 x.2]∧∀(i:Int),nI x i→Aa (decide (i<(↑(List.length x.1):Int))) (((0:Int)≤i∧i<(↑(List.length x.1):Int))∧∀(c:UInt8),x.1[Int.toNat i]? =some c→Aa ((↑(UInt8.toNat c):Int) != (10:Int)) (((0:Int)≤i∧i<(↑(List.length x.1):Int))∧∀(c:UInt8),x.1[Int.toNat i]? =some c→cA Il [AV.int IntKind.u8 (↑(UInt8.toNat c):Int)] fun x_1 y=>Aa (!BZ x_1) (rA GC x [.int .i64 (0:Int),.top,.top]) (inR IntKind.i64 (i+(1:Int))∧eN (Qw x) i [.str x.1,.int .i64 x.2,.int .i64 (i+(1:Int))])) (inR IntKind.i64 (i-x.2)∧rA GC x [.int .i64 (i-x.2),.top,.top])) (inR IntKind.i64 (i-x.2)∧rA GC x [.int .i64 (i-x.2),.top,.top])))) (fun x=>by kernel_rfl) fun(x:List UInt8×Int) (hx:0≤x.2∧x.2≤x.1.length∧x.1.length<2^62)=>(by
 dsimp only[cA,eA,eN,Qw,rA,GC,Il,Aw,AR,mvL,lnL,mvE,lnE,Br]
 obtain⟨h1,h2,h3⟩:=hx
 (repeat' first|(with_reducible first|rfl|exact True.intro|apply AM|apply And.intro|((first|apply AC|apply AK|apply AD|apply AL)<;>intro _))|(apply AB<;>intro _)|apply AJ|refine Ag () ?_ ?_|((first|apply AQ|apply AP|apply AO|apply AN|apply AI|apply AH|apply AG|apply AF|apply AE)<;>try dsimp only)|apply Ag|(refine Prod.forall.2 ?_;intro _;try dsimp only)|(intro _;try dsimp only))<;>(try dsimp only at*)<;>(try simp only[AS,List.length_cons,List.length_nil])<;>(try omega)
 all_goals first
  |exact a6f h1 ‹_›
  |exact a6e h1 ‹_›
  |exact a6d h1 h2 ‹_›
  |exact a6g h1 ‹_› ‹_› ‹_› ‹_› ‹_›
  |exact a6h h1 ‹_› ‹_› ‹_› ‹_› ‹_› ‹_›
  |exact a6i h1 ‹_› ‹_› ‹_›
  |exact a6j h1 ‹_› ‹_›
  |(have hI:=(‹nI _ _› :nI _ _).1;omega))
def FK:Sig:= {X:=List UInt8,args:=fun x=>[.str x],pre:=fun x=>x.length<2^62,Y:=Unit,post:=fun x y=>True,res:=fun x y=> .bool (DJ x),outs:=fun x y=>[.top],keep:=false}
def Ox(x:List UInt8):LS:= {ι:=Int,inv:=fun i=>nmI x i,regs:=fun i=>[(0,.str x),(3,.int .i64 i)],als:=[],meas:=fun i=>x.length-i.toNat}
theorem a6E:Am G Tryz.prog 119 FK:=
 vcFun_okP [(48,0,CU),(52,0,Fe),(76,0,Gc),(53,0,FH)] [] false (fun x=>[(4,Ox x)]) Tryz.func119 rfl (by decide) ⟨KE,YH,UI,Uz,trivial⟩ (fun(x:List UInt8)=>(∀(y:Unit),True→True∧True∧True)∧cA CU [.int .i64 (↑(List.length x):Int),.int .i64 (1:Int),.int .i64 (30:Int)] fun x_1 y=>Aa (!inn x_1.1 x_1.2.1 x_1.2.2) (rA FK x [.bool false,.top]) (((0:Int)≤(0:Int)∧(0:Int)<(↑(List.length x):Int))∧∀(c:UInt8),x[(0:Nat)]? =some c→cA Fe [AV.int IntKind.u8 (↑(UInt8.toNat c):Int)] fun x_2 y=>Aa (!Cf x_2) (rA FK x [.bool false,.top]) (cA Gc [.str x] fun x_3 y=>Aa (kw x_3) (rA FK x [.bool false,.top]) (eA (Ox x) [.str x,.int .i64 (0:Int)]∧∀(i:Int),nmI x i→Aa (decide (i<(↑(List.length x):Int))) (((0:Int)≤i∧i<(↑(List.length x):Int))∧∀(c:UInt8),x[Int.toNat i]? =some c→cA Fe [AV.int IntKind.u8 (↑(UInt8.toNat c):Int)] fun x_4 y=>Aa (!Cf x_4) (((0:Int)≤i∧i<(↑(List.length x):Int))∧∀(c:UInt8),x[Int.toNat i]? =some c→cA FH [AV.int IntKind.u8 (↑(UInt8.toNat c):Int)] fun x_5 y=>Aa (!Bj x_5) (rA FK x [.bool false,.top]) (inR IntKind.i64 (i+(1:Int))∧eN (Ox x) i [.str x,.int .i64 (i+(1:Int))])) (inR IntKind.i64 (i+(1:Int))∧eN (Ox x) i [.str x,.int .i64 (i+(1:Int))])) (rA FK x [.bool true,.top]))))) (fun x=>by kernel_rfl) fun(x:List UInt8) (hx:x.length<2^62)=>(by
 dsimp only[cA,eA,eN,Ox,rA,CU,FH,Fe,FK,Gc,Aw,AR,mvL,lnL,mvE,lnE,Br]
 have hp:∀h:inn x.length 1 30=true,1≤x.length:=fun h=>by simp [inn] at h;omega
 (repeat' first|(with_reducible first|rfl|exact True.intro|apply AM|apply And.intro|((first|apply AC|apply AK|apply AD|apply AL)<;>intro _))|(apply AB<;>intro _)|apply AJ|refine Ag () ?_ ?_|((first|apply AQ|apply AP|apply AO|apply AN|apply AI|apply AH|apply AG|apply AF|apply AE)<;>try dsimp only)|apply Ag|(refine Prod.forall.2 ?_;intro _;try dsimp only)|(intro _;try dsimp only))<;>(try dsimp only at*)<;>(try simp only[AS,List.length_cons,List.length_nil])<;>(try omega)
 all_goals(try(have:=hp ‹_›;omega))
 all_goals(try(have hI:=(‹nmI _ _› :nmI _ _).1;omega))
 ·rename_i h;exact UH (fun hh=>by rw[hh.1] at h;cases h)
 ·rename_i c hc _ _ h;exact UH (fun hh=>by rw[YS hc,h] at hh;cases hh.2.1)
 ·rename_i h;exact UH (fun hh=>by rw[hh.2.2] at h;cases h)
 ·rename_i h1 c hc _ _ h2 _ _ h3;exact a6k h1 (by rw[YS hc];exact h2) h3
 ·rename_i i hi hl c hc _ _ h1 d hd _ _ h2
  rw[hc] at hd;cases hd
  exact a6l hi hc (by simp [BD,h1,h2])
 ·rename_i i hi hl c hc _ _ h1 d hd _ _ h2
  rw[hc] at hd;cases hd
  exact YT hi hc hl (by simp [BD,h2])
 ·rename_i i hi hl c hc _ _ h1
  exact YT hi hc hl (by simp [BD,h1])
 ·exact a6m ‹_› ‹_›)
def KM:Sig:= {X:=List UInt8,args:=fun x=>[.str x],pre:=fun x=>x.length<2^62,Y:=Unit,post:=fun x y=>True,res:=fun x y=> .bool (Cw x 2),outs:=fun x y=>[.top],keep:=false}
theorem a6F:Am G Tryz.prog 120 KM:=
 vcFun_okP [(48,0,CU),(53,0,FH)] [] false (fun x=>[(2,Ea Bj x fun i=>[(0,.str x),(3,.int .i64 i)])]) Tryz.func120 rfl (by decide) ⟨KE,Uz,trivial⟩ (fun(x:List UInt8)=>(∀(y:Unit),True→True∧True∧True)∧eA (Ea Bj x fun(i:Int)=>[((0:Nat),.str x),((3:Nat),.int .i64 i)]) [.str x,.int .i64 (0:Int)]∧∀(i:Int),((0:Int)≤i∧i≤(↑(List.length x):Int)∧∀(e:UInt8),e∈List.take (Int.toNat i) x→Bj e=true)→Aa (decide (i<(↑(List.length x):Int))) (((0:Int)≤i∧i<(↑(List.length x):Int))∧∀(c:UInt8),x[Int.toNat i]? =some c→cA FH [AV.int IntKind.u8 (↑(UInt8.toNat c):Int)] fun x_1 y=>Aa (!Bj x_1) (rA KM x [.bool false,.top]) (inR IntKind.i64 (i+(1:Int))∧eN (Ea Bj x fun(i:Int)=>[((0:Nat),.str x),((3:Nat),.int .i64 i)]) i [.str x,.int .i64 (i+(1:Int))])) (cA CU [.int .i64 (↑(List.length x):Int),.int .i64 (1:Int),.int .i64 (12:Int)] fun x_1 y=>rA KM x [.bool (inn x_1.1 x_1.2.1 x_1.2.2),.top])) (fun x=>by kernel_rfl) fun(x:List UInt8) (hx:x.length<2^62)=>(by
 dsimp only[cA,eA,eN,Ea,rA,CU,FH,KM,Aw,AR,mvL,lnL,mvE,lnE,Br]
 (repeat' first|(with_reducible first|rfl|exact True.intro|apply AM|apply And.intro|((first|apply AC|apply AK|apply AD|apply AL)<;>intro _))|(apply AB<;>intro _)|apply AJ|refine Ag () ?_ ?_|((first|apply AQ|apply AP|apply AO|apply AN|apply AI|apply AH|apply AG|apply AF|apply AE)<;>try dsimp only)|apply Ag|(refine Prod.forall.2 ?_;intro _;try dsimp only)|(intro _;try dsimp only))<;>(try dsimp only at*)<;>(try simp only[AS,List.length_cons,List.length_nil])<;>(try omega)
 ·rename_i h;simp at h
 ·rename_i i hi hl c hc _ _ h;rw[YO,Qj hc h];rfl
 ·rename_i i hi hl c hc _ _ h e he
  rw[Dz hi.1] at he;exact Ou hi.2.2 hc h e he
 ·rename_i i hi hl _ _;rw[YO,Ut hi.2.2 (by omega)];simp only[Bool.true_and,inn];rw[Bool.eq_iff_iff];simp;omega)
def JQ:Sig:= {X:=List UInt8,args:=fun x=>[.str x],pre:=fun x=>x.length<2^62,Y:=Unit,post:=fun x y=>True,res:=fun x y=> .bool (Cw x 3),outs:=fun x y=>[.top],keep:=false}
theorem a6G:Am G Tryz.prog 121 JQ:=
 vcFun_okP [(54,0,HE)] [] false (fun x=>[]) Tryz.func121 rfl (by decide) ⟨YX,trivial⟩ (fun(x:List UInt8)=>(∀(y:Unit),True→True∧True∧True)∧Aa (decide ((↑(List.length x):Int)>(1:Int))) (((0:Int)≤(0:Int)∧(0:Int)<(↑(List.length x):Int))∧∀(c:UInt8),x[(0:Nat)]? =some c→Aa ((↑(UInt8.toNat c):Int)==(39:Int)) (cA HE [.str x,.int .i64 (0:Int)] fun x_1 y=>rA JQ x [.bool ((↑(CB (List.drop (Int.toNat x_1.2) x_1.1)):Int)==(↑(List.length x):Int)),.top]) (rA JQ x [.bool false,.top])) (rA JQ x [.bool false,.top])) (fun x=>by kernel_rfl) fun(x:List UInt8) (hx:x.length<2^62)=>(by
 dsimp only[cA,rA,HE,JQ,Aw,AR,mvL,lnL,mvE,lnE]
 (repeat' first|(with_reducible first|rfl|exact True.intro|apply AM|apply And.intro|((first|apply AC|apply AK|apply AD|apply AL)<;>intro _))|(apply AB<;>intro _)|apply AJ|refine Ag () ?_ ?_|((first|apply AQ|apply AP|apply AO|apply AN|apply AI|apply AH|apply AG|apply AF|apply AE)<;>try dsimp only)|apply Ag|(refine Prod.forall.2 ?_;intro _;try dsimp only)|(intro _;try dsimp only))<;>(try dsimp only at*)<;>(try simp only[AS,List.length_cons,List.length_nil])<;>(try omega)
 ·exact a6n ‹_› ‹_› ‹_›
 ·exact a6o ‹_› ‹_›
 ·exact a6p ‹_›)
def JR:Sig:= {X:=List UInt8,args:=fun x=>[.str x],pre:=fun x=>x.length<2^62,Y:=Unit,post:=fun x y=>True,res:=fun x y=> .bool (Cw x 5),outs:=fun x y=>[.top],keep:=false}
theorem a6H:Am G Tryz.prog 122 JR:=
 vcFun_okP [(50,0,GC),(51,0,Im)] [] false (fun x=>[]) Tryz.func122 rfl (by decide) ⟨YY,YU,trivial⟩ (fun(x:List UInt8)=>(∀(y:Unit),True→True∧True∧True)∧Aa (decide ((↑(List.length x):Int)>(1:Int))) (cA GC [.str x,.int .i64 (0:Int)] fun x_1 y=>Aa ((↑(Cs (List.drop (Int.toNat x_1.2) x_1.1)):Int)==(↑(List.length x):Int)) (cA Im [.str x] fun x_2 y=>rA JR x [.bool (Ca x_2==x),.top]) (rA JR x [.bool false,.top])) (rA JR x [.bool false,.top])) (fun x=>by kernel_rfl) fun(x:List UInt8) (hx:x.length<2^62)=>(by
 dsimp only[cA,rA,GC,JR,Im,Aw,AR,mvL,lnL,mvE,lnE]
 (repeat' first|(with_reducible first|rfl|exact True.intro|apply AM|apply And.intro|((first|apply AC|apply AK|apply AD|apply AL)<;>intro _))|(apply AB<;>intro _)|apply AJ|refine Ag () ?_ ?_|((first|apply AQ|apply AP|apply AO|apply AN|apply AI|apply AH|apply AG|apply AF|apply AE)<;>try dsimp only)|apply Ag|(refine Prod.forall.2 ?_;intro _;try dsimp only)|(intro _;try dsimp only))<;>(try dsimp only at*)<;>(try simp only[AS,List.length_cons,List.length_nil])<;>(try omega)
 ·exact a6q ‹_› ‹_›
 ·exact a6r ‹_›
 ·exact a6s ‹_›)
def GD:Sig:= {X:=List UInt8,args:=fun x=>[.str x],pre:=fun x=>x.length<2^62,Y:=Unit,post:=fun x y=>True,res:=fun x y=> .bool (Ot x),outs:=fun x y=>[.top],keep:=false}
theorem a6I:Am G Tryz.prog 123 GD:=
 vcFun_okP [] [] false (fun x=>[]) Tryz.func123 rfl (by decide) trivial (fun(x:List UInt8)=>(∀(y:Unit),True→True∧True∧True)∧Aa (x== #[(38:UInt8),(38:UInt8)].toList) (rA GD x [.bool true,.top]) (Aa (x== #[(124:UInt8),(124:UInt8)].toList) (rA GD x [.bool true,.top]) (Aa (x== #[(61:UInt8),(61:UInt8)].toList) (rA GD x [.bool true,.top]) (Aa (x== #[(60:UInt8)].toList) (rA GD x [.bool true,.top]) (Aa (x== #[(43:UInt8)].toList) (rA GD x [.bool true,.top]) (Aa (x== #[(45:UInt8)].toList) (rA GD x [.bool true,.top]) (Aa (x== #[(42:UInt8)].toList) (rA GD x [.bool true,.top]) (rA GD x [.bool false,.top])))))))) (fun x=>by kernel_rfl) fun(x:List UInt8) (hx:x.length<2^62)=>(by
 dsimp only[rA,GD,Aw,AR]
 (repeat' first|(with_reducible first|rfl|exact True.intro|apply AM|apply And.intro|((first|apply AC|apply AK|apply AD|apply AL)<;>intro _))|(apply AB<;>intro _)|apply AJ|refine Ag () ?_ ?_|((first|apply AQ|apply AP|apply AO|apply AN|apply AI|apply AH|apply AG|apply AF|apply AE)<;>try dsimp only)|apply Ag|(refine Prod.forall.2 ?_;intro _;try dsimp only)|(intro _;try dsimp only))<;>(try dsimp only at*)<;>(try simp only[AS,List.length_cons,List.length_nil])<;>(try omega)
 all_goals simp [Ot, *])
def Fs:Sig:= {X:=Int×List UInt8,args:=fun x=>[.int .i64 x.1,.str x.2],pre:=fun x=>x.2.length<2^62,Y:=Unit,post:=fun x y=>True,res:=fun x y=> .bool (FF x.1 x.2),outs:=fun x y=>[.top,.top],keep:=false}
theorem a6J:Am G Tryz.prog 105 Fs:=
 vcFun_okP [(119,0,FK),(120,0,KM),(121,0,JQ),(122,0,JR),(123,0,GD)] [] false (fun x=>[]) Tryz.func105 rfl (by decide) ⟨a6E,a6F,a6G,a6H,a6I,trivial⟩ (fun(x:Int×List UInt8)=>(∀(y:Unit),True→True∧True∧True∧True)∧Aa (x.1==(1:Int)) (cA FK [.str x.2] fun x_1 y=>rA Fs x [.bool (DJ x_1),.top,.top]) (Aa (x.1==(6:Int)) (cA FK [.str x.2] fun x_1 y=>rA Fs x [.bool (DJ x_1),.top,.top]) (Aa (x.1==(12:Int)) (cA FK [.str x.2] fun x_1 y=>rA Fs x [.bool (DJ x_1),.top,.top]) (Aa (x.1==(13:Int)) (cA FK [.str x.2] fun x_1 y=>rA Fs x [.bool (DJ x_1),.top,.top]) (Aa (x.1==(20:Int)) (cA FK [.str x.2] fun x_1 y=>rA Fs x [.bool (DJ x_1),.top,.top]) (Aa (x.1==(21:Int)) (cA FK [.str x.2] fun x_1 y=>rA Fs x [.bool (DJ x_1),.top,.top]) (Aa (x.1==(2:Int)) (cA KM [.str x.2] fun x_1 y=>rA Fs x [.bool (Cw x_1 (2:Int)),.top,.top]) (Aa (x.1==(3:Int)) (cA JQ [.str x.2] fun x_1 y=>rA Fs x [.bool (Cw x_1 (3:Int)),.top,.top]) (Aa (x.1==(19:Int)) (cA JR [.str x.2] fun x_1 y=>rA Fs x [.bool (Cw x_1 (5:Int)),.top,.top]) (Aa (x.1==(7:Int)) (cA GD [.str x.2] fun x_1 y=>rA Fs x [.bool (Ot x_1),.top,.top]) (rA Fs x [.bool (x.2== #[].toList),.top,.top]))))))))))) (fun x=>by kernel_rfl) fun(x:Int×List UInt8) (hx:x.2.length<2^62)=>(by
 dsimp only[cA,rA,GD,FK,JR,KM,JQ,Fs,Aw,AR,mvL,lnL,mvE,lnE]
 (repeat' first|(with_reducible first|rfl|exact True.intro|apply AM|apply And.intro|((first|apply AC|apply AK|apply AD|apply AL)<;>intro _))|(apply AB<;>intro _)|apply AJ|refine Ag () ?_ ?_|((first|apply AQ|apply AP|apply AO|apply AN|apply AI|apply AH|apply AG|apply AF|apply AE)<;>try dsimp only)|apply Ag|(refine Prod.forall.2 ?_;intro _;try dsimp only)|(intro _;try dsimp only))<;>(try dsimp only at*)<;>(try simp only[AS,List.length_cons,List.length_nil])<;>(try omega)
 all_goals simp [FF, *])
end Go.My
end
section
namespace Go.My
open Go.Eng
def CM(k:Int):Int×Int:=
 if k=4∨k=18∨k=21∨k=22 then(0,12)
 else if k=5∨k=9∨k=20 then(1,12)
 else if k=6∨k=11∨k=13∨k=14 then(1,1)
 else if k=7∨k=10 then(2,12)
 else if k=8 then(3,3)
 else if k=12∨k=15 then(0,1)
 else if k=16 then(2,3)
 else if k=17 then(2,2)
 else(0,0)
def GE(k n i y:Int):Bool:=
 if k=9 then(if i+1<n then EL y else BH y)
 else if k=20 then(if i+1<n then EL y else DZ y)
 else if k=10 then(if 0<i then Gb y else BH y)
 else if k=16∨k=17 then(if 0<i then DZ y else BH y)
 else if k=18 then Fd y
 else if k=21 then Fc y
 else if k=22 then Hb y
 else BH y
def KN(ns:List Nd)(x:Nd)(i c:Int):Bool:=
 GE x.kind x.kids.length i (BQ ns c)&&(if x.kind=10∧0<i then decide (BQ ns ((Aj ns c).kids.headD 0)=1) else true)
def DL(ns:List Nd)(x:Nd)(i c:Int):Bool:=
 (!(decide (BQ ns c=5)&&(decide ((Aj ns c).kids.length=0)|| !BF ns ((Aj ns c).kids.headD 0))))&&KN ns x i c
def BT(f:Int→Int→Bool):List Int→Int→Bool
 |[],_=>true
 |c::l,i=>f i c&&BT f l (i+1)
theorem UJ{f g:Int→Int→Bool}:∀ {l:List Int} {i:Int},(∀j c,i≤j→j<i+l.length→c∈l→f j c=g j c)→BT f l i=BT g l i
 |[],i,h=>rfl
 |c::l,i,h=>by
  simp only[BT]
  rw[h i c (Int.le_refl i) (by simp;omega) (by simp),UJ (fun j c hj hl hc=>h j c (by omega) (by simp;omega) (by simp [hc]))]
theorem YZ{f g:Int→Int→Bool}:∀ {l:List Int} {i:Int},BT (fun i c=>f i c&&g i c) l i=(BT f l i&&BT g l i)
 |[],i=>rfl
 |c::l,i=>by
  simp only[BT];rw[YZ]
  cases f i c<;>cases g i c<;>cases BT f l (i+1)<;>cases BT g l (i+1)<;>rfl
theorem Qx{f:Int→Bool}:∀ {l:List Int} {i:Int},BT (fun _ c=>f c) l i=l.all f
 |[],i=>rfl
 |c::l,i=>by simp only[BT,List.all_cons];rw[Qx]
theorem Za{f:Int→Int→Bool}{g:Int→Int}:∀ {l:List Int} {i:Int},BT f (l.map g) i=BT (fun i c=>f i (g c)) l i
 |[],i=>rfl
 |c::l,i=>by simp only[BT,List.map_cons];rw[Za]
theorem Zb{f:Int→Int→Bool}:∀ {l m:List Int} {i:Int},BT f (l++m) i=(BT f l i&&BT f m (i+l.length))
 |[],m,i=>by simp [BT]
 |c::l,m,i=>by
  simp only[List.cons_append,BT];rw[Zb,Bool.and_assoc]
  congr 2;congr 1;simp;omega
theorem UK{f:Int→Int→Bool}:∀ {l:List Int} {i:Nat},((l.zipIdx i).all fun p=>f p.2 p.1)=BT f l i
 |[],i=>rfl
 |c::l,i=>by
  simp only[List.zipIdx_cons,List.all_cons,BT];rw[UK];congr 2
theorem UL{f:Int→Int→Bool}{l:List Int}:BT f l 0=true↔∀(j:Nat) c,l[j]? =some c→f j c=true:=by
 have:∀(l:List Int) (i:Nat),BT f l i=true↔∀(j:Nat) c,l[j]? =some c→f (i+j:Nat) c=true:=by
  intro l
  induction l with
  |nil=>intro i;simp [BT]
  |cons c l ih=>
   intro i
   simp only[BT,Bool.and_eq_true]
   have:=ih (i+1)
   rw[show((i:Int)+1)=((i+1:Nat):Int) from by omega,this]
   constructor
   ·rintro⟨h1,h2⟩ j d hd
    cases j with
    |zero=>simp at hd;subst hd;simpa using h1
    |succ j=>have:=h2 j d (by simpa using hd);rwa [show i+1+j=i+(j+1) by omega] at this
   ·intro h
    refine⟨by simpa using h 0 c rfl,fun j d hd=> ?_⟩
    have:=h (j+1) d (by simpa using hd)
    rwa [show i+(j+1)=i+1+j by omega] at this
 have:=this l 0
 simpa using this
theorem a6K{l:List Int}{k:Int}(h:l.getLast? =some k):l=l.dropLast++[k]:=by
 have hne:l≠[]:=by intro e;rw[e] at h;cases h
 rw[List.getLast?_eq_some_getLast hne] at h
 have:=List.dropLast_concat_getLast hne
 rw[Option.some.inj h] at this;exact this.symm
theorem Zd{p:Int→Bool}{l:List Int}:(decide (1≤l.length)&&BT (fun i y=>if i+1<(l.length:Int) then EL y else p y) l 0)=Hy p l:=by
 unfold Hy
 cases h:l.getLast? with
 |none=>have:l=[]:=by simpa using h
        subst this;rfl
 |some k=>
  have e:=a6K h
  generalize hd:l.dropLast=m at e ⊢
  subst e
  rw[Zb]
  have h1:BT (fun i y=>if i+1<((m++[k]).length:Int) then EL y else p y) m 0=m.all EL:=by
   rw[←Qx (i:=0)]
   exact UJ fun j c h0 hj hc=>if_pos (by simp;omega)
  rw[h1]
  simp only[BT]
  have h2:¬((0:Int)+m.length+1<((m++[k]).length:Int)):=by simp
  rw[if_neg h2]
  have:decide (1≤(m++[k]).length)=true:=by simp
  rw[this];simp [Bool.and_comm]
theorem Ze{p q:Int→Bool}{c:Int}{l:List Int}:BT (fun i y=>if 0<i then q y else p y) (c::l) 0=(p c&&l.all q):=by
 simp only[BT]
 have h1:¬((0:Int)<0):=by omega
 rw[if_neg h1]
 congr 1
 rw[←Qx (i:=0+1)]
 exact UJ fun j c h0 hj hc=>if_pos (by omega)
theorem Zf{k:Int}{l:List Int}(h1:1≤k)(h2:k≤22):(inn l.length (CM k).1 (CM k).2&&BT (fun i y=>GE k l.length i y) l 0)=(decide (l.length≤12)&&Eo k l):=by
 have hk:k=1∨k=2∨k=3∨k=4∨k=5∨k=6∨k=7∨k=8∨k=9∨k=10∨k=11∨k=12∨k=13∨k=14∨k=15∨k=16∨k=17∨k=18∨k=19∨k=20∨k=21∨k=22:=by omega
 have len0:∀ {b c:Bool},l.length=0→(l=[]):=fun h=>List.length_eq_zero_iff.1 h
 rcases hk with rfl|rfl|rfl|rfl|rfl|rfl|rfl|rfl|rfl|rfl|rfl|rfl|rfl|rfl|rfl|rfl|rfl|rfl|rfl|rfl|rfl|rfl
 all_goals simp only[CM,GE,Eo,inn,Int.reduceEq,or_self,or_false,false_or,or_true,true_or,if_true,if_false,reduceIte]
 all_goals try(
  by_cases h:l.length=0
  ·have:=List.length_eq_zero_iff.1 h;subst this;rfl
  ·have e1:decide ((l.length:Int)≤0)=false:=decide_eq_false (by omega)
   have e2:decide (l.length=0)=false:=decide_eq_false h
   simp only[e1,e2,Bool.and_false,Bool.false_and];done)
 all_goals try rw[Qx]
 all_goals try(
  generalize l.all _=b
  rw[Bool.eq_iff_iff];cases b<;>simp only[Bool.and_eq_true,decide_eq_true_eq,Bool.false_eq_true,and_false,and_true]<;>omega)
 ·rw[show decide (1≤(l.length:Int))=decide (1≤l.length) from decide_eq_decide.2 (by omega),show decide ((l.length:Int)≤12)=decide (l.length≤12) from decide_eq_decide.2 (by omega),←Zd (p:=BH)]
  generalize BT _ l 0=b
  cases decide (1≤l.length)<;>cases decide (l.length≤12)<;>cases b<;>rfl
 ·cases l with
  |nil=>rfl
  |cons c l=>
   rw[Ze]
   simp only[List.headD_cons,List.drop_succ_cons,List.drop_zero]
   generalize BH c=b;generalize l.all _=d
   rw[Bool.eq_iff_iff];cases b<;>cases d<;>simp only[Bool.and_eq_true,decide_eq_true_eq,Bool.false_eq_true,and_false,and_true]<;>omega
 ·cases l with
  |nil=>rfl
  |cons c l=>
   rw[Ze]
   simp only[List.headD_cons,List.drop_succ_cons,List.drop_zero]
   generalize BH c=b;generalize l.all _=d
   rw[Bool.eq_iff_iff];cases b<;>cases d<;>simp only[Bool.and_eq_true,decide_eq_true_eq,Bool.false_eq_true,and_false,and_true]<;>omega
 ·match l with
  |[]=>rfl
  |[c]=>rfl
  |[c,d]=>simp [BT]
  |c::d::e::l=>
   have e1:decide (((c::d::e::l).length:Int)≤2)=false:=decide_eq_false (by simp;omega)
   have e2:decide ((c::d::e::l).length=2)=false:=decide_eq_false (by simp)
   rw[e1,e2];simp
 ·rw[show decide (1≤(l.length:Int))=decide (1≤l.length) from decide_eq_decide.2 (by omega),show decide ((l.length:Int)≤12)=decide (l.length≤12) from decide_eq_decide.2 (by omega),←Zd (p:=DZ)]
  generalize BT _ l 0=b
  cases decide (1≤l.length)<;>cases decide (l.length≤12)<;>cases b<;>rfl
theorem Zg{k:Int}{l:List Int}(h:inn k 1 22=false):Eo k l=false:=by
 have h:¬(1≤k∧k≤22):=by intro hh;simp [inn] at h;omega
 unfold Eo
 have e:∀j:Int,1≤j→j≤22→k≠j:=fun j h1 h2 e=>h (by omega)
 simp [e]
theorem a6L{ns:List Nd}{x:Nd}{i c:Int}:DL ns x i c=(GE x.kind x.kids.length i (BQ ns c)&&CQ ns x i.toNat c):=by
 unfold DL KN CQ BQ
 generalize hy:Aj ns c=y
 by_cases h5:y.kind=5
 ·simp only[h5,if_true,decide_true,Bool.true_and]
  cases hk:y.kids with
  |nil=>simp
  |cons h t=>
   simp only[List.length_cons,List.headD_cons]
   have e0:decide (t.length+1=0)=false:=by simp
   rw[e0]
   by_cases hx:x.kind=10∧0<i
   ·have hi:0<i.toNat:=by omega
    simp only[hx,and_self,if_true,decide_true,Bool.true_and,hi]
    generalize GE 10 _ _ _=a;generalize BF ns h=b
    by_cases hd:(Aj ns h).kind=1<;>cases a<;>cases b<;>simp [hd]
   ·rw[if_neg hx]
    have:(decide (x.kind=10)&&(decide (0<i.toNat)&& !decide ((Aj ns h).kind=1)))=false:=by
     by_cases h1:x.kind=10
     ·have:¬0<i.toNat:=by omega
      simp [this]
     ·simp [h1]
    rw[this]
    generalize GE _ _ _ _=a;generalize BF ns h=b
    cases a<;>cases b<;>rfl
 ·simp only[h5,if_false,decide_false,Bool.false_and,Bool.not_false,Bool.true_and,Bool.and_true]
  by_cases hx:x.kind=10∧0<i
  ·rw[if_pos hx]
   have:GE x.kind x.kids.length i y.kind=false:=by
    simp [GE,hx,Gb,h5]
   rw[this];rfl
  ·rw[if_neg hx];simp
theorem a6M{ns:List Nd}{k:Int}{x:Nd}:HA ns k x=
 (inn x.kind 1 22&&(inn x.kids.length (CM x.kind).1 (CM x.kind).2&&(FF x.kind x.text&&((Hz x.kind|| !x.blank)&&((DK x.kids k&&decide x.kids.Nodup)&&BT (DL ns x) x.kids 0))))):=by
 have e1:BT (DL ns x) x.kids 0=(BT (fun i y=>GE x.kind (x.kids.map (BQ ns)).length i y) (x.kids.map (BQ ns)) 0&&Ep ns x):=by
  have:(DL ns x)=fun i c=>(GE x.kind x.kids.length i (BQ ns c)&&CQ ns x i.toNat c):=by
   funext i c;exact a6L
  rw[this,YZ,Za,List.length_map]
  congr 1
  unfold Ep
  have:(fun p:Int×Nat=>CQ ns x p.2 p.1)=fun p:Int×Nat=>(fun(i c:Int)=>CQ ns x i.toNat c) p.2 p.1:=by
   funext p;simp
  rw[this]
  exact(UK (f:=fun i c=>CQ ns x i.toNat c) (i:=0)).symm
 unfold HA
 by_cases h:inn x.kind 1 22=true
 ·have hb:= @Zf x.kind (x.kids.map (BQ ns)) (by simp [inn] at h;omega) (by simp [inn] at h;omega)
  rw[List.length_map] at hb
  rw[e1,List.length_map,h]
  generalize decide (x.kids.length≤12)=a at hb ⊢;generalize Eo x.kind _=b at hb ⊢;generalize inn _ _ _=c at hb ⊢
  generalize BT _ _ 0=d at hb ⊢;generalize FF _ _=e;generalize Hz _=f;generalize Ep _ _=g;generalize DK _ _=h1;generalize decide x.kids.Nodup=h2
  cases a<;>cases b<;>cases c<;>cases d<;>simp at hb<;>cases e<;>cases f<;>cases g<;>cases h1<;>cases h2<;>simp
 ·simp only[Bool.not_eq_true] at h
  rw[Zg h,h];simp
end Go.My
end
