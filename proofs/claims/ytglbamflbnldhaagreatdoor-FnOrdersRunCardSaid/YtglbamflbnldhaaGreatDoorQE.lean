/- joined -/
import Derived.Test.YtglbamflbnldhaaGreatDoorQD
import Derived.Test.YtglbamflbnldhaaGreatDoorProg
import Derived.WalkKit
import Derived.Lib.Bytealg
import Derived.Laws.Externs
set_option linter.unusedSimpArgs false
set_option linter.unusedVariables false
section
namespace Go.My
open Go.Eng
def inn(x a b:Int):Bool:=decide (a≤x)&&decide (x≤b)
def Bz(l:List Nd)(k:Int):Bool:=decide (0≤k)&&decide (k<l.length)
def BG(k:Int):Bool:=inn k 1 11
def JC(k:Int):Bool:=inn k 12 17
def Ez(k:Int):Bool:=decide (k=12)||(decide (k=20)||decide (k=19))
def CU(k:Int):Bool:=decide (k=18)
def EA(k:Int):Bool:=decide (k=1)
def FY(k:Int):Bool:=decide (k=5)
def DT(k:Int):Bool:=JC k||decide (k=19)
def FA(k:Int):Bool:=Ez k||decide (k=21)
def EP(p:Int→Bool)(ks:List Int):Bool:=match ks.getLast? with
 |some k=>p k&&ks.dropLast.all EA
 |none=>false
def Cd(k:Int)(ks:List Int):Bool:=
 if k=1∨k=2∨k=3∨k=19 then decide (ks.length=0)
 else if k=4 then ks.all BG
 else if k=5 then decide (1≤ks.length)&&ks.all BG
 else if k=7 then decide (2≤ks.length)&&ks.all BG
 else if k=8 then decide (ks.length=3)&&ks.all BG
 else if k=6∨k=11∨k=13∨k=14 then decide (ks.length=1)&&ks.all BG
 else if k=12∨k=15 then decide (ks.length≤1)&&ks.all BG
 else if k=9 then EP BG ks
 else if k=10 then decide (2≤ks.length)&&(BG (ks.headD 0)&&(ks.drop 1).all FY)
 else if k=16 then(decide (2≤ks.length)&&decide (ks.length≤3))&&(BG (ks.headD 0)&&(ks.drop 1).all CU)
 else if k=17 then decide (ks.length=2)&&(BG (ks.headD 0)&&CU (ks.getD 1 0))
 else if k=18 then ks.all DT
 else if k=20 then EP CU ks
 else if k=21 then ks.all Ez
 else if k=22 then ks.all FA
 else false
def ndAt(ns:List Nd)(c:Int):Nd:=ns.getD c.toNat ⟨0,[],[],false⟩
def As(ns:List Nd)(c:Int):Int:=(ndAt ns c).kind
def CD(ns:List Nd)(x:Nd)(i:Nat)(c:Int):Bool:=
 let y:=ndAt ns c
 if y.kind=5 then match y.kids with
  |[]=>false
  |h::_=>Bz ns h&& !(decide (x.kind=10)&&(decide (0<i)&& !decide (As ns h=1)))
 else true
def DL(ns:List Nd)(x:Nd):Bool:=(x.kids.zipIdx).all fun p=>CD ns x p.2 p.1
def DE(l:List Int)(k:Int):Bool:=l.all fun c=>decide (0≤c)&&decide (c<k)
def HJ(k:Int):Bool:=JC k||(Ez k||decide (k=21))
def FB(ns:List Nd)(k:Int)(x:Nd):Bool:=
 decide (x.kids.length≤12)&&(Fg x.kind x.text&&((DE x.kids k&&decide x.kids.Nodup)&&(Cd x.kind (x.kids.map (As ns))&&(DL ns x&&(HJ x.kind|| !x.blank)))))
def BH(ns:List Nd)(k:Int):Bool:=Bz ns k&&FB ns k (ndAt ns k)
def mx(ds:List Int):List Int→Int→Int
 |[],d=>d
 |c::l,d=>mx ds l (max d (ds.getD c.toNat 0))
def CN(ns:List Nd):Nat→Option (List Int)
 |0=>some []
 |n+1=>match CN ns n with
  |none=>none
  |some ds=>if BH ns n then(if 14≤mx ds (ndAt ns n).kids 0 then none else some (ds++[mx ds (ndAt ns n).kids 0+1])) else none
def BA(ns:List Nd)(k:Int):Int:=if Bz ns k then match CN ns (k.toNat+1) with
    |none=>0
    |some ds=>ds.getD k.toNat 0
 else 0
def BU(ns:List Nd):List Int:=ns.flatMap (·.kids)
def Bf(ns:List Nd):Bool:=
 (decide (1≤ns.length)&&decide (ns.length≤300))&&(decide (As ns (ns.length-1)=22)&&(!decide (BA ns (ns.length-1)=0)&&((List.range (ns.length-1)).all fun i=>decide ((BU ns).count (i:Int)=1))))
theorem BV{l:List Nd}{k:Int}:Bz l k=true↔0≤k∧k<l.length:=by simp [Bz]
theorem Bn{ns:List Nd}{c:Int}{x:Nd}(h:ns[c.toNat]? =some x):ndAt ns c=x:=by
 simp [ndAt,List.getD,h]
theorem RC(ds:List Int):∀(l:List Int) (d:Int),d≤mx ds l d
 |[],d=>Int.le_refl d
 |c::l,d=>by unfold mx;have:=RC ds l (max d (ds.getD c.toNat 0));omega
theorem JD{ns:List Nd}:∀ {n:Nat} {ds:List Int},CN ns n=some ds→ds.length=n
 |0,ds,h=>by cases h;rfl
 |n+1,ds,h=>by
  unfold CN at h
  split at h
  ·cases h
  ·rename_i ds' hd
   split at h
   ·split at h
    ·cases h
    ·simp at h;rw[←h];simp [JD hd]
   ·cases h
theorem PB{ns:List Nd}:∀ {n:Nat} {ds:List Int},CN ns n=some ds→∀d∈ds,1≤d∧d≤14
 |0,ds,h=>by cases h;simp
 |n+1,ds,h=>by
  unfold CN at h
  split at h
  ·cases h
  ·rename_i ds' hd
   split at h
   ·split at h
    ·cases h
    ·simp at h;rw[←h]
     intro d hdm
     rcases List.mem_append.1 hdm with hdm|hdm
     ·exact PB hd d hdm
     ·simp at hdm
      have:=RC ds' (ndAt ns n).kids 0
      omega
   ·cases h
theorem a0V{ns:List Nd}:∀ {n:Nat} {ds:List Int},CN ns n=some ds→∀i,i<n→BH ns i=true
 |0,ds,h,i,hi=>by omega
 |n+1,ds,h,i,hi=>by
  unfold CN at h
  split at h
  ·cases h
  ·rename_i ds' hd
   split at h
   ·rename_i hok
    by_cases e:i=n
    ·subst e;exact hok
    ·exact a0V hd i (by omega)
   ·cases h
theorem a0W{ns:List Nd}{n m:Nat}(h:CN ns n=none)(hm:n≤m):CN ns m=none:=by
 induction m with
 |zero=>obtain rfl:n=0:=by omega
        exact h
 |succ m ih=>
  by_cases e:n=m+1
  ·subst e;exact h
  ·unfold CN;rw[ih (by omega)]
theorem Ns{ns:List Nd}{k:Int}(h:BA ns k≠0):Bz ns k=true∧(∃ds,CN ns (k.toNat+1)=some ds)∧∀i:Nat,(i:Int)≤k→BH ns i=true:=by
 unfold BA at h
 split at h
 ·rename_i hn
  split at h
  ·exact(h rfl).elim
  ·rename_i ds hd
   exact⟨hn,⟨ds,hd⟩,fun i hi=>a0V hd i (by have:=BV.1 hn;omega)⟩
 ·exact(h rfl).elim
theorem a0X{ns:List Nd}{k:Int}:0≤BA ns k:=by
 unfold BA
 split
 ·split
  ·exact Int.le_refl 0
  ·rename_i ds hd
   rw[List.getD]
   cases h:ds[k.toNat]? with
   |none=>simp
   |some d=>have:=PB hd d (List.mem_of_getElem? h);simp;omega
 ·exact Int.le_refl 0
theorem Wa{ns:List Nd}{k:Int}{ds:List Int}(hn:Bz ns k=true)(h:CN ns (k.toNat+1)=some ds):BA ns k≠0:=by
 unfold BA
 rw[if_pos hn,h]
 have hl:=JD h
 have:ds[k.toNat]? =some ds[k.toNat]:=by simp
 simp only[List.getD,this,Option.getD_some]
 have:=PB h ds[k.toNat] (by simp)
 omega
theorem DM{ns:List Nd}{k:Int}(h:BH ns k=true):(0≤k∧k<ns.length)∧(ndAt ns k).kids.length≤12∧Fg (ndAt ns k).kind (ndAt ns k).text=true∧
 (∀c∈(ndAt ns k).kids,0≤c∧c<k)∧(ndAt ns k).kids.Nodup∧Cd (ndAt ns k).kind ((ndAt ns k).kids.map (As ns))=true∧DL ns (ndAt ns k)=true:=by
 simp only[BH,FB,Bool.and_eq_true,decide_eq_true_eq,DE,List.all_eq_true] at h
 exact⟨BV.1 h.1,h.2.1,h.2.2.1,h.2.2.2.1.1,h.2.2.2.1.2,h.2.2.2.2.1,h.2.2.2.2.2.1⟩
end Go.My
end
section
namespace Go.My
open Go.Eng Go.Proofs Go.RowKit
variable {G:GInv}
def CO(s:List UInt8)(c:UInt8):Int:=match DW (fun d=>decide (d.toNat=c.toNat)) s with
 |none=> -1
 |some i=>i
theorem a0Y:∀(s:List UInt8) (c:UInt8),Lib.indexByte s c=CO s c
 |[],c=>rfl
 |b::s,c=>by
  unfold Lib.indexByte CO DW
  have e:(b==c)=decide (b.toNat=c.toNat):=by
   rw[Bool.eq_iff_iff];simp [UInt8.toNat_inj]
  rw[e]
  by_cases h:b.toNat=c.toNat
  ·simp [h]
  ·have ih:=a0Y s c
   unfold CO at ih
   simp only[h,decide_false,Bool.false_eq_true,if_false]
   rw[ih]
   cases hh:DW (fun d=>decide (d.toNat=c.toNat)) s with
   |none=>simp
   |some i=>simp
set_option maxHeartbeats 1000000 in
set_option maxRecDepth 100000 in
theorem a9j(s:ByteArray)(c:Int)(w:World):
 Calls Tryz.prog 212 #[.string s,.int .u8 c] w fun e w'=>e= .returned (.int .i64 (Lib.indexByte s.data.toList c.toNat.toUInt8))∧w'=w:=by
 go_enter Tryz.func212,Tryz.ntmps212
 go_wp2
 rw[run_callFunc_extern Tryz.func228 (by kernel_rfl) (by kernel_rfl) (by kernel_rfl) (e:=Extern.BytealgIndexByte.indexByte) (by kernel_rfl),Lib.run_indexByteString]
 simp only[Result.andThen]
 rw[Oper.upon_value]
 go_wp2
 go_ret
 exact⟨rfl,rfl⟩
def Nt:Sig:= {X:=List UInt8×UInt8,args:=fun x=>[.str x.1,.int .u8 x.2.toNat],pre:=fun _=>True,Y:=Unit,post:=fun _ _=>True,res:=fun x _=> .int .i64 (CO x.1 x.2),outs:=fun _ _=>[.top,.top],keep:=false}
theorem Wb:Aj G Tryz.prog 212 Nt:=by
 refine⟨⟨⟨_,Tryz.func212,by kernel_rfl,by kernel_rfl⟩,fun x y _ _=>⟨trivial,trivial,trivial,trivial⟩⟩,?_⟩
 rintro⟨l,c⟩ _ Z w vals A _ h hA _
 simp only[Nt,AS,Ai] at h
 obtain⟨v,cs,A1,A2,rfl,_,⟨rfl,_⟩,v',cs',A3,A4,rfl,_,⟨rfl,_⟩,rfl,_⟩:=h
 refine(a9j ⟨l.toArray⟩ c.toNat w).mono ?_
 rintro e w' ⟨rfl,rfl⟩
 refine⟨(),_,Z,(fun _=>False),trivial,rfl,?_,⟨rfl,rfl,rfl,Nat.le_refl _,fun _ _ _=>⟨rfl,Iff.rfl⟩,fun _ h=>h.elim⟩⟩
 simp only[Nt,AS,Ai]
 refine⟨_,_,_,_,rfl,BK _,⟨?_,AP⟩,_,_,_,_,rfl,BK _,AP,_,_,_,_,rfl,BK _,AP,rfl,AP⟩
 rw[a0Y];simp
def RD:Sig:= {X:=List UInt8,args:=fun x=>[.str x,.int .u8 39],pre:=fun _=>True,Y:=Unit,post:=fun _ _=>True,res:=fun x _=> .int .i64 (CO x 39),outs:=fun _ _=>[.top,.top],keep:=false}
theorem a9k:Aj G Tryz.prog 212 RD:=⟨⟨(Wb (G:=G)).1.1,fun x y _ _=>⟨trivial,trivial,trivial,trivial⟩⟩,fun x hx=>(Wb (G:=G)).2 (x,39) trivial⟩
def Nu:Sig:= {X:=List UInt8,args:=fun x=>[.str x,.int .u8 39],pre:=fun x=>True,Y:=Unit,post:=fun x y=>True,res:=fun x y=> .int .i64 (CO x 39),outs:=fun x y=>[.top,.top],keep:=false}
theorem a9l:Aj G Tryz.prog 191 Nu:=
 vcFun_okP [(212,0,RD)] [] false (fun x=>[]) Tryz.func191 rfl (by decide) ⟨a9k,trivial⟩ (fun(x:List UInt8)=>(∀(y:Unit),True→True∧True∧True∧True)∧cA RD [.str x,AV.int IntKind.u8 (39:Int)] fun x_1 y=>rA Nu x [.int .i64 (CO x_1 (39:UInt8)),.top,.top]) (fun x=>by kernel_rfl) fun(x:List UInt8) (hx:True)=>(by
 dsimp only[cA,rA,RD,Nu,Au,Az,mvL,lnL,mvE,lnE]
 (repeat' first|(with_reducible first|rfl|exact True.intro|apply AK|apply And.intro|((first|apply AA|apply AI|apply AB|apply AJ)<;>intro _))|(apply Ax<;>intro _)|apply AH|refine Ae () ?_ ?_|((first|apply AO|apply AN|apply AM|apply AL|apply AG|apply AF|apply AE|apply AD|apply AC)<;>try dsimp only)|apply Ae|(refine Prod.forall.2 ?_;intro _;try dsimp only)|(intro _;try dsimp only))<;>(try dsimp only at*)<;>(try simp only[AQ,List.length_cons,List.length_nil])<;>(try omega))
def JE:Sig:= {X:=List UInt8×List UInt8,args:=fun x=>[.str x.1,.str x.2],pre:=fun x=>x.2.length=1,Y:=Unit,post:=fun x y=>True,res:=fun x y=> .int .i64 (CO x.1 (x.2.headD 0)),outs:=fun x y=>[.top,.top],keep:=false}
theorem a9m:Aj G Tryz.prog 232 JE:=
 vcFun_okP [(212,0,Nt)] [] false (fun x=>[]) Tryz.func232 rfl (by decide) ⟨Wb,trivial⟩ (fun(x:List UInt8×List UInt8)=>(∀(y:Unit),True→True∧True∧True∧True)∧Aa ((↑(List.length x.2):Int)==(0:Int)) (rA JE x [.int .i64 (0:Int),.top,.top]) (Aa (x.2==x.1) (rA JE x [.int .i64 (0:Int),.top,.top]) (Aa ((↑(List.length x.2):Int)==(1:Int)) (((0:Int)≤(0:Int)∧(0:Int)<(↑(List.length x.2):Int))∧∀(c:UInt8),x.2[(0:Nat)]? =some c→cA Nt [.str x.1,AV.int IntKind.u8 (↑(UInt8.toNat c):Int)] fun x_1 y=>rA JE x [.int .i64 (CO x_1.1 x_1.2),.top,.top]) (Aa (decide ((↑(List.length x.2):Int)≥(↑(List.length x.1):Int))) (rA JE x [.int .i64 (-1:Int),.top,.top]) False)))) (fun x=>by kernel_rfl) fun(x:List UInt8×List UInt8) (hx:x.2.length=1)=>(by
 dsimp only[cA,rA,Nt,JE,Au,Az,mvL,lnL,mvE,lnE]
 (repeat' first|(with_reducible first|rfl|exact True.intro|apply AK|apply And.intro|((first|apply AA|apply AI|apply AB|apply AJ)<;>intro _))|(apply Ax<;>intro _)|apply AH|refine Ae () ?_ ?_|((first|apply AO|apply AN|apply AM|apply AL|apply AG|apply AF|apply AE|apply AD|apply AC)<;>try dsimp only)|apply Ae|(refine Prod.forall.2 ?_;intro _;try dsimp only)|(intro _;try dsimp only))<;>(try dsimp only at*)<;>(try simp only[AQ,List.length_cons,List.length_nil])<;>(try omega)
 ·rename_i _ h;rw[←h];match x.2,hx with
  |[c],_=>simp [CO,DW]
 ·rename_i c hc _ _
  match x.2,hx,hc with
  |[d],_,hc=>simp at hc;rw[←hc];rfl)
def Nv:Sig:= {X:=List UInt8×List UInt8,args:=fun x=>[.str x.1,.str x.2],pre:=fun x=>x.2.length=1,Y:=Unit,post:=fun x y=>True,res:=fun x y=> .int .i64 (CO x.1 (x.2.headD 0)),outs:=fun x y=>[.top,.top],keep:=false}
theorem a9n:Aj G Tryz.prog 217 Nv:=
 vcFun_okP [(232,0,JE)] [] false (fun x=>[]) Tryz.func217 rfl (by decide) ⟨a9m,trivial⟩ (fun(x:List UInt8×List UInt8)=>(∀(y:Unit),True→True∧True∧True∧True)∧cA JE [.str x.1,.str x.2] fun x_1 y=>rA Nv x [.int .i64 (CO x_1.1 (List.headD x_1.2 (0:UInt8))),.top,.top]) (fun x=>by kernel_rfl) fun(x:List UInt8×List UInt8) (hx:x.2.length=1)=>(by
 dsimp only[cA,rA,Nv,JE,Au,Az,mvL,lnL,mvE,lnE]
 (repeat' first|(with_reducible first|rfl|exact True.intro|apply AK|apply And.intro|((first|apply AA|apply AI|apply AB|apply AJ)<;>intro _))|(apply Ax<;>intro _)|apply AH|refine Ae () ?_ ?_|((first|apply AO|apply AN|apply AM|apply AL|apply AG|apply AF|apply AE|apply AD|apply AC)<;>try dsimp only)|apply Ae|(refine Prod.forall.2 ?_;intro _;try dsimp only)|(intro _;try dsimp only))<;>(try dsimp only at*)<;>(try simp only[AQ,List.length_cons,List.length_nil])<;>(try omega))
def Nw:Sig:= {X:=List UInt8×List UInt8,args:=fun x=>[.str x.1,.str x.2],pre:=fun x=>x.2.length=1,Y:=Unit,post:=fun x y=>True,res:=fun x y=> .bool (decide (CO x.1 (x.2.headD 0)≥0)),outs:=fun x y=>[.top,.top],keep:=false}
theorem a9o:Aj G Tryz.prog 194 Nw:=
 vcFun_okP [(217,0,Nv)] [] false (fun x=>[]) Tryz.func194 rfl (by decide) ⟨a9n,trivial⟩ (fun(x:List UInt8×List UInt8)=>(∀(y:Unit),True→True∧True∧True∧True)∧cA Nv [.str x.1,.str x.2] fun x_1 y=>rA Nw x [.bool (decide (CO x_1.1 (List.headD x_1.2 (0:UInt8))≥(0:Int))),.top,.top]) (fun x=>by kernel_rfl) fun(x:List UInt8×List UInt8) (hx:x.2.length=1)=>(by
 dsimp only[cA,rA,Nw,Nv,Au,Az,mvL,lnL,mvE,lnE]
 (repeat' first|(with_reducible first|rfl|exact True.intro|apply AK|apply And.intro|((first|apply AA|apply AI|apply AB|apply AJ)<;>intro _))|(apply Ax<;>intro _)|apply AH|refine Ae () ?_ ?_|((first|apply AO|apply AN|apply AM|apply AL|apply AG|apply AF|apply AE|apply AD|apply AC)<;>try dsimp only)|apply Ae|(refine Prod.forall.2 ?_;intro _;try dsimp only)|(intro _;try dsimp only))<;>(try dsimp only at*)<;>(try simp only[AQ,List.length_cons,List.length_nil])<;>(try omega))
def Lq:Sig:= {X:=List UInt8×List UInt8,args:=fun x=>[.str x.1,.str x.2],pre:=fun x=>x.2.length<2^62∧x.1.length<2^63,Y:=Unit,post:=fun x y=>True,res:=fun x y=> .bool (x.1.take x.2.length==x.2),outs:=fun x y=>[.top,.top],keep:=false}
theorem a9p:Aj G Tryz.prog 192 Lq:=
 vcFun_okP [] [] false (fun x=>[]) Tryz.func192 rfl (by decide) trivial (fun(x:List UInt8×List UInt8)=>(∀(y:Unit),True→True∧True∧True∧True)∧Aa (decide ((↑(List.length x.1):Int)≥(↑(List.length x.2):Int))) (((0:Int)≤(0:Int)∧(0:Int)≤(↑(List.length x.2):Int)∧(↑(List.length x.2):Int)≤(↑(List.length x.1):Int))∧rA Lq x [.bool (List.take (Int.toNat (↑(List.length x.2):Int)) x.1==x.2),.top,.top]) (rA Lq x [.bool false,.top,.top])) (fun x=>by kernel_rfl) fun(x:List UInt8×List UInt8) (hx:x.2.length<2^62∧x.1.length<2^63)=>(by
 dsimp only[rA,Lq,Au,Az]
 obtain⟨h1,h2⟩:=hx
 (repeat' first|(with_reducible first|rfl|exact True.intro|apply AK|apply And.intro|((first|apply AA|apply AI|apply AB|apply AJ)<;>intro _))|(apply Ax<;>intro _)|apply AH|refine Ae () ?_ ?_|((first|apply AO|apply AN|apply AM|apply AL|apply AG|apply AF|apply AE|apply AD|apply AC)<;>try dsimp only)|apply Ae|(refine Prod.forall.2 ?_;intro _;try dsimp only)|(intro _;try dsimp only))<;>(try dsimp only at*)<;>(try simp only[AQ,List.length_cons,List.length_nil])<;>(try omega)
 ·simp
 ·rename_i h;rw[eq_comm,beq_eq_false_iff_ne];intro e;have:=congrArg List.length e;simp at this;omega)
def Nx:Sig:= {X:=List UInt8×List UInt8,args:=fun x=>[.str x.1,.str x.2],pre:=fun x=>x.2.length<2^62∧x.1.length<2^63,Y:=Unit,post:=fun x y=>True,res:=fun x y=> .bool (x.1.take x.2.length==x.2),outs:=fun x y=>[.top,.top],keep:=false}
theorem a9q:Aj G Tryz.prog 164 Nx:=
 vcFun_okP [(192,0,Lq)] [] false (fun x=>[]) Tryz.func164 rfl (by decide) ⟨a9p,trivial⟩ (fun(x:List UInt8×List UInt8)=>(∀(y:Unit),True→True∧True∧True∧True)∧cA Lq [.str x.1,.str x.2] fun x_1 y=>rA Nx x [.bool (List.take (List.length x_1.2) x_1.1==x_1.2),.top,.top]) (fun x=>by kernel_rfl) fun(x:List UInt8×List UInt8) (hx:x.2.length<2^62∧x.1.length<2^63)=>(by
 dsimp only[cA,rA,Nx,Lq,Au,Az,mvL,lnL,mvE,lnE]
 obtain⟨h1,h2⟩:=hx
 (repeat' first|(with_reducible first|rfl|exact True.intro|apply AK|apply And.intro|((first|apply AA|apply AI|apply AB|apply AJ)<;>intro _))|(apply Ax<;>intro _)|apply AH|refine Ae () ?_ ?_|((first|apply AO|apply AN|apply AM|apply AL|apply AG|apply AF|apply AE|apply AD|apply AC)<;>try dsimp only)|apply Ae|(refine Prod.forall.2 ?_;intro _;try dsimp only)|(intro _;try dsimp only))<;>(try dsimp only at*)<;>(try simp only[AQ,List.length_cons,List.length_nil])<;>(try omega))
end Go.My
end
section
namespace Go.My
open Go.Eng Go.Proofs
variable {G:GInv}
def FC:Sig:= {X:=Int×Int×Int,args:=fun x=>[.int .i64 x.1,.int .i64 x.2.1,.int .i64 x.2.2],pre:=fun x=>True,Y:=Unit,post:=fun x y=>True,res:=fun x y=> .bool (inn x.1 x.2.1 x.2.2),outs:=fun x y=>[.top,.top,.top],keep:=false}
theorem RE:Aj G Tryz.prog 66 FC:=
 vcFun_okP [] [] false (fun x=>[]) Tryz.func66 rfl (by decide) trivial (fun(x:Int×Int×Int)=>(∀(y:Unit),True→True∧True∧True∧True∧True)∧Aa (decide (x.1≥x.2.1)) (rA FC x [.bool (decide (x.1≤x.2.2)),.top,.top,.top]) (rA FC x [.bool false,.top,.top,.top])) (fun x=>by kernel_rfl) fun(x:Int×Int×Int) (hx:True)=>(by
 dsimp only[rA,FC,Au,Az]
 (repeat' first|(with_reducible first|rfl|exact True.intro|apply AK|apply And.intro|((first|apply AA|apply AI|apply AB|apply AJ)<;>intro _))|(apply Ax<;>intro _)|apply AH|refine Ae () ?_ ?_|((first|apply AO|apply AN|apply AM|apply AL|apply AG|apply AF|apply AE|apply AD|apply AC)<;>try dsimp only)|apply Ae|(refine Prod.forall.2 ?_;intro _;try dsimp only)|(intro _;try dsimp only))<;>(try dsimp only at*)<;>(try simp only[AQ,List.length_cons,List.length_nil])<;>(try omega)
 all_goals simp [inn, *])
def CP:Sig:= {X:=Int×Int×Int,args:=fun x=>[.int .i64 x.1,.int .i64 x.2.1,.int .i64 x.2.2],pre:=fun x=>True,Y:=Unit,post:=fun x y=>True,res:=fun x y=> .bool (inn x.1 x.2.1 x.2.2),outs:=fun x y=>[.top,.top,.top],keep:=false}
theorem Kw:Aj G Tryz.prog 46 CP:=
 vcFun_okP [] [] false (fun x=>[]) Tryz.func46 rfl (by decide) trivial (fun(x:Int×Int×Int)=>(∀(y:Unit),True→True∧True∧True∧True∧True)∧Aa (decide (x.1≥x.2.1)) (rA CP x [.bool (decide (x.1≤x.2.2)),.top,.top,.top]) (rA CP x [.bool false,.top,.top,.top])) (fun x=>by kernel_rfl) fun(x:Int×Int×Int) (hx:True)=>(by
 dsimp only[rA,CP,Au,Az]
 (repeat' first|(with_reducible first|rfl|exact True.intro|apply AK|apply And.intro|((first|apply AA|apply AI|apply AB|apply AJ)<;>intro _))|(apply Ax<;>intro _)|apply AH|refine Ae () ?_ ?_|((first|apply AO|apply AN|apply AM|apply AL|apply AG|apply AF|apply AE|apply AD|apply AC)<;>try dsimp only)|apply Ae|(refine Prod.forall.2 ?_;intro _;try dsimp only)|(intro _;try dsimp only))<;>(try dsimp only at*)<;>(try simp only[AQ,List.length_cons,List.length_nil])<;>(try omega)
 all_goals simp [inn, *])
def GY:Sig:= {X:=UInt8,args:=fun x=>[.int .u8 x.toNat],pre:=fun x=>True,Y:=Unit,post:=fun x y=>True,res:=fun x y=> .bool (Bj x),outs:=fun x y=>[.top],keep:=false}
theorem Wc:Aj G Tryz.prog 162 GY:=
 vcFun_okP [] [] false (fun x=>[]) Tryz.func162 rfl (by decide) trivial (fun(x:UInt8)=>(∀(y:Unit),True→True∧True∧True)∧Aa (decide ((↑(UInt8.toNat x):Int)≥(48:Int))) (rA GY x [.bool (decide ((↑(UInt8.toNat x):Int)≤(57:Int))),.top]) (rA GY x [.bool false,.top])) (fun x=>by kernel_rfl) fun(x:UInt8) (hx:True)=>(by
 dsimp only[rA,GY,Au,Az]
 (repeat' first|(with_reducible first|rfl|exact True.intro|apply AK|apply And.intro|((first|apply AA|apply AI|apply AB|apply AJ)<;>intro _))|(apply Ax<;>intro _)|apply AH|refine Ae () ?_ ?_|((first|apply AO|apply AN|apply AM|apply AL|apply AG|apply AF|apply AE|apply AD|apply AC)<;>try dsimp only)|apply Ae|(refine Prod.forall.2 ?_;intro _;try dsimp only)|(intro _;try dsimp only))<;>(try dsimp only at*)<;>(try simp only[AQ,List.length_cons,List.length_nil])<;>(try omega)
 all_goals(rw[Bool.eq_iff_iff];simp only[Bj,Bool.and_eq_true,Bool.or_eq_true,decide_eq_true_eq,Bool.not_eq_true',decide_eq_false_iff_not,bne_iff_ne,ne_eq,beq_iff_eq,Bool.not_not,reduceCtorEq,Bool.false_eq_true,true_iff,false_iff,iff_true,iff_false,not_true,not_false_eq_true]<;>omega))
def EQ:Sig:= {X:=UInt8,args:=fun x=>[.int .u8 x.toNat],pre:=fun x=>True,Y:=Unit,post:=fun x y=>True,res:=fun x y=> .bool (Bj x),outs:=fun x y=>[.top],keep:=false}
theorem RF:Aj G Tryz.prog 86 EQ:=
 vcFun_okP [] [] false (fun x=>[]) Tryz.func86 rfl (by decide) trivial (fun(x:UInt8)=>(∀(y:Unit),True→True∧True∧True)∧Aa (decide ((↑(UInt8.toNat x):Int)≥(48:Int))) (rA EQ x [.bool (decide ((↑(UInt8.toNat x):Int)≤(57:Int))),.top]) (rA EQ x [.bool false,.top])) (fun x=>by kernel_rfl) fun(x:UInt8) (hx:True)=>(by
 dsimp only[rA,EQ,Au,Az]
 (repeat' first|(with_reducible first|rfl|exact True.intro|apply AK|apply And.intro|((first|apply AA|apply AI|apply AB|apply AJ)<;>intro _))|(apply Ax<;>intro _)|apply AH|refine Ae () ?_ ?_|((first|apply AO|apply AN|apply AM|apply AL|apply AG|apply AF|apply AE|apply AD|apply AC)<;>try dsimp only)|apply Ae|(refine Prod.forall.2 ?_;intro _;try dsimp only)|(intro _;try dsimp only))<;>(try dsimp only at*)<;>(try simp only[AQ,List.length_cons,List.length_nil])<;>(try omega)
 all_goals(rw[Bool.eq_iff_iff];simp only[Bj,Bool.and_eq_true,Bool.or_eq_true,decide_eq_true_eq,Bool.not_eq_true',decide_eq_false_iff_not,bne_iff_ne,ne_eq,beq_iff_eq,Bool.not_not,reduceCtorEq,Bool.false_eq_true,true_iff,false_iff,iff_true,iff_false,not_true,not_false_eq_true]<;>omega))
def FZ:Sig:= {X:=UInt8,args:=fun x=>[.int .u8 x.toNat],pre:=fun x=>True,Y:=Unit,post:=fun x y=>True,res:=fun x y=> .bool (Cx x),outs:=fun x y=>[.top],keep:=false}
theorem a0Z:Aj G Tryz.prog 159 FZ:=
 vcFun_okP [] [] false (fun x=>[]) Tryz.func159 rfl (by decide) trivial (fun(x:UInt8)=>(∀(y:Unit),True→True∧True∧True)∧Aa (decide ((↑(UInt8.toNat x):Int)≥(97:Int))) (Aa (decide ((↑(UInt8.toNat x):Int)≤(122:Int))) (rA FZ x [.bool true,.top]) (Aa (decide ((↑(UInt8.toNat x):Int)≥(65:Int))) (Aa (decide ((↑(UInt8.toNat x):Int)≤(90:Int))) (rA FZ x [.bool true,.top]) (rA FZ x [.bool ((↑(UInt8.toNat x):Int)==(95:Int)),.top])) (rA FZ x [.bool ((↑(UInt8.toNat x):Int)==(95:Int)),.top]))) (Aa (decide ((↑(UInt8.toNat x):Int)≥(65:Int))) (Aa (decide ((↑(UInt8.toNat x):Int)≤(90:Int))) (rA FZ x [.bool true,.top]) (rA FZ x [.bool ((↑(UInt8.toNat x):Int)==(95:Int)),.top])) (rA FZ x [.bool ((↑(UInt8.toNat x):Int)==(95:Int)),.top]))) (fun x=>by kernel_rfl) fun(x:UInt8) (hx:True)=>(by
 dsimp only[rA,FZ,Au,Az]
 (repeat' first|(with_reducible first|rfl|exact True.intro|apply AK|apply And.intro|((first|apply AA|apply AI|apply AB|apply AJ)<;>intro _))|(apply Ax<;>intro _)|apply AH|refine Ae () ?_ ?_|((first|apply AO|apply AN|apply AM|apply AL|apply AG|apply AF|apply AE|apply AD|apply AC)<;>try dsimp only)|apply Ae|(refine Prod.forall.2 ?_;intro _;try dsimp only)|(intro _;try dsimp only))<;>(try dsimp only at*)<;>(try simp only[AQ,List.length_cons,List.length_nil])<;>(try omega)
 all_goals(rw[Bool.eq_iff_iff];simp only[Cx,Bool.and_eq_true,Bool.or_eq_true,decide_eq_true_eq,Bool.not_eq_true',decide_eq_false_iff_not,bne_iff_ne,ne_eq,beq_iff_eq,Bool.not_not,reduceCtorEq,Bool.false_eq_true,true_iff,false_iff,iff_true,iff_false,not_true,not_false_eq_true]<;>omega))
def Fh:Sig:= {X:=UInt8,args:=fun x=>[.int .u8 x.toNat],pre:=fun x=>True,Y:=Unit,post:=fun x y=>True,res:=fun x y=> .bool (Cx x),outs:=fun x y=>[.top],keep:=false}
theorem a1a:Aj G Tryz.prog 85 Fh:=
 vcFun_okP [] [] false (fun x=>[]) Tryz.func85 rfl (by decide) trivial (fun(x:UInt8)=>(∀(y:Unit),True→True∧True∧True)∧Aa (decide ((↑(UInt8.toNat x):Int)≥(97:Int))) (Aa (decide ((↑(UInt8.toNat x):Int)≤(122:Int))) (rA Fh x [.bool true,.top]) (Aa (decide ((↑(UInt8.toNat x):Int)≥(65:Int))) (Aa (decide ((↑(UInt8.toNat x):Int)≤(90:Int))) (rA Fh x [.bool true,.top]) (rA Fh x [.bool ((↑(UInt8.toNat x):Int)==(95:Int)),.top])) (rA Fh x [.bool ((↑(UInt8.toNat x):Int)==(95:Int)),.top]))) (Aa (decide ((↑(UInt8.toNat x):Int)≥(65:Int))) (Aa (decide ((↑(UInt8.toNat x):Int)≤(90:Int))) (rA Fh x [.bool true,.top]) (rA Fh x [.bool ((↑(UInt8.toNat x):Int)==(95:Int)),.top])) (rA Fh x [.bool ((↑(UInt8.toNat x):Int)==(95:Int)),.top]))) (fun x=>by kernel_rfl) fun(x:UInt8) (hx:True)=>(by
 dsimp only[rA,Fh,Au,Az]
 (repeat' first|(with_reducible first|rfl|exact True.intro|apply AK|apply And.intro|((first|apply AA|apply AI|apply AB|apply AJ)<;>intro _))|(apply Ax<;>intro _)|apply AH|refine Ae () ?_ ?_|((first|apply AO|apply AN|apply AM|apply AL|apply AG|apply AF|apply AE|apply AD|apply AC)<;>try dsimp only)|apply Ae|(refine Prod.forall.2 ?_;intro _;try dsimp only)|(intro _;try dsimp only))<;>(try dsimp only at*)<;>(try simp only[AQ,List.length_cons,List.length_nil])<;>(try omega)
 all_goals(rw[Bool.eq_iff_iff];simp only[Cx,Bool.and_eq_true,Bool.or_eq_true,decide_eq_true_eq,Bool.not_eq_true',decide_eq_false_iff_not,bne_iff_ne,ne_eq,beq_iff_eq,Bool.not_not,reduceCtorEq,Bool.false_eq_true,true_iff,false_iff,iff_true,iff_false,not_true,not_false_eq_true]<;>omega))
def Lr:Sig:= {X:=UInt8,args:=fun x=>[.int .u8 x.toNat],pre:=fun x=>True,Y:=Unit,post:=fun x y=>True,res:=fun x y=> .bool (BR x),outs:=fun x y=>[.top],keep:=false}
theorem a9r:Aj G Tryz.prog 161 Lr:=
 vcFun_okP [(159,0,FZ),(162,0,GY)] [] false (fun x=>[]) Tryz.func161 rfl (by decide) ⟨a0Z,Wc,trivial⟩ (fun(x:UInt8)=>(∀(y:Unit),True→True∧True∧True)∧cA FZ [AV.int IntKind.u8 (↑(UInt8.toNat x):Int)] fun x_1 y=>Aa (Cx x_1) (rA Lr x [.bool true,.top]) (cA GY [AV.int IntKind.u8 (↑(UInt8.toNat x):Int)] fun x_2 y=>rA Lr x [.bool (Bj x_2),.top])) (fun x=>by kernel_rfl) fun(x:UInt8) (hx:True)=>(by
 dsimp only[cA,rA,GY,FZ,Lr,Au,Az,mvL,lnL,mvE,lnE]
 (repeat' first|(with_reducible first|rfl|exact True.intro|apply AK|apply And.intro|((first|apply AA|apply AI|apply AB|apply AJ)<;>intro _))|(apply Ax<;>intro _)|apply AH|refine Ae () ?_ ?_|((first|apply AO|apply AN|apply AM|apply AL|apply AG|apply AF|apply AE|apply AD|apply AC)<;>try dsimp only)|apply Ae|(refine Prod.forall.2 ?_;intro _;try dsimp only)|(intro _;try dsimp only))<;>(try dsimp only at*)<;>(try simp only[AQ,List.length_cons,List.length_nil])<;>(try omega)
 all_goals simp [BR, *])
def IZ:Sig:= {X:=UInt8,args:=fun x=>[.int .u8 x.toNat],pre:=fun x=>True,Y:=Unit,post:=fun x y=>True,res:=fun x y=> .bool (Cm x),outs:=fun x y=>[.top],keep:=false}
theorem a1b:Aj G Tryz.prog 107 IZ:=
 vcFun_okP [] [] false (fun x=>[]) Tryz.func107 rfl (by decide) trivial (fun(x:UInt8)=>(∀(y:Unit),True→True∧True∧True)∧Aa (decide ((↑(UInt8.toNat x):Int)≥(32:Int))) (rA IZ x [.bool (decide ((↑(UInt8.toNat x):Int)≤(126:Int))),.top]) (rA IZ x [.bool false,.top])) (fun x=>by kernel_rfl) fun(x:UInt8) (hx:True)=>(by
 dsimp only[rA,IZ,Au,Az]
 (repeat' first|(with_reducible first|rfl|exact True.intro|apply AK|apply And.intro|((first|apply AA|apply AI|apply AB|apply AJ)<;>intro _))|(apply Ax<;>intro _)|apply AH|refine Ae () ?_ ?_|((first|apply AO|apply AN|apply AM|apply AL|apply AG|apply AF|apply AE|apply AD|apply AC)<;>try dsimp only)|apply Ae|(refine Prod.forall.2 ?_;intro _;try dsimp only)|(intro _;try dsimp only))<;>(try dsimp only at*)<;>(try simp only[AQ,List.length_cons,List.length_nil])<;>(try omega)
 all_goals(rw[Bool.eq_iff_iff];simp only[Cm,Bool.and_eq_true,Bool.or_eq_true,decide_eq_true_eq,Bool.not_eq_true',decide_eq_false_iff_not,bne_iff_ne,ne_eq,beq_iff_eq,Bool.not_not,reduceCtorEq,Bool.false_eq_true,true_iff,false_iff,iff_true,iff_false,not_true,not_false_eq_true]<;>omega))
def Ny:Sig:= {X:=UInt8,args:=fun x=>[.int .u8 x.toNat],pre:=fun x=>True,Y:=Unit,post:=fun x y=>True,res:=fun x y=> .bool (Cl x),outs:=fun x y=>[.top],keep:=false}
theorem a9s:Aj G Tryz.prog 165 Ny:=
 vcFun_okP [] [] false (fun x=>[]) Tryz.func165 rfl (by decide) trivial (fun(x:UInt8)=>(∀(y:Unit),True→True∧True∧True)∧rA Ny x [.bool ((↑(UInt8.toNat x):Int) != (10:Int)),.top]) (fun x=>by kernel_rfl) fun(x:UInt8) (hx:True)=>(by
 dsimp only[rA,Ny,Au,Az]
 (repeat' first|(with_reducible first|rfl|exact True.intro|apply AK|apply And.intro|((first|apply AA|apply AI|apply AB|apply AJ)<;>intro _))|(apply Ax<;>intro _)|apply AH|refine Ae () ?_ ?_|((first|apply AO|apply AN|apply AM|apply AL|apply AG|apply AF|apply AE|apply AD|apply AC)<;>try dsimp only)|apply Ae|(refine Prod.forall.2 ?_;intro _;try dsimp only)|(intro _;try dsimp only))<;>(try dsimp only at*)<;>(try simp only[AQ,List.length_cons,List.length_nil])<;>(try omega)
 all_goals(rw[Bool.eq_iff_iff];simp only[Cl,Bool.and_eq_true,Bool.or_eq_true,decide_eq_true_eq,Bool.not_eq_true',decide_eq_false_iff_not,bne_iff_ne,ne_eq,beq_iff_eq,Bool.not_not,reduceCtorEq,Bool.false_eq_true,true_iff,false_iff,iff_true,iff_false,not_true,not_false_eq_true]<;>omega))
def Eg(p:UInt8→Bool)(x:List UInt8)(rs:Int→List (Nat×AV)):LS:= {
 ι:=Int,inv:=fun i=>0≤i∧i≤x.length∧∀e∈x.take i.toNat,p e=true,regs:=rs,als:=[],meas:=fun i=>x.length-i.toNat}
def Iq:Sig:= {X:=List UInt8,args:=fun x=>[.str x],pre:=fun x=>x.length<2^63,Y:=Unit,post:=fun x y=>True,res:=fun x y=> .bool (x.all Cm),outs:=fun x y=>[.top],keep:=false}
theorem a1c:Aj G Tryz.prog 167 Iq:=
 vcFun_okP [] [] false (fun x=>[(2,Eg Cm x fun i=>[(0,.str x),(3,.int .i64 i)])]) Tryz.func167 rfl (by decide) trivial (fun(x:List UInt8)=>(∀(y:Unit),True→True∧True∧True)∧eA (Eg Cm x fun(i:Int)=>[((0:Nat),.str x),((3:Nat),.int .i64 i)]) [.str x,.int .i64 (0:Int)]∧∀(i:Int),((0:Int)≤i∧i≤(↑(List.length x):Int)∧∀(e:UInt8),e∈List.take (Int.toNat i) x→Cm e=true)→Aa (decide (i<(↑(List.length x):Int))) (((0:Int)≤i∧i<(↑(List.length x):Int))∧∀(c:UInt8),x[Int.toNat i]? =some c→Aa (decide ((↑(UInt8.toNat c):Int)<(32:Int))) (rA Iq x [.bool false,.top]) (((0:Int)≤i∧i<(↑(List.length x):Int))∧∀(c:UInt8),x[Int.toNat i]? =some c→Aa (decide ((↑(UInt8.toNat c):Int)>(126:Int))) (rA Iq x [.bool false,.top]) (inR IntKind.i64 (i+(1:Int))∧eN (Eg Cm x fun(i:Int)=>[((0:Nat),.str x),((3:Nat),.int .i64 i)]) i [.str x,.int .i64 (i+(1:Int))]))) (rA Iq x [.bool true,.top])) (fun x=>by kernel_rfl) fun(x:List UInt8) (hx:x.length<2^63)=>(by
 dsimp only[eA,eN,Eg,rA,Iq,Au,Az,Br]
 (repeat' first|(with_reducible first|rfl|exact True.intro|apply AK|apply And.intro|((first|apply AA|apply AI|apply AB|apply AJ)<;>intro _))|(apply Ax<;>intro _)|apply AH|refine Ae () ?_ ?_|((first|apply AO|apply AN|apply AM|apply AL|apply AG|apply AF|apply AE|apply AD|apply AC)<;>try dsimp only)|apply Ae|(refine Prod.forall.2 ?_;intro _;try dsimp only)|(intro _;try dsimp only))<;>(try dsimp only at*)<;>(try simp only[AQ,List.length_cons,List.length_nil])<;>(try omega)
 ·rename_i h;simp at h
 ·rename_i i hi hl c hc h;exact(RA hc (by(rw[Bool.eq_iff_iff];simp only[Cm,Bool.and_eq_true,Bool.or_eq_true,decide_eq_true_eq,Bool.not_eq_true',decide_eq_false_iff_not,bne_iff_ne,ne_eq,beq_iff_eq,Bool.not_not,reduceCtorEq,Bool.false_eq_true,true_iff,false_iff,iff_true,iff_false,not_true,not_false_eq_true]<;>omega))).symm
 ·rename_i i hi hl c hc h d hd h2;exact(RA hd (by(rw[Bool.eq_iff_iff];simp only[Cm,Bool.and_eq_true,Bool.or_eq_true,decide_eq_true_eq,Bool.not_eq_true',decide_eq_false_iff_not,bne_iff_ne,ne_eq,beq_iff_eq,Bool.not_not,reduceCtorEq,Bool.false_eq_true,true_iff,false_iff,iff_true,iff_false,not_true,not_false_eq_true]<;>omega))).symm
 ·rename_i i hi hl c hc h d hd h2 e he
  rw[hc] at hd;cases hd
  rw[Da hi.1] at he;exact PA hi.2.2 hc (by(rw[Bool.eq_iff_iff];simp only[Cm,Bool.and_eq_true,Bool.or_eq_true,decide_eq_true_eq,Bool.not_eq_true',decide_eq_false_iff_not,bne_iff_ne,ne_eq,beq_iff_eq,Bool.not_not,reduceCtorEq,Bool.false_eq_true,true_iff,false_iff,iff_true,iff_false,not_true,not_false_eq_true]<;>omega)) e he
 ·rename_i i hi hl;exact(VY hi.2.2 (by omega)).symm)
def Ls:Sig:= {X:=List UInt8,args:=fun x=>[.str x,.clo (.func 161) []],pre:=fun x=>x.length<2^63,Y:=Unit,post:=fun x y=>True,res:=fun x y=> .str (x.takeWhile BR),outs:=fun x y=>[.top,.top],keep:=false}
theorem a9t:Aj G Tryz.prog 160 Ls:=
 vcFun_okP [(161,0,Lr)] [] false (fun x=>[(2,Eg BR x fun i=>[(0,.str x),(1,.clo (.func 161) []),(5,.int .i64 i)])]) Tryz.func160 rfl (by decide) ⟨a9r,trivial⟩ (fun(x:List UInt8)=>(∀(y:Unit),True→True∧True∧True∧True)∧eA (Eg BR x fun(i:Int)=>[((0:Nat),.str x),((1:Nat),AV.clo (Fn.func (84:FuncId)) []),((5:Nat),.int .i64 i)]) [.str x,AV.clo (Fn.func (84:FuncId)) [],.int .i64 (0:Int)]∧∀(i:Int),((0:Int)≤i∧i≤(↑(List.length x):Int)∧∀(e:UInt8),e∈List.take (Int.toNat i) x→BR e=true)→Aa (decide (i<(↑(List.length x):Int))) (((0:Int)≤i∧i<(↑(List.length x):Int))∧∀(c:UInt8),x[Int.toNat i]? =some c→cA Lr [AV.int IntKind.u8 (↑(UInt8.toNat c):Int)] fun x_1 y=>Aa (BR x_1) (inR IntKind.i64 (i+(1:Int))∧eN (Eg BR x fun(i:Int)=>[((0:Nat),.str x),((1:Nat),AV.clo (Fn.func (84:FuncId)) []),((5:Nat),.int .i64 i)]) i [.str x,AV.clo (Fn.func (84:FuncId)) [],.int .i64 (i+(1:Int))]) (((0:Int)≤(0:Int)∧(0:Int)≤i∧i≤(↑(List.length x):Int))∧rA Ls x [.str (List.take (Int.toNat i) x),.top,.top])) (((0:Int)≤(0:Int)∧(0:Int)≤i∧i≤(↑(List.length x):Int))∧rA Ls x [.str (List.take (Int.toNat i) x),.top,.top])) (fun x=>by kernel_rfl) fun(x:List UInt8) (hx:x.length<2^63)=>(by
 dsimp only[cA,eA,eN,Eg,rA,Lr,Ls,Au,Az,mvL,lnL,mvE,lnE,Br]
 (repeat' first|(with_reducible first|rfl|exact True.intro|apply AK|apply And.intro|((first|apply AA|apply AI|apply AB|apply AJ)<;>intro _))|(apply Ax<;>intro _)|apply AH|refine Ae () ?_ ?_|((first|apply AO|apply AN|apply AM|apply AL|apply AG|apply AF|apply AE|apply AD|apply AC)<;>try dsimp only)|apply Ae|(refine Prod.forall.2 ?_;intro _;try dsimp only)|(intro _;try dsimp only))<;>(try dsimp only at*)<;>(try simp only[AQ,List.length_cons,List.length_nil])<;>(try omega)
 ·rename_i h;simp at h
 ·rename_i i hi hl c hc y _ hp e he
  rw[Da hi.1] at he;exact PA hi.2.2 hc hp e he
 ·rename_i i hi hl c hc y _ hp
  exact JB hi.2.2 (.inr ⟨c,hc,hp⟩)
 ·rename_i i hi hl
  exact JB hi.2.2 (.inl (by omega)))
def Lt:Sig:= {X:=List UInt8,args:=fun x=>[.str x,.clo (.func 162) []],pre:=fun x=>x.length<2^63,Y:=Unit,post:=fun x y=>True,res:=fun x y=> .str (x.takeWhile Bj),outs:=fun x y=>[.top,.top],keep:=false}
theorem a9u:Aj G Tryz.prog 160 Lt:=
 vcFun_okP [(162,0,GY)] [] false (fun x=>[(2,Eg Bj x fun i=>[(0,.str x),(1,.clo (.func 162) []),(5,.int .i64 i)])]) Tryz.func160 rfl (by decide) ⟨Wc,trivial⟩ (fun(x:List UInt8)=>(∀(y:Unit),True→True∧True∧True∧True)∧eA (Eg Bj x fun(i:Int)=>[((0:Nat),.str x),((1:Nat),AV.clo (Fn.func (85:FuncId)) []),((5:Nat),.int .i64 i)]) [.str x,AV.clo (Fn.func (85:FuncId)) [],.int .i64 (0:Int)]∧∀(i:Int),((0:Int)≤i∧i≤(↑(List.length x):Int)∧∀(e:UInt8),e∈List.take (Int.toNat i) x→Bj e=true)→Aa (decide (i<(↑(List.length x):Int))) (((0:Int)≤i∧i<(↑(List.length x):Int))∧∀(c:UInt8),x[Int.toNat i]? =some c→cA GY [AV.int IntKind.u8 (↑(UInt8.toNat c):Int)] fun x_1 y=>Aa (Bj x_1) (inR IntKind.i64 (i+(1:Int))∧eN (Eg Bj x fun(i:Int)=>[((0:Nat),.str x),((1:Nat),AV.clo (Fn.func (85:FuncId)) []),((5:Nat),.int .i64 i)]) i [.str x,AV.clo (Fn.func (85:FuncId)) [],.int .i64 (i+(1:Int))]) (((0:Int)≤(0:Int)∧(0:Int)≤i∧i≤(↑(List.length x):Int))∧rA Lt x [.str (List.take (Int.toNat i) x),.top,.top])) (((0:Int)≤(0:Int)∧(0:Int)≤i∧i≤(↑(List.length x):Int))∧rA Lt x [.str (List.take (Int.toNat i) x),.top,.top])) (fun x=>by kernel_rfl) fun(x:List UInt8) (hx:x.length<2^63)=>(by
 dsimp only[cA,eA,eN,Eg,rA,GY,Lt,Au,Az,mvL,lnL,mvE,lnE,Br]
 (repeat' first|(with_reducible first|rfl|exact True.intro|apply AK|apply And.intro|((first|apply AA|apply AI|apply AB|apply AJ)<;>intro _))|(apply Ax<;>intro _)|apply AH|refine Ae () ?_ ?_|((first|apply AO|apply AN|apply AM|apply AL|apply AG|apply AF|apply AE|apply AD|apply AC)<;>try dsimp only)|apply Ae|(refine Prod.forall.2 ?_;intro _;try dsimp only)|(intro _;try dsimp only))<;>(try dsimp only at*)<;>(try simp only[AQ,List.length_cons,List.length_nil])<;>(try omega)
 ·rename_i h;simp at h
 ·rename_i i hi hl c hc y _ hp e he
  rw[Da hi.1] at he;exact PA hi.2.2 hc hp e he
 ·rename_i i hi hl c hc y _ hp
  exact JB hi.2.2 (.inr ⟨c,hc,hp⟩)
 ·rename_i i hi hl
  exact JB hi.2.2 (.inl (by omega)))
def Lu:Sig:= {X:=List UInt8,args:=fun x=>[.str x,.clo (.func 165) []],pre:=fun x=>x.length<2^63,Y:=Unit,post:=fun x y=>True,res:=fun x y=> .str (x.takeWhile Cl),outs:=fun x y=>[.top,.top],keep:=false}
theorem a9v:Aj G Tryz.prog 160 Lu:=
 vcFun_okP [(165,0,Ny)] [] false (fun x=>[(2,Eg Cl x fun i=>[(0,.str x),(1,.clo (.func 165) []),(5,.int .i64 i)])]) Tryz.func160 rfl (by decide) ⟨a9s,trivial⟩ (fun(x:List UInt8)=>(∀(y:Unit),True→True∧True∧True∧True)∧eA (Eg Cl x fun(i:Int)=>[((0:Nat),.str x),((1:Nat),AV.clo (Fn.func (88:FuncId)) []),((5:Nat),.int .i64 i)]) [.str x,AV.clo (Fn.func (88:FuncId)) [],.int .i64 (0:Int)]∧∀(i:Int),((0:Int)≤i∧i≤(↑(List.length x):Int)∧∀(e:UInt8),e∈List.take (Int.toNat i) x→Cl e=true)→Aa (decide (i<(↑(List.length x):Int))) (((0:Int)≤i∧i<(↑(List.length x):Int))∧∀(c:UInt8),x[Int.toNat i]? =some c→cA Ny [AV.int IntKind.u8 (↑(UInt8.toNat c):Int)] fun x_1 y=>Aa (Cl x_1) (inR IntKind.i64 (i+(1:Int))∧eN (Eg Cl x fun(i:Int)=>[((0:Nat),.str x),((1:Nat),AV.clo (Fn.func (88:FuncId)) []),((5:Nat),.int .i64 i)]) i [.str x,AV.clo (Fn.func (88:FuncId)) [],.int .i64 (i+(1:Int))]) (((0:Int)≤(0:Int)∧(0:Int)≤i∧i≤(↑(List.length x):Int))∧rA Lu x [.str (List.take (Int.toNat i) x),.top,.top])) (((0:Int)≤(0:Int)∧(0:Int)≤i∧i≤(↑(List.length x):Int))∧rA Lu x [.str (List.take (Int.toNat i) x),.top,.top])) (fun x=>by kernel_rfl) fun(x:List UInt8) (hx:x.length<2^63)=>(by
 dsimp only[cA,eA,eN,Eg,rA,Lu,Ny,Au,Az,mvL,lnL,mvE,lnE,Br]
 (repeat' first|(with_reducible first|rfl|exact True.intro|apply AK|apply And.intro|((first|apply AA|apply AI|apply AB|apply AJ)<;>intro _))|(apply Ax<;>intro _)|apply AH|refine Ae () ?_ ?_|((first|apply AO|apply AN|apply AM|apply AL|apply AG|apply AF|apply AE|apply AD|apply AC)<;>try dsimp only)|apply Ae|(refine Prod.forall.2 ?_;intro _;try dsimp only)|(intro _;try dsimp only))<;>(try dsimp only at*)<;>(try simp only[AQ,List.length_cons,List.length_nil])<;>(try omega)
 ·rename_i h;simp at h
 ·rename_i i hi hl c hc y _ hp e he
  rw[Da hi.1] at he;exact PA hi.2.2 hc hp e he
 ·rename_i i hi hl c hc y _ hp
  exact JB hi.2.2 (.inr ⟨c,hc,hp⟩)
 ·rename_i i hi hl
  exact JB hi.2.2 (.inl (by omega)))
end Go.My
end
section
namespace Go.My
open Go.Eng
def Nz(x:List UInt8):SgR:=if CL (x.take 2) then⟨4,x.take 2,(x.take 2).length,true⟩ else if CL (x.take 1) then⟨4,x.take 1,1,true⟩ else⟨0,[],0,false⟩
def Ir(x:List UInt8)(i:Int):Prop:=(0≤i∧i≤2∧i≤x.length)∧Bd x=Nz x∧∀j:Nat,i<j→j≤2→j≤x.length→CL (x.take j)=false
theorem a9w{x:List UInt8}{i:Int}(h:Ir x i)(hx:1≤x.length)(h0:i>0)(hm:CL (x.take i.toNat)=true):Bd x=⟨4,x.take i.toNat,i,true⟩:=by
 obtain⟨⟨h1,h2,h3⟩,h4,h5⟩:=h
 rw[h4]
 have hi:i=1∨i=2:=by omega
 rcases hi with rfl|rfl
 ·by_cases hl:x.length=1
  ·have e:x.take 2=x.take 1:=by rw[List.take_of_length_le (by omega),List.take_of_length_le (by omega)]
   have hm':CL (x.take 1)=true:=hm
   simp only[Nz,e,hm',if_true]
   have:(x.take 1).length=1:=by simp;omega
   rw[this];rfl
  ·have:=h5 2 (by omega) (by omega) (by omega)
   have hm':CL (x.take 1)=true:=hm
   simp only[Nz,this,hm',Bool.false_eq_true,if_false,if_true];rfl
 ·have hm':CL (x.take 2)=true:=hm
  simp only[Nz,hm',if_true]
  have:(x.take 2).length=2:=by simp;omega
  rw[this];rfl
theorem a9x{x:List UInt8}{i:Int}(h:Ir x i)(hx:1≤x.length)(h0:¬i>0):Bd x=⟨0,[],0,false⟩:=by
 obtain⟨⟨h1,h2,h3⟩,h4,h5⟩:=h
 rw[h4]
 have a1:=h5 1 (by omega) (by omega) hx
 have a2:CL (x.take 2)=false:=by
  by_cases hl:x.length=1
  ·have e:x.take 2=x.take 1:=by rw[List.take_of_length_le (by omega),List.take_of_length_le (by omega)]
   rw[e];exact a1
  ·exact h5 2 (by omega) (by omega) (by omega)
 simp only[Nz,a1,a2,Bool.false_eq_true,if_false]
theorem a9y{x:List UInt8}{i:Int}(h:Ir x i)(h0:i>0)(hm:CL (x.take i.toNat)=false):Ir x (i-1):=by
 obtain⟨⟨h1,h2,h3⟩,h4,h5⟩:=h
 refine⟨⟨by omega,by omega,by omega⟩,h4,fun j a b c=> ?_⟩
 by_cases e:(j:Int)=i
 ·have:j=i.toNat:=by omega
  rw[this];exact hm
 ·exact h5 j (by omega) b c
theorem a9z{b:UInt8}{t:List UInt8}(h1:Cx b=false)(h2:Bj b=false)(h3:¬b.toNat=39)(h4:(b::t).take 2≠[47,47]):Ir (b::t) (min 2 ((b::t).length:Int)):=by
 refine⟨⟨by omega,by omega,by omega⟩,?_,fun j a b c=>by omega⟩
 simp only[Bd,h1,h2,h3,h4,Bool.false_eq_true,if_false,Nz]
theorem a9A{b:UInt8}{t:List UInt8}(h:Cx b=true):Bd (b::t)=⟨1,(b::t).takeWhile BR,((b::t).takeWhile BR).length,decide ((((b::t).takeWhile BR).length:Int)≤30)⟩:=by
 have:decide ((((b::t).takeWhile BR).length:Int)≤30)=decide (((b::t).takeWhile BR).length≤30):=decide_eq_decide.2 (by omega)
 rw[this];simp [Bd,h]
theorem a9B{b:UInt8}{t:List UInt8}(h0:Cx b=false)(h:Bj b=true):Bd (b::t)=⟨2,(b::t).takeWhile Bj,((b::t).takeWhile Bj).length,decide ((((b::t).takeWhile Bj).length:Int)≤12)⟩:=by
 have:decide ((((b::t).takeWhile Bj).length:Int)≤12)=decide (((b::t).takeWhile Bj).length≤12):=decide_eq_decide.2 (by omega)
 rw[this];simp [Bd,h,h0]
theorem a9C{b:UInt8}{t:List UInt8}(h0:Cx b=false)(h1:Bj b=false)(h:(b.toNat:Int)=39):Bd (b::t)=⟨3,(DD (b::t)).1,(DD (b::t)).1.length,(DD (b::t)).2⟩:=by
 have h:b.toNat=39:=by omega
 simp [Bd,h0,h1,h]
theorem a9D{b:UInt8}{t:List UInt8}(h0:Cx b=false)(h1:Bj b=false)(h2:(b.toNat:Int)≠39)(h:(b::t).take 2=[47,47]):
 Bd (b::t)=⟨5,CM ((b::t).takeWhile Cl),((b::t).takeWhile Cl).length,((b::t).takeWhile Cl).all Cm⟩:=by
 have h2:¬b.toNat=39:=by omega
 simp only[Bd,h0,h1,h2,h,Bool.false_eq_true,if_false,if_true]
theorem a1d(s:List UInt8)(c:UInt8):CM (s++[c])=if c.toNat=32 then CM s else s++[c]:=by
 unfold CM
 rw[List.reverse_append]
 simp only[List.reverse_cons,List.reverse_nil,List.nil_append,List.singleton_append,List.dropWhile_cons]
 by_cases h:c.toNat=32
 ·simp [h]
 ·simp [h]
theorem a9E{s:List UInt8}{c:UInt8}(h:s[s.length-1]? =some c):s=s.take (s.length-1)++[c]:=by
 have h1:=Ey h
 have:s.length-1+1=s.length:=by
  have:=(List.getElem?_eq_some_iff.1 h).1;omega
 rw[this,List.take_length] at h1
 exact h1
theorem a1e{s:List UInt8}{c:UInt8}(h:s[s.length-1]? =some c):CM s=if c.toNat=32 then CM (s.take (s.length-1)) else s:=by
 have h1:=a9E h
 rw[h1,a1d]
 split
 ·rw[List.length_append];simp
 ·rfl
theorem a1f{s:List UInt8}{n:Nat}{c:UInt8}(h:s[n]? =some c):CM (s.take (n+1))=if c.toNat=32 then CM (s.take n) else s.take (n+1):=by
 rw[Ey h,a1d]
def isQ(c:UInt8):Bool:=decide (c.toNat=39)
def CE(s:List UInt8):Nat:=match DW isQ (s.drop 1) with
 |none=>0
 |some i=>if((s.drop 1).take i).all Cm then i+2 else 0
def Cv(s:List UInt8):Nat:=if s.take 2=[47,47] then(if(s.takeWhile Cl).all Cm then(s.takeWhile Cl).length else 0) else 0
theorem a1g(s:List UInt8):DD s=match DW isQ (s.drop 1) with
 |none=>([],false)
 |some i=>(s.take (i+2),(s.take (i+2)).all Cm):=rfl
theorem a1h{c:UInt8}(h:isQ c=true):Cm c=true:=by
 simp [isQ] at h;simp [Cm,h]
theorem Wd{p:UInt8→Bool}{s:List UInt8}{i:Nat}(h:DW p s=some i):i<s.length:=by
 obtain⟨_,e,he,_⟩:=Lp.1 h
 exact(List.getElem?_eq_some_iff.1 he).1
theorem RG{c:UInt8}{s:List UInt8}(hc:isQ c=true):(DD (c::s)).2=true↔CE (c::s)≠0:=by
 rw[a1g];unfold CE
 simp only[List.drop_succ_cons,List.drop_zero]
 cases h:DW isQ s with
 |none=>simp
 |some i=>
  simp only[List.take_succ_cons,List.all_cons,a1h hc,Bool.true_and]
  obtain⟨h1,e,he,hq⟩:=Lp.1 h
  rw[Ey he,List.all_append]
  simp [a1h hq]
theorem a1i{c:UInt8}{s:List UInt8}(hc:isQ c=true)(h:CE (c::s)≠0):(DD (c::s)).1=(c::s).take (CE (c::s))∧CE (c::s)≤(c::s).length:=by
 rw[a1g];unfold CE at h ⊢
 simp only[List.drop_succ_cons,List.drop_zero] at h ⊢
 cases hi:DW isQ s with
 |none=>rw[hi] at h;simp at h
 |some i=>
  rw[hi] at h
  simp only at h ⊢
  split at h
  ·rename_i hp
   have:=Wd hi
   rw[if_pos hp]
   exact⟨rfl,by simp;omega⟩
  ·exact(h rfl).elim
theorem a9F{c:UInt8}(h:Cx c=true):Bj c=false:=by
 simp [Cx,Bj] at h ⊢;omega
theorem a9G(s:List UInt8):Cy s 1=match s with
 |[]=>false
 |c::_=>Cx c&&(s.all BR&&decide (s.length≤30)):=by
 cases s with
 |nil=>rfl
 |cons c t=>
  by_cases hc:Cx c=true
  ·simp only[Cy,Bd,hc,if_true,Bool.true_and]
   by_cases ha:(c::t).all BR=true
   ·have:=RB.2 ha
    rw[this,ha];simp
   ·have hn:¬(c::t).takeWhile BR=c::t:=fun e=>ha (RB.1 e)
    simp only[Bool.not_eq_true] at ha
    rw[ha]
    have:((c::t).takeWhile BR==c::t)=false:=by rw[beq_eq_false_iff_ne];exact hn
    rw[this];simp
  ·simp only[Bool.not_eq_true] at hc
   simp only[hc,Bool.false_and]
   rw[Bool.eq_false_iff]
   intro h
   simp only[Cy,Bd,hc,Bool.false_eq_true,if_false,Bool.and_eq_true,decide_eq_true_eq] at h
   have h1:=h.2.2.1
   repeat' split at h1
   all_goals simp at h1
theorem We(s:List UInt8):Cy s 2=(s.all Bj&&(decide (1≤s.length)&&decide (s.length≤12))):=by
 cases s with
 |nil=>rfl
 |cons c t=>
  by_cases hc:Cx c=true
  ·have hf:=a9F hc
   simp only[List.all_cons,hf,Bool.false_and]
   simp [Cy,Bd,hc]
  ·simp only[Bool.not_eq_true] at hc
   by_cases hf:Bj c=true
   ·simp only[Cy,Bd,hc,hf,Bool.false_eq_true,if_false,if_true]
    by_cases ha:(c::t).all Bj=true
    ·have:=RB.2 ha
     rw[this,ha];simp
    ·have hn:¬(c::t).takeWhile Bj=c::t:=fun e=>ha (RB.1 e)
     simp only[Bool.not_eq_true] at ha
     rw[ha]
     have:((c::t).takeWhile Bj==c::t)=false:=by rw[beq_eq_false_iff_ne];exact hn
     rw[this];simp
   ·simp only[Bool.not_eq_true] at hf
    simp only[List.all_cons,hf,Bool.false_and]
    rw[Bool.eq_false_iff]
    intro h
    simp only[Cy,Bd,hc,hf,Bool.false_eq_true,if_false,Bool.and_eq_true,decide_eq_true_eq] at h
    have h1:=h.2.2.1
    repeat' split at h1
    all_goals simp at h1
theorem Wf(s:List UInt8):Cy s 3=match s with
 |[]=>false
 |c::_=>isQ c&&(decide (1<s.length)&&decide (CE s=s.length)):=by
 cases s with
 |nil=>rfl
 |cons c t=>
  by_cases hq:isQ c=true
  ·have h39:c.toNat=39:=by simpa [isQ] using hq
   have hc:Cx c=false:=by simp [Cx];omega
   have hf:Bj c=false:=by simp [Bj];omega
   simp only[hq,Bool.true_and]
   simp only[Cy,Bd,hc,hf,h39,Bool.false_eq_true,if_false,if_true]
   by_cases h0:CE (c::t)=0
   ·have h2:(DD (c::t)).2=false:=by
     rw[Bool.eq_false_iff];intro h;exact(RG hq).1 h h0
    rw[h2,h0];simp
   ·have h2:=(RG hq).2 h0
    obtain⟨h3,h4⟩:=a1i hq h0
    have h5:1<CE (c::t):=by
     unfold CE at h0 ⊢
     split at h0
     ·exact(h0 rfl).elim
     ·split at h0
      ·rename_i hp;rw[if_pos hp];omega
      ·exact(h0 rfl).elim
    rw[h2,h3]
    rw[Bool.eq_iff_iff]
    simp only[Bool.and_eq_true,Bool.not_eq_true',decide_eq_true_eq,beq_iff_eq,List.length_take]
    constructor
    ·rintro⟨_,_,_,e,hl⟩
     have:=congrArg List.length e
     simp only[List.length_take] at this
     constructor<;>omega
    ·rintro⟨h6,h7⟩
     refine⟨by simp,trivial,trivial,?_,?_⟩
     ·rw[h7,List.take_length]
     ·omega
  ·simp only[Bool.not_eq_true] at hq
   have h39:¬c.toNat=39:=by simpa [isQ] using hq
   simp only[hq,Bool.false_and]
   rw[Bool.eq_false_iff]
   intro h
   simp only[Cy,Bd,h39,if_false,Bool.and_eq_true,decide_eq_true_eq] at h
   have h1:=h.2.2.1
   repeat' split at h1
   all_goals simp at h1
theorem Wg(s:List UInt8):Cy s 5=(decide (1<s.length)&&(decide (Cv s=s.length)&&(CM s==s))):=by
 cases s with
 |nil=>rfl
 |cons c t=>
  by_cases hp:(c::t).take 2=[47,47]
  ·have h47:c=47:=by
    have:=congrArg (fun l:List UInt8=>l.head?) hp
    simpa using this
   subst h47
   have hl:1<(47::t).length:=by
    have:=congrArg List.length hp
    simp only[List.length_take,List.length_cons,List.length_nil] at this ⊢;omega
   have hc:Cx 47=false:=by decide
   have hf:Bj 47=false:=by decide
   have hq:¬(47:UInt8).toNat=39:=by decide
   simp only[Cy,Bd,hc,hf,hq,hp,Bool.false_eq_true,if_false,if_true,Cv]
   rw[Bool.eq_iff_iff]
   simp only[Bool.and_eq_true,Bool.not_eq_true',decide_eq_true_eq,beq_iff_eq,beq_eq_false_iff_ne]
   constructor
   ·rintro⟨_,h1,_,h2,h3⟩
    rw[if_pos h1]
    have h3:((47::t).takeWhile Cl).length=(47::t).length:=by omega
    refine⟨hl,h3,?_⟩
    have e:(47::t).takeWhile Cl=47::t:=by
     have:=List.takeWhile_prefix (p:=Cl) (l:=47::t)
     exact List.IsPrefix.eq_of_length this h3
    rw[e] at h2;exact h2
   ·rintro⟨_,h1,h2⟩
    split at h1
    ·rename_i h3
     have e:(47::t).takeWhile Cl=47::t:=by
      have:=List.takeWhile_prefix (p:=Cl) (l:=47::t)
      exact List.IsPrefix.eq_of_length this h1
     rw[e] at h3 ⊢
     exact⟨by simp,h3,trivial,h2,rfl⟩
    ·simp at h1
  ·have h0:Cv (c::t)=0:=by simp only[Cv,if_neg hp]
   rw[h0]
   have:decide (0=(c::t).length)=false:=by simp
   rw[this]
   simp only[Bool.false_and,Bool.and_false]
   rw[Bool.eq_false_iff]
   intro h
   simp only[Cy,Bd,hp,if_false,Bool.and_eq_true,decide_eq_true_eq] at h
   have h1:=h.2.2.1
   repeat' split at h1
   all_goals simp at h1
theorem a9H{s:List UInt8}{m:Nat}{e:UInt8}(h:∀e∈(s.drop 1).take m,isQ e=false∧Cm e=true)(he:(s.drop 1)[m]? =some e)(hq:isQ e=true):CE s=m+2:=by
 unfold CE
 rw[Lp.2 ⟨fun e he=>(h e he).1,e,he,hq⟩]
 simp only
 rw[if_pos (List.all_eq_true.2 fun e he=>(h e he).2)]
theorem a9I{s:List UInt8}{m:Nat}{e:UInt8}(h:∀e∈(s.drop 1).take m,isQ e=false∧Cm e=true)(he:(s.drop 1)[m]? =some e)(hq:isQ e=false)(hp:Cm e=false):CE s=0:=by
 unfold CE
 cases hi:DW isQ (s.drop 1) with
 |none=>rfl
 |some i=>
  simp only
  obtain⟨h1,d,hd,hdq⟩:=Lp.1 hi
  rw[if_neg]
  intro hall
  have hmi:m<i:=by
   rcases Nat.lt_trichotomy m i with h'|h'|h'
   ·exact h'
   ·subst h';rw[he] at hd;cases hd;rw[hq] at hdq;cases hdq
   ·have:d∈(s.drop 1).take m:=by
     rw[List.mem_take_iff_getElem]
     obtain⟨a,b⟩:=List.getElem?_eq_some_iff.1 hd
     exact⟨i,by omega,b⟩
    rw[(h d this).1] at hdq;cases hdq
  have:e∈(s.drop 1).take i:=by
   rw[List.mem_take_iff_getElem]
   obtain⟨a,b⟩:=List.getElem?_eq_some_iff.1 he
   exact⟨m,by omega,b⟩
  rw[List.all_eq_true.1 hall e this] at hp;cases hp
theorem a9J{s:List UInt8}{m:Nat}(h:∀e∈(s.drop 1).take m,isQ e=false∧Cm e=true)(hl:(s.drop 1).length≤m):CE s=0:=by
 unfold CE
 rw[List.take_of_length_le hl] at h
 rw[VZ.2 fun e he=>(h e he).1]
theorem a1j{s:List UInt8}{m:Nat}(hp:s.take 2=[47,47])(h:∀e∈s.take m,Cl e=true∧Cm e=true)(he:s.length≤m∨∃e,s[m]? =some e∧Cl e=false)(hm:m≤s.length):Cv s=m:=by
 have h1:=JB (fun e he=>(h e he).1) he
 unfold Cv
 rw[if_pos hp,←h1,if_pos (List.all_eq_true.2 fun e he=>(h e he).2),List.length_take];omega
theorem a9K{s:List UInt8}{m:Nat}{e:UInt8}(hp:s.take 2=[47,47])(h:∀e∈s.take m,Cl e=true∧Cm e=true)(he:s[m]? =some e)(hn:Cl e=true)(hq:Cm e=false):Cv s=0:=by
 unfold Cv
 rw[if_pos hp,if_neg]
 intro hall
 have:e∈s.takeWhile Cl:=by
  have h2:s=s.take m++e::s.drop (m+1):=by rw[←GX he,List.take_append_drop]
  rw[h2,List.takeWhile_append_of_pos (fun e he=>(h e he).1),List.takeWhile_cons,if_pos hn]
  simp
 rw[List.all_eq_true.1 hall e this] at hq;cases hq
theorem a1k{s:List UInt8}(hp:s.take 2≠[47,47]):Cv s=0:=by
 unfold Cv;rw[if_neg hp]
theorem Wh{s:List UInt8}{a n:Int}(h0:0≤a)(h:a+1≤n):((s.drop a.toNat).drop 1)[(n-a-1).toNat]? =s[n.toNat]? :=by
 rw[List.getElem?_drop,List.getElem?_drop];congr 1;omega
theorem PC{s:List UInt8}{a n:Int}(h0:0≤a)(h:a≤n):(s.drop a.toNat)[(n-a).toNat]? =s[n.toNat]? :=by
 rw[List.getElem?_drop];congr 1;omega
theorem RH{p:UInt8→Prop}{s:List UInt8}{m k:Nat}{e:UInt8}(h:∀e∈s.take m,p e)(he:s[m]? =some e)(hp:p e)(hk:k=m+1):∀e∈s.take k,p e:=by
 subst hk
 rw[Ey he];intro x hx
 rcases List.mem_append.1 hx with hx|hx
 ·exact h x hx
 ·simp at hx;subst hx;exact hp
def qI(x:List UInt8×Int)(i:Int):Prop:=x.2+1≤i∧(i≤x.1.length∨i=x.2+1)∧∀e∈((x.1.drop x.2.toNat).drop 1).take (i-x.2-1).toNat,isQ e=false∧Cm e=true
theorem a9L{x:List UInt8×Int}:qI x (x.2+1):=by
 refine⟨by omega,.inr rfl,fun e he=> ?_⟩
 rw[show(x.2+1-x.2-1).toNat=0 by omega] at he;simp at he
theorem a9M{x:List UInt8×Int}{i:Int}(h:qI x i):x.2+1≤i∧(i≤x.1.length∨i=x.2+1):=⟨h.1,h.2.1⟩
theorem a9N{x:List UInt8×Int}{i:Int}{c:UInt8}(h0:0≤x.2)(h:qI x i)(hq:(c.toNat:Int)=39)(hc:x.1[i.toNat]? =some c):i+1-x.2=CE (x.1.drop x.2.toNat):=by
 have:=h.1
 rw[a9H h.2.2 (by rw[Wh h0 h.1];exact hc) (by simp [isQ];omega)];omega
theorem a9O{x:List UInt8×Int}{i:Int}{c d:UInt8}(h0:0≤x.2)(h:qI x i)(hq:(c.toNat:Int)≠39)(hc:x.1[i.toNat]? =some c)(hp:Cm d=false)(hd:x.1[i.toNat]? =some d):0=(CE (x.1.drop x.2.toNat):Int):=by
 rw[hc] at hd;cases hd
 rw[a9I h.2.2 (by rw[Wh h0 h.1];exact hc) (by simp [isQ];omega) hp];rfl
theorem a9P{x:List UInt8×Int}{i:Int}{c d:UInt8}(h0:0≤x.2)(h:qI x i)(hl:i<x.1.length)(hq:(c.toNat:Int)≠39)(hc:x.1[i.toNat]? =some c)(hp:Cm d=true)(hd:x.1[i.toNat]? =some d):qI x (i+1):=by
 rw[hc] at hd;cases hd
 have:=h.1
 exact⟨by omega,.inl (by omega),RH (p:=fun e=>isQ e=false∧Cm e=true) h.2.2 (by rw[Wh h0 h.1];exact hc) ⟨by simp [isQ];omega,hp⟩ (by omega)⟩
theorem a9Q{x:List UInt8×Int}{i:Int}(h0:0≤x.2)(h:qI x i)(hl:¬i<x.1.length):0=(CE (x.1.drop x.2.toNat):Int):=by
 rw[a9J h.2.2 (by simp;omega)];rfl
def nI(x:List UInt8×Int)(i:Int):Prop:=(x.2≤i∧i≤x.1.length)∧(x.1.drop x.2.toNat).take 2=[47,47]∧∀e∈(x.1.drop x.2.toNat).take (i-x.2).toNat,Cl e=true∧Cm e=true
theorem a1l{x:List UInt8×Int}(h0:0≤x.2):List.drop x.2.toNat (List.take (x.2+2).toNat x.1)=(x.1.drop x.2.toNat).take 2:=by
 rw[List.drop_take];congr 1;omega
theorem a9R{x:List UInt8×Int}(h0:0≤x.2)(hl:x.2≤x.1.length)(h:(List.drop x.2.toNat (List.take (x.2+2).toNat x.1)==[47,47])=true):nI x x.2:=by
 rw[a1l h0] at h
 refine⟨⟨by omega,hl⟩,by simpa using h,fun e he=> ?_⟩
 rw[show(x.2-x.2).toNat=0 by omega] at he;simp at he
theorem a9S{x:List UInt8×Int}(h0:0≤x.2)(h:(List.drop x.2.toNat (List.take (x.2+2).toNat x.1)==[47,47])=false):0=(Cv (x.1.drop x.2.toNat):Int):=by
 rw[a1l h0] at h
 rw[a1k (by simpa using h)];rfl
theorem a9T{x:List UInt8×Int}(h0:0≤x.2)(h:x.2+2>x.1.length):0=(Cv (x.1.drop x.2.toNat):Int):=by
 rw[a1k]
 ·rfl
 ·intro e;have:=congrArg List.length e;simp at this;omega
theorem a9U{x:List UInt8×Int}{i:Int}{c d:UInt8}(h0:0≤x.2)(h:nI x i)(hn:(c.toNat:Int)≠10)(hc:x.1[i.toNat]? =some c)(hp:Cm d=false)(hd:x.1[i.toNat]? =some d):0=(Cv (x.1.drop x.2.toNat):Int):=by
 rw[hc] at hd;cases hd
 rw[a9K h.2.1 h.2.2 (by rw[PC h0 h.1.1];exact hc) (by simp [Cl];omega) hp];rfl
theorem a9V{x:List UInt8×Int}{i:Int}{c d:UInt8}(h0:0≤x.2)(h:nI x i)(hl:i<x.1.length)(hn:(c.toNat:Int)≠10)(hc:x.1[i.toNat]? =some c)(hp:Cm d=true)(hd:x.1[i.toNat]? =some d):nI x (i+1):=by
 rw[hc] at hd;cases hd
 have:=h.1
 exact⟨by omega,h.2.1,RH (p:=fun e=>Cl e=true∧Cm e=true) h.2.2 (by rw[PC h0 h.1.1];exact hc) ⟨by simp [Cl];omega,hp⟩ (by omega)⟩
theorem a9W{x:List UInt8×Int}{i:Int}{c:UInt8}(h0:0≤x.2)(h:nI x i)(hn:(c.toNat:Int)=10)(hc:x.1[i.toNat]? =some c):i-x.2=(Cv (x.1.drop x.2.toNat):Int):=by
 have:=h.1
 have hl:=(List.getElem?_eq_some_iff.1 hc).1
 rw[a1j h.2.1 h.2.2 (.inr ⟨c,by rw[PC h0 h.1.1];exact hc,by simp [Cl];omega⟩) (by simp;omega)];omega
theorem a9X{x:List UInt8×Int}{i:Int}(h0:0≤x.2)(h:nI x i)(hl:¬i<x.1.length):i-x.2=(Cv (x.1.drop x.2.toNat):Int):=by
 have:=h.1
 rw[a1j h.2.1 h.2.2 (.inl (by simp;omega)) (by simp;omega)];omega
def nmI(x:List UInt8)(i:Int):Prop:=(0≤i∧i≤x.length)∧(inn x.length 1 30=true∧Cx (x.headD 0)=true∧kw x=false)∧∀e∈x.take i.toNat,BR e=true
theorem Wi{x:List UInt8}:DX x=true↔(inn x.length 1 30=true∧Cx (x.headD 0)=true∧kw x=false)∧x.all BR=true:=by
 unfold DX
 rw[a9G]
 cases x with
 |nil=>simp [inn]
 |cons c t=>
  simp only[inn,Bool.and_eq_true,decide_eq_true_eq,Bool.not_eq_true',List.headD_cons,List.length_cons]
  constructor
  ·rintro⟨⟨h1,h2,h3⟩,h4⟩;exact⟨⟨⟨by omega,by omega⟩,h1,h4⟩,h2⟩
  ·rintro⟨⟨⟨h1,h2⟩,h3,h4⟩,h5⟩;exact⟨⟨h3,h5,by omega⟩,h4⟩
theorem a1m{x:List UInt8}{c:UInt8}(h:x[0]? =some c):x.headD 0=c:=by cases x<;>simp_all
theorem Wj{x:List UInt8}(h:¬(inn x.length 1 30=true∧Cx (x.headD 0)=true∧kw x=false)):false=DX x:=by
 symm;rw[Bool.eq_false_iff];intro hn;exact h (Wi.1 hn).1
theorem a9Y{x:List UInt8}(h:inn x.length 1 30=true)(h1:Cx (x.headD 0)=true)(h2:kw x=false):nmI x 0:=⟨by omega,⟨h,h1,h2⟩,fun e he=>by simp at he⟩
theorem a1n{x:List UInt8}{i:Int}{c:UInt8}(h:nmI x i)(hc:x[i.toNat]? =some c)(hl:i<x.length)(hp:BR c=true):nmI x (i+1):=by
 have:=h.1
 exact⟨by omega,h.2.1,RH (p:=fun e=>BR e=true) h.2.2 hc hp (by omega)⟩
theorem a9Z{x:List UInt8}{i:Int}{c:UInt8}(h:nmI x i)(hc:x[i.toNat]? =some c)(hp:BR c=false):false=DX x:=by
 symm;rw[Bool.eq_false_iff];intro hn
 have:=(Wi.1 hn).2
 rw[RA hc hp] at this;cases this
theorem b0a{x:List UInt8}{i:Int}(h:nmI x i)(hl:¬i<x.length):true=DX x:=by
 symm;rw[Wi];exact⟨h.2.1,VY h.2.2 (by omega)⟩
theorem b0b{x:List UInt8}{c:UInt8}(h1:(x.length:Int)>1)(hq:(c.toNat:Int)=39)(h:x[0]? =some c):((CE x:Int)==(x.length:Int))=Cy x 3:=by
 cases x with
 |nil=>cases h
 |cons d t=>
  have:d=c:=by simpa using h
  subst this
  have e:isQ d=true:=by simp [isQ];omega
  rw[Wf,Bool.eq_iff_iff]
  simp [e] at h1 ⊢;omega
theorem b0c{x:List UInt8}{c:UInt8}(hq:(c.toNat:Int)≠39)(h:x[0]? =some c):false=Cy x 3:=by
 cases x with
 |nil=>cases h
 |cons d t=>
  have:d=c:=by simpa using h
  subst this
  have e:isQ d=false:=by simp [isQ];omega
  rw[Wf];simp [e]
theorem b0d{x:List UInt8}(h1:¬(x.length:Int)>1):false=Cy x 3:=by
 rw[Wf]
 cases x with
 |nil=>rfl
 |cons d t=>
  have:decide (1<(d::t).length)=false:=decide_eq_false (by omega)
  simp only[this,Bool.false_and,Bool.and_false]
theorem b0e{x:List UInt8}(h1:(x.length:Int)>1)(h2:(Cv x:Int)=x.length):(CM x==x)=Cy x 5:=by
 rw[Wg]
 have e1:decide (1<x.length)=true:=decide_eq_true (by omega)
 have e2:decide (Cv x=x.length)=true:=decide_eq_true (by omega)
 simp [e1,e2]
theorem b0f{x:List UInt8}(h2:(Cv x:Int)≠x.length):false=Cy x 5:=by
 rw[Wg]
 have e2:decide (Cv x=x.length)=false:=decide_eq_false (by omega)
 simp only[e2,Bool.false_and,Bool.and_false]
theorem b0g{x:List UInt8}(h1:¬(x.length:Int)>1):false=Cy x 5:=by
 rw[Wg]
 have e2:decide (1<x.length)=false:=decide_eq_false (by omega)
 simp only[e2,Bool.false_and]
end Go.My
end
section
namespace Go.My
open Go.Eng Go.Proofs
variable {G:GInv}
def HK:Sig:= {X:=List UInt8,args:=fun x=>[.str x],pre:=fun x=>True,Y:=Unit,post:=fun x y=>True,res:=fun x y=> .bool (kw x),outs:=fun x y=>[.top],keep:=false}
theorem b0h:Aj G Tryz.prog 182 HK:=
 vcFun_okP [] [] false (fun x=>[]) Tryz.func182 rfl (by decide) trivial (fun(x:List UInt8)=>(∀(y:Unit),True→True∧True∧True)∧Aa (x== #[(99:UInt8),(108:UInt8),(97:UInt8),(115:UInt8),(115:UInt8)].toList) (rA HK x [.bool true,.top]) (Aa (x== #[(118:UInt8),(97:UInt8),(114:UInt8)].toList) (rA HK x [.bool true,.top]) (Aa (x== #[(105:UInt8),(102:UInt8)].toList) (rA HK x [.bool true,.top]) (Aa (x== #[(101:UInt8),(108:UInt8),(115:UInt8),(101:UInt8)].toList) (rA HK x [.bool true,.top]) (Aa (x== #[(119:UInt8),(104:UInt8),(105:UInt8),(108:UInt8),(101:UInt8)].toList) (rA HK x [.bool true,.top]) (Aa (x== #[(114:UInt8),(101:UInt8),(116:UInt8),(117:UInt8),(114:UInt8),(110:UInt8)].toList) (rA HK x [.bool true,.top]) (rA HK x [.bool false,.top]))))))) (fun x=>by kernel_rfl) fun(x:List UInt8) (hx:True)=>(by
 dsimp only[rA,HK,Au,Az]
 (repeat' first|(with_reducible first|rfl|exact True.intro|apply AK|apply And.intro|((first|apply AA|apply AI|apply AB|apply AJ)<;>intro _))|(apply Ax<;>intro _)|apply AH|refine Ae () ?_ ?_|((first|apply AO|apply AN|apply AM|apply AL|apply AG|apply AF|apply AE|apply AD|apply AC)<;>try dsimp only)|apply Ae|(refine Prod.forall.2 ?_;intro _;try dsimp only)|(intro _;try dsimp only))<;>(try dsimp only at*)<;>(try simp only[AQ,List.length_cons,List.length_nil])<;>(try omega)
 all_goals simp [kw, *])
def Gw:Sig:= {X:=List UInt8,args:=fun x=>[.str x],pre:=fun x=>True,Y:=Unit,post:=fun x y=>True,res:=fun x y=> .bool (kw x),outs:=fun x y=>[.top],keep:=false}
theorem Wk:Aj G Tryz.prog 89 Gw:=
 vcFun_okP [] [] false (fun x=>[]) Tryz.func89 rfl (by decide) trivial (fun(x:List UInt8)=>(∀(y:Unit),True→True∧True∧True)∧Aa (x== #[(99:UInt8),(108:UInt8),(97:UInt8),(115:UInt8),(115:UInt8)].toList) (rA Gw x [.bool true,.top]) (Aa (x== #[(118:UInt8),(97:UInt8),(114:UInt8)].toList) (rA Gw x [.bool true,.top]) (Aa (x== #[(105:UInt8),(102:UInt8)].toList) (rA Gw x [.bool true,.top]) (Aa (x== #[(101:UInt8),(108:UInt8),(115:UInt8),(101:UInt8)].toList) (rA Gw x [.bool true,.top]) (Aa (x== #[(119:UInt8),(104:UInt8),(105:UInt8),(108:UInt8),(101:UInt8)].toList) (rA Gw x [.bool true,.top]) (Aa (x== #[(114:UInt8),(101:UInt8),(116:UInt8),(117:UInt8),(114:UInt8),(110:UInt8)].toList) (rA Gw x [.bool true,.top]) (rA Gw x [.bool false,.top]))))))) (fun x=>by kernel_rfl) fun(x:List UInt8) (hx:True)=>(by
 dsimp only[rA,Gw,Au,Az]
 (repeat' first|(with_reducible first|rfl|exact True.intro|apply AK|apply And.intro|((first|apply AA|apply AI|apply AB|apply AJ)<;>intro _))|(apply Ax<;>intro _)|apply AH|refine Ae () ?_ ?_|((first|apply AO|apply AN|apply AM|apply AL|apply AG|apply AF|apply AE|apply AD|apply AC)<;>try dsimp only)|apply Ae|(refine Prod.forall.2 ?_;intro _;try dsimp only)|(intro _;try dsimp only))<;>(try dsimp only at*)<;>(try simp only[AQ,List.length_cons,List.length_nil])<;>(try omega)
 all_goals simp [kw, *])
theorem b0i{c:UInt8}:decide (CO mk1 c≥0)=mk1.elem c:=by
 unfold CO
 cases h:DW (fun d=>decide (d.toNat=c.toNat)) mk1 with
 |none=>
  have:=VZ.1 h
  symm
  simp only[Int.reduceNeg,ge_iff_le,Int.reduceLE,decide_false]
  rw[Bool.eq_false_iff]
  intro h2
  have h3:=this c (by simpa using h2)
  simp at h3
 |some i=>
  obtain⟨_,e,he,hq⟩:=Lp.1 h
  have h3:e=c:=by simpa [UInt8.toNat_inj] using hq
  subst h3
  have:=List.mem_of_getElem? he
  simp [this]
def HL:Sig:= {X:=List UInt8,args:=fun x=>[.str x],pre:=fun x=>x.length<2^63,Y:=Unit,post:=fun x y=>True,res:=fun x y=> .bool (CL x),outs:=fun x y=>[.top],keep:=false}
theorem b0j:Aj G Tryz.prog 168 HL:=
 vcFun_okP [(194,0,Nw)] [] false (fun x=>[]) Tryz.func168 rfl (by decide) ⟨a9o,trivial⟩ (fun(x:List UInt8)=>(∀(y:Unit),True→True∧True∧True)∧Aa (x== #[(38:UInt8),(38:UInt8)].toList) (rA HL x [.bool true,.top]) (Aa (x== #[(124:UInt8),(124:UInt8)].toList) (rA HL x [.bool true,.top]) (Aa (x== #[(61:UInt8),(61:UInt8)].toList) (rA HL x [.bool true,.top]) (Aa (x== #[(61:UInt8),(62:UInt8)].toList) (rA HL x [.bool true,.top]) (Aa (x== #[(46:UInt8),(46:UInt8)].toList) (rA HL x [.bool true,.top]) (Aa ((↑(List.length x):Int)==(1:Int)) (cA Nw [.str #[(40:UInt8),(41:UInt8),(123:UInt8),(125:UInt8),(91:UInt8),(93:UInt8),(59:UInt8),(44:UInt8),(46:UInt8),(61:UInt8),(43:UInt8),(45:UInt8),(42:UInt8),(60:UInt8),(63:UInt8),(58:UInt8)].toList,.str x] fun x_1 y=>rA HL x [.bool (decide (CO x_1.1 (List.headD x_1.2 (0:UInt8))≥(0:Int))),.top]) (rA HL x [.bool false,.top]))))))) (fun x=>by kernel_rfl) fun(x:List UInt8) (hx:x.length<2^63)=>(by
 dsimp only[cA,rA,HL,Nw,Au,Az,mvL,lnL,mvE,lnE]
 (repeat' first|(with_reducible first|rfl|exact True.intro|apply AK|apply And.intro|((first|apply AA|apply AI|apply AB|apply AJ)<;>intro _))|(apply Ax<;>intro _)|apply AH|refine Ae () ?_ ?_|((first|apply AO|apply AN|apply AM|apply AL|apply AG|apply AF|apply AE|apply AD|apply AC)<;>try dsimp only)|apply Ae|(refine Prod.forall.2 ?_;intro _;try dsimp only)|(intro _;try dsimp only))<;>(try dsimp only at*)<;>(try simp only[AQ,List.length_cons,List.length_nil])<;>(try omega)
 ·rename_i h;simp [CL,mk2,h]
 ·rename_i h;simp [CL,mk2,h]
 ·rename_i h;simp [CL,mk2,h]
 ·rename_i h;simp [CL,mk2,h]
 ·rename_i h;simp [CL,mk2,h]
 ·rename_i h1 h2 h3 h4 h5 h _ _
  have h:x.length=1:=by omega
  match x,h with
  |[c],_=>exact b0i.trans (by simp [CL,mk2])
 ·rename_i h1 h2 h3 h4 h5 h
  symm;simp only[CL,mk2,Bool.or_eq_false_iff,beq_eq_false_iff_ne]
  refine⟨⟨h1,h2,h3,h4,h5⟩,?_⟩
  split
  ·simp at h
  ·rfl)
def Lv:Sig:= {X:=List UInt8,args:=fun x=>[.str x,.int .u8 32],pre:=fun x=>x.length<2^63,Y:=Unit,post:=fun x y=>True,res:=fun x y=> .str (CM x),outs:=fun x y=>[.top,.top],keep:=false}
def RI(x:List UInt8):LS:= {ι:=List UInt8,inv:=fun s=>s.length≤x.length∧CM s=CM x,regs:=fun s=>[(0,.str s),(1,.int .u8 32)],als:=[],meas:=fun s=>s.length}
theorem b0k:Aj G Tryz.prog 213 Lv:=
 vcFun_okP [] [] false (fun x=>[(1,RI x)]) Tryz.func213 rfl (by decide) trivial (fun(x:List UInt8)=>(∀(y:Unit),True→True∧True∧True∧True)∧eA (RI x) [.str x,AV.int IntKind.u8 (32:Int)]∧∀(i:List UInt8),List.length i≤List.length x∧CM i=CM x→Aa (decide ((↑(List.length i):Int)>(0:Int))) (inR IntKind.i64 ((↑(List.length i):Int)-(1:Int))∧((0:Int)≤(↑(List.length i):Int)-(1:Int)∧(↑(List.length i):Int)-(1:Int)<(↑(List.length i):Int))∧∀(c:UInt8),i[Int.toNat ((↑(List.length i):Int)-(1:Int))]? =some c→Aa ((↑(UInt8.toNat c):Int)==(32:Int)) (inR IntKind.i64 ((↑(List.length i):Int)-(1:Int))∧((0:Int)≤(0:Int)∧(0:Int)≤(↑(List.length i):Int)-(1:Int)∧(↑(List.length i):Int)-(1:Int)≤(↑(List.length i):Int))∧eN (RI x) i [.str (List.take (Int.toNat ((↑(List.length i):Int)-(1:Int))) i),AV.int IntKind.u8 (32:Int)]) (rA Lv x [.str i,.top,.top])) (rA Lv x [.str i,.top,.top])) (fun x=>by kernel_rfl) fun(x:List UInt8) (hx:x.length<2^63)=>(by
 dsimp only[eA,eN,RI,rA,Lv,Au,Az,Br]
 (repeat' first|(with_reducible first|rfl|exact True.intro|apply AK|apply And.intro|((first|apply AA|apply AI|apply AB|apply AJ)<;>intro _))|(apply Ax<;>intro _)|apply AH|refine Ae () ?_ ?_|((first|apply AO|apply AN|apply AM|apply AL|apply AG|apply AF|apply AE|apply AD|apply AC)<;>try dsimp only)|apply Ae|(refine Prod.forall.2 ?_;intro _;try dsimp only)|(intro _;try dsimp only))<;>(try dsimp only at*)<;>(try simp only[AQ,List.length_cons,List.length_nil])<;>(try omega)
 ·rename_i s hs h c hc h2;simp;omega
 ·rename_i s hs h c hc h2;simp;omega
 ·rename_i s hs h c hc h2
  have e:((s.length:Int)-1).toNat=s.length-1:=by omega
  rw[e] at hc ⊢
  rw[←hs.2,a1e hc,if_pos (by omega)]
 ·rename_i s hs h c hc h2
  have e:((s.length:Int)-1).toNat=s.length-1:=by omega
  rw[e] at hc
  rw[←hs.2,a1e hc,if_neg (by omega)]
 ·rename_i s hs h
  have:s=[]:=List.length_eq_zero_iff.1 (by omega)
  rw[←hs.2,this];rfl)
def Lw:Sig:= {X:=List UInt8,args:=fun x=>[.str x,.str [32]],pre:=fun x=>x.length<2^63,Y:=Unit,post:=fun x y=>True,res:=fun x y=> .str (CM x),outs:=fun x y=>[.top,.top],keep:=false}
theorem b0l:Aj G Tryz.prog 193 Lw:=
 vcFun_okP [(213,0,Lv)] [] false (fun x=>[]) Tryz.func193 rfl (by decide) ⟨b0k,trivial⟩ (fun(x:List UInt8)=>(∀(y:Unit),True→True∧True∧True∧True)∧Aa (x== #[].toList) (rA Lw x [.str x,.top,.top]) (((0:Int)≤(0:Int)∧(0:Int)<(↑(1:Nat):Int))∧∀(c:UInt8),[(32:UInt8)][(0:Nat)]? =some c→Aa (decide ((↑(UInt8.toNat c):Int)<(128:Int))) (((0:Int)≤(0:Int)∧(0:Int)<(↑(1:Nat):Int))∧∀(c:UInt8),[(32:UInt8)][(0:Nat)]? =some c→cA Lv [.str x,AV.int IntKind.u8 (↑(UInt8.toNat c):Int)] fun x_1 y=>rA Lw x [.str (CM x_1),.top,.top]) False)) (fun x=>by kernel_rfl) fun(x:List UInt8) (hx:x.length<2^63)=>(by
 dsimp only[cA,rA,Lv,Lw,Au,Az,mvL,lnL,mvE,lnE]
 refine⟨fun _ _=>⟨trivial,trivial,trivial,trivial⟩,AB (fun h=>⟨(),trivial,by rw[h];rfl,trivial⟩) (fun h=>⟨by omega,fun c hc=> ?_⟩)⟩
 have hc:32=c:=by simpa using hc
 subst hc
 refine AA (fun _=>⟨by omega,fun c hc=> ?_⟩) (fun h=>(h (by decide)).elim)
 have hc:32=c:=by simpa using hc
 subst hc
 exact⟨x,hx,rfl,rfl,fun _ _=>⟨(),trivial,rfl,trivial⟩⟩)
def NA:Sig:= {X:=List UInt8,args:=fun x=>[.str x],pre:=fun x=>x.length<2^63,Y:=Unit,post:=fun x y=>True,res:=fun x y=> .str (CM x),outs:=fun x y=>[.top],keep:=false}
theorem b0m:Aj G Tryz.prog 166 NA:=
 vcFun_okP [(193,0,Lw)] [] false (fun x=>[]) Tryz.func166 rfl (by decide) ⟨b0l,trivial⟩ (fun(x:List UInt8)=>(∀(y:Unit),True→True∧True∧True)∧cA Lw [.str x,.str #[(32:UInt8)].toList] fun x_1 y=>rA NA x [.str (CM x_1),.top]) (fun x=>by kernel_rfl) fun(x:List UInt8) (hx:x.length<2^63)=>(by
 dsimp only[cA,rA,NA,Lw,Au,Az,mvL,lnL,mvE,lnE]
 (repeat' first|(with_reducible first|rfl|exact True.intro|apply AK|apply And.intro|((first|apply AA|apply AI|apply AB|apply AJ)<;>intro _))|(apply Ax<;>intro _)|apply AH|refine Ae () ?_ ?_|((first|apply AO|apply AN|apply AM|apply AL|apply AG|apply AF|apply AE|apply AD|apply AC)<;>try dsimp only)|apply Ae|(refine Prod.forall.2 ?_;intro _;try dsimp only)|(intro _;try dsimp only))<;>(try dsimp only at*)<;>(try simp only[AQ,List.length_cons,List.length_nil])<;>(try omega))
def Ja:Sig:= {X:=List UInt8,args:=fun x=>[.str x],pre:=fun x=>x.length<2^63,Y:=Unit,post:=fun x y=>True,res:=fun x y=> .str (CM x),outs:=fun x y=>[.top],keep:=false}
def RJ(x:List UInt8):LS:= {ι:=Int,inv:=fun i=>0≤i∧i≤x.length∧CM (x.take i.toNat)=CM x,regs:=fun i=>[(0,.str x),(3,.int .i64 i)],als:=[],meas:=fun i=>i.toNat}
theorem a1o:Aj G Tryz.prog 84 Ja:=
 vcFun_okP [] [] false (fun x=>[(2,RJ x)]) Tryz.func84 rfl (by decide) trivial (fun(x:List UInt8)=>(∀(y:Unit),True→True∧True∧True)∧eA (RJ x) [.str x,.int .i64 (↑(List.length x):Int)]∧∀(i:Int),(0:Int)≤i∧i≤(↑(List.length x):Int)∧CM (List.take (Int.toNat i) x)=CM x→Aa (decide (i>(0:Int))) (inR IntKind.i64 (i-(1:Int))∧((0:Int)≤i-(1:Int)∧i-(1:Int)<(↑(List.length x):Int))∧∀(c:UInt8),x[Int.toNat (i-(1:Int))]? =some c→Aa ((↑(UInt8.toNat c):Int)==(32:Int)) (inR IntKind.i64 (i-(1:Int))∧eN (RJ x) i [.str x,.int .i64 (i-(1:Int))]) (((0:Int)≤(0:Int)∧(0:Int)≤i∧i≤(↑(List.length x):Int))∧rA Ja x [.str (List.take (Int.toNat i) x),.top])) (((0:Int)≤(0:Int)∧(0:Int)≤i∧i≤(↑(List.length x):Int))∧rA Ja x [.str (List.take (Int.toNat i) x),.top])) (fun x=>by kernel_rfl) fun(x:List UInt8) (hx:x.length<2^63)=>(by
 dsimp only[eA,eN,RJ,rA,Ja,Au,Az,Br]
 (repeat' first|(with_reducible first|rfl|exact True.intro|apply AK|apply And.intro|((first|apply AA|apply AI|apply AB|apply AJ)<;>intro _))|(apply Ax<;>intro _)|apply AH|refine Ae () ?_ ?_|((first|apply AO|apply AN|apply AM|apply AL|apply AG|apply AF|apply AE|apply AD|apply AC)<;>try dsimp only)|apply Ae|(refine Prod.forall.2 ?_;intro _;try dsimp only)|(intro _;try dsimp only))<;>(try dsimp only at*)<;>(try simp only[AQ,List.length_cons,List.length_nil])<;>(try omega)
 ·simp
 ·rename_i i hi h c hc h2
  rw[←hi.2.2,show i.toNat=(i-1).toNat+1 by omega,a1f hc,if_pos (by omega)]
 ·rename_i i hi h c hc h2
  have:=hi.2.2
  rw[show i.toNat=(i-1).toNat+1 by omega,a1f hc,if_neg (by omega)] at this
  rw[←this,show i.toNat=(i-1).toNat+1 by omega]
 ·rename_i i hi h
  rw[←hi.2.2,show i.toNat=0 by omega];rfl)
theorem b0n(s:List UInt8)(c:UInt8):CO s c= -1∨(0≤CO s c∧CO s c<s.length):=by
 unfold CO
 split
 ·exact .inl rfl
 ·rename_i i h;have:=Wd h;omega
theorem a1p{s:List UInt8}:DD s=if CO (s.drop 1) 39<0 then([],false) else(s.take (CO (s.drop 1) 39+2).toNat,(s.take (CO (s.drop 1) 39+2).toNat).all Cm):=by
 unfold DD CO
 have e:(fun c:UInt8=>decide (c.toNat=39))=fun d:UInt8=>decide (d.toNat=(39:UInt8).toNat):=rfl
 rw[e]
 cases DW (fun d:UInt8=>decide (d.toNat=(39:UInt8).toNat)) (s.drop 1) with
 |none=>simp
 |some i=>
  have h1:¬(i:Int)<0:=by omega
  have h2:((i:Int)+2).toNat=i+2:=by omega
  simp only[if_neg h1,h2]
def Lx:Sig:= {X:=List UInt8,args:=fun x=>[.str x],pre:=fun x=>1≤x.length∧x.length<2^62,Y:=Unit,post:=fun x y=>True,res:=fun x y=> .tup [.str (DD x).1,.bool (DD x).2],outs:=fun x y=>[.top],keep:=false}
theorem b0o:Aj G Tryz.prog 163 Lx:=
 vcFun_okP [(191,0,Nu),(167,0,Iq)] [] false (fun x=>[]) Tryz.func163 rfl (by decide) ⟨a9l,a1c,trivial⟩ (fun(x:List UInt8)=>(∀(y:Unit),True→(True∧True∧True)∧True∧True)∧((0:Int)≤(1:Int)∧(1:Int)≤(↑(List.length x):Int)∧(↑(List.length x):Int)≤(↑(List.length x):Int))∧cA Nu [.str (List.drop (1:Nat) x),AV.int IntKind.u8 (39:Int)] fun x_1 y=>Aa (decide (CO x_1 (39:UInt8)<(0:Int))) (rA Lx x [.tup [.str #[].toList,.bool false],.top]) (inR IntKind.i64 (CO x_1 (39:UInt8)+(2:Int))∧((0:Int)≤(0:Int)∧(0:Int)≤CO x_1 (39:UInt8)+(2:Int)∧CO x_1 (39:UInt8)+(2:Int)≤(↑(List.length x):Int))∧cA Iq [.str (List.take (Int.toNat (CO x_1 (39:UInt8)+(2:Int))) x)] fun x_2 y=>rA Lx x [.tup [.str (List.take (Int.toNat (CO x_1 (39:UInt8)+(2:Int))) x),.bool (List.all x_2 Cm)],.top])) (fun x=>by kernel_rfl) fun(x:List UInt8) (hx:1≤x.length∧x.length<2^62)=>(by
 dsimp only[cA,rA,Iq,Lx,Nu,Au,Az,mvL,lnL,mvE,lnE]
 obtain⟨h1,h2⟩:=hx
 have hq:=b0n (x.drop 1) 39;have hl:(x.drop 1).length=x.length-1:=by simp
 (repeat' first|(with_reducible first|rfl|exact True.intro|apply AK|apply And.intro|((first|apply AA|apply AI|apply AB|apply AJ)<;>intro _))|(apply Ax<;>intro _)|apply AH|refine Ae () ?_ ?_|((first|apply AO|apply AN|apply AM|apply AL|apply AG|apply AF|apply AE|apply AD|apply AC)<;>try dsimp only)|apply Ae|(refine Prod.forall.2 ?_;intro _;try dsimp only)|(intro _;try dsimp only))<;>(try dsimp only at*)<;>(try simp only[AQ,List.length_cons,List.length_nil])<;>(try omega)
 all_goals first
  |omega
  |(rw[a1p,if_neg ‹¬CO _ 39<0›];done)
  |(rw[a1p,if_pos ‹CO _ 39<0›];done)
  |(simp;omega))
def It:Sig:= {X:=List UInt8,args:=fun x=>[.str x],pre:=fun x=>1≤x.length∧x.length<2^62,Y:=Unit,post:=fun x y=>True,res:=fun x y=> .tup [.int .i64 (Bd x).kind,.str (Bd x).text,.int .i64 (Bd x).size,.bool (Bd x).ok],outs:=fun x y=>[.top],keep:=false}
def RK(x:List UInt8):LS:= {ι:=Int,inv:=fun i=>Ir x i,regs:=fun i=>[(0,.str x),(12,.int .i64 i)],als:=[],meas:=fun i=>i.toNat}
theorem b0p:Aj G Tryz.prog 131 It:=
 vcFun_okP [(159,0,FZ),(160,161+1,Ls),(162,0,GY),(160,162+1,Lt),(163,0,Lx),(164,0,Nx),(160,165+1,Lu),(166,0,NA),(167,0,Iq),(168,0,HL)] [] false (fun x=>[(15,RK x)]) Tryz.func131 rfl (by decide) ⟨a0Z,a9t,Wc,a9u,b0o,a9q,a9v,b0m,a1c,b0j,trivial⟩ (fun(x:List UInt8)=>(∀(y:Unit),True→(True∧True∧True∧True∧True)∧True∧True)∧((0:Int)≤(0:Int)∧(0:Int)<(↑(List.length x):Int))∧∀(c:UInt8),x[(0:Nat)]? =some c→cA FZ [AV.int IntKind.u8 (↑(UInt8.toNat c):Int)] fun x_1 y=>Aa (Cx x_1) (cA Ls [.str x,AV.clo (Fn.func (84:Nat)) []] fun x_2 y=>rA It x [.tup [.int .i64 (1:Int),.str (List.takeWhile BR x_2),.int .i64 (↑(List.length (List.takeWhile BR x_2)):Int),.bool (decide ((↑(List.length (List.takeWhile BR x_2)):Int)≤(30:Int)))],.top]) (cA GY [AV.int IntKind.u8 (↑(UInt8.toNat c):Int)] fun x_2 y=>Aa (Bj x_2) (cA Lt [.str x,AV.clo (Fn.func (85:Nat)) []] fun x_3 y=>rA It x [.tup [.int .i64 (2:Int),.str (List.takeWhile Bj x_3),.int .i64 (↑(List.length (List.takeWhile Bj x_3)):Int),.bool (decide ((↑(List.length (List.takeWhile Bj x_3)):Int)≤(12:Int)))],.top]) (Aa ((↑(UInt8.toNat c):Int)==(39:Int)) (cA Lx [.str x] fun x_3 y=>rA It x [.tup [.int .i64 (3:Int),.str (DD x_3).1,.int .i64 (↑(List.length (DD x_3).1):Int),.bool (DD x_3).2],.top]) (cA Nx [.str x,.str #[(47:UInt8),(47:UInt8)].toList] fun x_3 y=>Aa (List.take (List.length x_3.2) x_3.1==x_3.2) (cA Lu [.str x,AV.clo (Fn.func (88:Nat)) []] fun x_4 y=>cA NA [.str (List.takeWhile Cl x_4)] fun x_5 y=>cA Iq [.str (List.takeWhile Cl x_4)] fun x_6 y=>rA It x [.tup [.int .i64 (5:Int),.str (CM x_5),.int .i64 (↑(List.length (List.takeWhile Cl x_4)):Int),.bool (List.all x_6 Cm)],.top]) (eA (RK x) [.str x,.int .i64 (min (2:Int) (↑(List.length x):Int))]∧∀(i:Int),Ir x i→Aa (decide (i>(0:Int))) (((0:Int)≤(0:Int)∧(0:Int)≤i∧i≤(↑(List.length x):Int))∧cA HL [.str (List.take (Int.toNat i) x)] fun x_4 y=>Aa (CL x_4) (true=true∧true=true∧((0:Int)≤(0:Int)∧(0:Int)≤i∧i≤(↑(List.length x):Int))∧rA It x [.tup [.int .i64 (4:Int),.str (List.take (Int.toNat i) x),.int .i64 i,.bool true],.top]) (inR IntKind.i64 (i-(1:Int))∧eN (RK x) i [.str x,.int .i64 (i-(1:Int))])) (rA It x [.tup [.int .i64 (0:Int),.str #[].toList,.int .i64 (0:Int),.bool false],.top])))))) (fun x=>by kernel_rfl) fun(x:List UInt8) (hx:1≤x.length∧x.length<2^62)=>(by
 dsimp only[cA,eA,eN,RK,rA,NA,GY,FZ,Iq,HL,Lx,Lt,Ls,Lu,Nx,It,Au,Az,mvL,lnL,mvE,lnE,Br]
 obtain⟨h1,h2⟩:=hx
 have h3:x.length<9223372036854775808:=by omega
 match x,h1,h2,h3 with
 |b::t,h1,h2,h3=>
 (repeat' first|(with_reducible first|rfl|exact True.intro|apply AK|apply And.intro|((first|apply AA|apply AI|apply AB|apply AJ)<;>intro _))|(apply Ax<;>intro _)|apply AH|refine Ae () ?_ ?_|((first|apply AO|apply AN|apply AM|apply AL|apply AG|apply AF|apply AE|apply AD|apply AC)<;>try dsimp only)|apply Ae|(refine Prod.forall.2 ?_;intro _;try dsimp only)|(intro _;try dsimp only))<;>(try dsimp only at*)<;>(try simp only[AQ,List.length_cons,List.length_nil])<;>(try omega)
 all_goals(try simp only[List.getElem?_cons_zero,Option.some.injEq] at*)
 all_goals(try subst_vars)
 all_goals first
  |exact h3
  |(rw[a9A ‹_›];done)
  |(rw[a9B ‹_› ‹_›];done)
  |(rw[a9C ‹_› ‹_› ‹_›];done)
  |(rw[a9D ‹_› ‹_› ‹_› ‹_›];done)
  |(rw[a9w ‹_› h1 ‹_› ‹_›];done)
  |(rw[a9x ‹_› h1 ‹_›];done)
  |exact a9y ‹_› ‹_› ‹_›
  |exact a9z ‹_› ‹_› (by omega) ‹_›
  |exact Nat.lt_of_le_of_lt (List.takeWhile_prefix _).length_le h3
  |(have hI:=(‹Ir _ _› :Ir _ _).1;rw[List.length_cons] at hI;omega)
  |(have hI:=(‹Ir _ _› :Ir _ _).1;rw[List.length_take];omega)
  |trace_state)
def Ga:Sig:= {X:=List UInt8×Int,args:=fun x=>[.str x.1,.int .i64 x.2],pre:=fun x=>x.1.length<2^62,Y:=Unit,post:=fun x y=>True,res:=fun x y=> .bool (Cy x.1 x.2),outs:=fun x y=>[.top,.top],keep:=false}
theorem a1q:Aj G Tryz.prog 139 Ga:=
 vcFun_okP [(131,0,It)] [] false (fun x=>[]) Tryz.func139 rfl (by decide) ⟨b0p,trivial⟩ (fun(x:List UInt8×Int)=>(∀(y:Unit),True→True∧True∧True∧True)∧Aa (x.1== #[].toList) (rA Ga x [.bool false,.top,.top]) (cA It [.str x.1] fun x_1 y=>Aa (Bd x_1).ok (Aa ((Bd x_1).kind==x.2) (Aa ((Bd x_1).text==x.1) (rA Ga x [.bool ((Bd x_1).size==(↑(List.length x.1):Int)),.top,.top]) (rA Ga x [.bool false,.top,.top])) (rA Ga x [.bool false,.top,.top])) (rA Ga x [.bool false,.top,.top]))) (fun x=>by kernel_rfl) fun(x:List UInt8×Int) (hx:x.1.length<2^62)=>(by
 dsimp only[cA,rA,Ga,It,Au,Az,mvL,lnL,mvE,lnE]
 (repeat' first|(with_reducible first|rfl|exact True.intro|apply AK|apply And.intro|((first|apply AA|apply AI|apply AB|apply AJ)<;>intro _))|(apply Ax<;>intro _)|apply AH|refine Ae () ?_ ?_|((first|apply AO|apply AN|apply AM|apply AL|apply AG|apply AF|apply AE|apply AD|apply AC)<;>try dsimp only)|apply Ae|(refine Prod.forall.2 ?_;intro _;try dsimp only)|(intro _;try dsimp only))<;>(try dsimp only at*)<;>(try simp only[AQ,List.length_cons,List.length_nil])<;>(try omega)
 all_goals first
  |exact List.length_pos_iff.2 ‹_›
  |(simp [Cy, *];done)
  |(rw[Bool.eq_iff_iff];simp [Cy, *];done))
def HM:Sig:= {X:=List UInt8,args:=fun x=>[.str x],pre:=fun x=>x.length<2^62,Y:=Unit,post:=fun x y=>True,res:=fun x y=> .bool (DX x),outs:=fun x y=>[.top],keep:=false}
theorem b0q:Aj G Tryz.prog 138 HM:=
 vcFun_okP [(139,0,Ga),(182,0,HK)] [] false (fun x=>[]) Tryz.func138 rfl (by decide) ⟨a1q,b0h,trivial⟩ (fun(x:List UInt8)=>(∀(y:Unit),True→True∧True∧True)∧cA Ga [.str x,.int .i64 (1:Int)] fun x_1 y=>Aa (Cy x_1.1 x_1.2) (cA HK [.str x] fun x_2 y=>rA HM x [.bool !kw x_2,.top]) (rA HM x [.bool false,.top])) (fun x=>by kernel_rfl) fun(x:List UInt8) (hx:x.length<2^62)=>(by
 dsimp only[cA,rA,HK,HM,Ga,Au,Az,mvL,lnL,mvE,lnE]
 (repeat' first|(with_reducible first|rfl|exact True.intro|apply AK|apply And.intro|((first|apply AA|apply AI|apply AB|apply AJ)<;>intro _))|(apply Ax<;>intro _)|apply AH|refine Ae () ?_ ?_|((first|apply AO|apply AN|apply AM|apply AL|apply AG|apply AF|apply AE|apply AD|apply AC)<;>try dsimp only)|apply Ae|(refine Prod.forall.2 ?_;intro _;try dsimp only)|(intro _;try dsimp only))<;>(try dsimp only at*)<;>(try simp only[AQ,List.length_cons,List.length_nil])<;>(try omega)
 all_goals simp [DX, *])
def DN:Sig:= {X:=Nd,args:=fun x=>[.agg (ndA false x)],pre:=fun x=>x.text.length<2^62,Y:=Unit,post:=fun x y=>True,res:=fun x y=> .bool (Fg x.kind x.text),outs:=fun x y=>[.top],keep:=false}
theorem b0r:Aj G Tryz.prog 112 DN:=
 vcFun_okP [(139,0,Ga),(138,0,HM)] [] false (fun x=>[]) Tryz.func112 rfl (by decide) ⟨a1q,b0q,trivial⟩ (fun(x:Nd)=>(∀(y:Unit),True→True∧True∧True)∧Aa (x.kind==(1:Int)) (cA HM [.str x.text] fun x_1 y=>rA DN x [.bool (DX x_1),.top]) (Aa (x.kind==(6:Int)) (cA HM [.str x.text] fun x_1 y=>rA DN x [.bool (DX x_1),.top]) (Aa (x.kind==(12:Int)) (cA HM [.str x.text] fun x_1 y=>rA DN x [.bool (DX x_1),.top]) (Aa (x.kind==(13:Int)) (cA HM [.str x.text] fun x_1 y=>rA DN x [.bool (DX x_1),.top]) (Aa (x.kind==(20:Int)) (cA HM [.str x.text] fun x_1 y=>rA DN x [.bool (DX x_1),.top]) (Aa (x.kind==(21:Int)) (cA HM [.str x.text] fun x_1 y=>rA DN x [.bool (DX x_1),.top]) (Aa (x.kind==(2:Int)) (cA Ga [.str x.text,.int .i64 (2:Int)] fun x_1 y=>rA DN x [.bool (Cy x_1.1 x_1.2),.top]) (Aa (x.kind==(3:Int)) (cA Ga [.str x.text,.int .i64 (3:Int)] fun x_1 y=>rA DN x [.bool (Cy x_1.1 x_1.2),.top]) (Aa (x.kind==(19:Int)) (cA Ga [.str x.text,.int .i64 (5:Int)] fun x_1 y=>rA DN x [.bool (Cy x_1.1 x_1.2),.top]) (Aa (x.kind==(7:Int)) (Aa (x.text== #[(38:UInt8),(38:UInt8)].toList) (rA DN x [.bool true,.top]) (Aa (x.text== #[(124:UInt8),(124:UInt8)].toList) (rA DN x [.bool true,.top]) (Aa (x.text== #[(61:UInt8),(61:UInt8)].toList) (rA DN x [.bool true,.top]) (Aa (x.text== #[(60:UInt8)].toList) (rA DN x [.bool true,.top]) (Aa (x.text== #[(43:UInt8)].toList) (rA DN x [.bool true,.top]) (Aa (x.text== #[(45:UInt8)].toList) (rA DN x [.bool true,.top]) (Aa (x.text== #[(42:UInt8)].toList) (rA DN x [.bool true,.top]) (rA DN x [.bool false,.top])))))))) (rA DN x [.bool (x.text== #[].toList),.top]))))))))))) (fun x=>by kernel_rfl) fun(x:Nd) (hx:x.text.length<2^62)=>(by
 dsimp only[cA,Bu,rA,HM,Ga,DN,Au,Az,mvL,lnL,mvE,lnE]
 (repeat' first|(with_reducible first|rfl|exact True.intro|apply AK|apply And.intro|((first|apply AA|apply AI|apply AB|apply AJ)<;>intro _))|(apply Ax<;>intro _)|apply AH|refine Ae () ?_ ?_|((first|apply AO|apply AN|apply AM|apply AL|apply AG|apply AF|apply AE|apply AD|apply AC)<;>try dsimp only)|apply Ae|(refine Prod.forall.2 ?_;intro _;try dsimp only)|(intro _;try dsimp only))<;>(try dsimp only at*)<;>(try simp only[AQ,List.length_cons,List.length_nil])<;>(try omega)
 all_goals simp [Fg,Pz, *])
def Iu:Sig:= {X:=List UInt8×Int,args:=fun x=>[.str x.1,.int .i64 x.2],pre:=fun x=>0≤x.2∧x.2≤x.1.length∧x.1.length<2^62,Y:=Unit,post:=fun x y=>True,res:=fun x y=> .int .i64 (CE (x.1.drop x.2.toNat)),outs:=fun x y=>[.top,.top],keep:=false}
def RL(x:List UInt8×Int):LS:= {ι:=Int,inv:=fun i=>qI x i,regs:=fun i=>[(0,.str x.1),(1,.int .i64 x.2),(5,.int .i64 i)],als:=[],meas:=fun i=>x.1.length-i.toNat}
theorem a1r:Aj G Tryz.prog 87 Iu:=
 vcFun_okP [(107,0,IZ)] [] false (fun x=>[(2,RL x)]) Tryz.func87 rfl (by decide) ⟨a1b,trivial⟩ (fun(x:List UInt8×Int)=>(∀(y:Unit),True→True∧True∧True∧True)∧inR IntKind.i64 (x.2+(1:Int))∧eA (RL x) [.str x.1,.int .i64 x.2,.int .i64 (x.2+(1:Int))]∧∀(i:Int),qI x i→Aa (decide (i<(↑(List.length x.1):Int))) (((0:Int)≤i∧i<(↑(List.length x.1):Int))∧∀(c:UInt8),x.1[Int.toNat i]? =some c→Aa ((↑(UInt8.toNat c):Int)==(39:Int)) (inR IntKind.i64 (i+(1:Int))∧inR IntKind.i64 (i+(1:Int)-x.2)∧rA Iu x [.int .i64 (i+(1:Int)-x.2),.top,.top]) (((0:Int)≤i∧i<(↑(List.length x.1):Int))∧∀(c:UInt8),x.1[Int.toNat i]? =some c→cA IZ [AV.int IntKind.u8 (↑(UInt8.toNat c):Int)] fun x_1 y=>Aa (!Cm x_1) (rA Iu x [.int .i64 (0:Int),.top,.top]) (inR IntKind.i64 (i+(1:Int))∧eN (RL x) i [.str x.1,.int .i64 x.2,.int .i64 (i+(1:Int))]))) (rA Iu x [.int .i64 (0:Int),.top,.top])) (fun x=>by kernel_rfl) fun(x:List UInt8×Int) (hx:0≤x.2∧x.2≤x.1.length∧x.1.length<2^62)=>(by
 dsimp only[cA,eA,eN,RL,rA,IZ,Iu,Au,Az,mvL,lnL,mvE,lnE,Br]
 obtain⟨h1,h2,h3⟩:=hx
 (repeat' first|(with_reducible first|rfl|exact True.intro|apply AK|apply And.intro|((first|apply AA|apply AI|apply AB|apply AJ)<;>intro _))|(apply Ax<;>intro _)|apply AH|refine Ae () ?_ ?_|((first|apply AO|apply AN|apply AM|apply AL|apply AG|apply AF|apply AE|apply AD|apply AC)<;>try dsimp only)|apply Ae|(refine Prod.forall.2 ?_;intro _;try dsimp only)|(intro _;try dsimp only))<;>(try dsimp only at*)<;>(try simp only[AQ,List.length_cons,List.length_nil])<;>(try omega)
 all_goals first
  |exact a9L
  |exact a9N h1 ‹_› ‹_› ‹_›
  |exact a9O h1 ‹_› ‹_› ‹_› ‹_› ‹_›
  |exact a9P h1 ‹_› ‹_› ‹_› ‹_› ‹_› ‹_›
  |exact a9Q h1 ‹_› ‹_›
  |(have hI:=a9M ‹_›;omega))
def GZ:Sig:= {X:=List UInt8×Int,args:=fun x=>[.str x.1,.int .i64 x.2],pre:=fun x=>0≤x.2∧x.2≤x.1.length∧x.1.length<2^62,Y:=Unit,post:=fun x y=>True,res:=fun x y=> .int .i64 (Cv (x.1.drop x.2.toNat)),outs:=fun x y=>[.top,.top],keep:=false}
def RM(x:List UInt8×Int):LS:= {ι:=Int,inv:=fun i=>nI x i,regs:=fun i=>[(0,.str x.1),(1,.int .i64 x.2),(5,.int .i64 i)],als:=[],meas:=fun i=>x.1.length-i.toNat}
theorem a1s:Aj G Tryz.prog 83 GZ:=
 vcFun_okP [(107,0,IZ)] [] false (fun x=>[(4,RM x)]) Tryz.func83 rfl (by decide) ⟨a1b,trivial⟩ (fun(x:List UInt8×Int)=>(∀(y:Unit),True→True∧True∧True∧True)∧inR IntKind.i64 (x.2+(2:Int))∧Aa (decide (x.2+(2:Int)>(↑(List.length x.1):Int))) (rA GZ x [.int .i64 (0:Int),.top,.top]) (inR IntKind.i64 (x.2+(2:Int))∧((0:Int)≤x.2∧x.2≤x.2+(2:Int)∧x.2+(2:Int)≤(↑(List.length x.1):Int))∧Aa (!List.drop (Int.toNat x.2) (List.take (Int.toNat (x.2+(2:Int))) x.1)== #[(47:UInt8),(47:UInt8)].toList) (rA GZ x [.int .i64 (0:Int),.top,.top]) (eA (RM x) [.str x.1,.int .i64 x.2,.int .i64 x.2]∧∀(i:Int),nI x i→Aa (decide (i<(↑(List.length x.1):Int))) (((0:Int)≤i∧i<(↑(List.length x.1):Int))∧∀(c:UInt8),x.1[Int.toNat i]? =some c→Aa ((↑(UInt8.toNat c):Int) != (10:Int)) (((0:Int)≤i∧i<(↑(List.length x.1):Int))∧∀(c:UInt8),x.1[Int.toNat i]? =some c→cA IZ [AV.int IntKind.u8 (↑(UInt8.toNat c):Int)] fun x_1 y=>Aa (!Cm x_1) (rA GZ x [.int .i64 (0:Int),.top,.top]) (inR IntKind.i64 (i+(1:Int))∧eN (RM x) i [.str x.1,.int .i64 x.2,.int .i64 (i+(1:Int))])) (inR IntKind.i64 (i-x.2)∧rA GZ x [.int .i64 (i-x.2),.top,.top])) (inR IntKind.i64 (i-x.2)∧rA GZ x [.int .i64 (i-x.2),.top,.top])))) (fun x=>by kernel_rfl) fun(x:List UInt8×Int) (hx:0≤x.2∧x.2≤x.1.length∧x.1.length<2^62)=>(by
 dsimp only[cA,eA,eN,RM,rA,GZ,IZ,Au,Az,mvL,lnL,mvE,lnE,Br]
 obtain⟨h1,h2,h3⟩:=hx
 (repeat' first|(with_reducible first|rfl|exact True.intro|apply AK|apply And.intro|((first|apply AA|apply AI|apply AB|apply AJ)<;>intro _))|(apply Ax<;>intro _)|apply AH|refine Ae () ?_ ?_|((first|apply AO|apply AN|apply AM|apply AL|apply AG|apply AF|apply AE|apply AD|apply AC)<;>try dsimp only)|apply Ae|(refine Prod.forall.2 ?_;intro _;try dsimp only)|(intro _;try dsimp only))<;>(try dsimp only at*)<;>(try simp only[AQ,List.length_cons,List.length_nil])<;>(try omega)
 all_goals first
  |exact a9T h1 ‹_›
  |exact a9S h1 ‹_›
  |exact a9R h1 h2 ‹_›
  |exact a9U h1 ‹_› ‹_› ‹_› ‹_› ‹_›
  |exact a9V h1 ‹_› ‹_› ‹_› ‹_› ‹_› ‹_›
  |exact a9W h1 ‹_› ‹_› ‹_›
  |exact a9X h1 ‹_› ‹_›
  |(have hI:=(‹nI _ _› :nI _ _).1;omega))
def Gb:Sig:= {X:=List UInt8,args:=fun x=>[.str x],pre:=fun x=>x.length<2^62,Y:=Unit,post:=fun x y=>True,res:=fun x y=> .bool (DX x),outs:=fun x y=>[.top],keep:=false}
def PD(x:List UInt8):LS:= {ι:=Int,inv:=fun i=>nmI x i,regs:=fun i=>[(0,.str x),(3,.int .i64 i)],als:=[],meas:=fun i=>x.length-i.toNat}
theorem b0s:Aj G Tryz.prog 153 Gb:=
 vcFun_okP [(46,0,CP),(85,0,Fh),(89,0,Gw),(86,0,EQ)] [] false (fun x=>[(4,PD x)]) Tryz.func153 rfl (by decide) ⟨Kw,a1a,Wk,RF,trivial⟩ (fun(x:List UInt8)=>(∀(y:Unit),True→True∧True∧True)∧cA CP [.int .i64 (↑(List.length x):Int),.int .i64 (1:Int),.int .i64 (30:Int)] fun x_1 y=>Aa (!inn x_1.1 x_1.2.1 x_1.2.2) (rA Gb x [.bool false,.top]) (((0:Int)≤(0:Int)∧(0:Int)<(↑(List.length x):Int))∧∀(c:UInt8),x[(0:Nat)]? =some c→cA Fh [AV.int IntKind.u8 (↑(UInt8.toNat c):Int)] fun x_2 y=>Aa (!Cx x_2) (rA Gb x [.bool false,.top]) (cA Gw [.str x] fun x_3 y=>Aa (kw x_3) (rA Gb x [.bool false,.top]) (eA (PD x) [.str x,.int .i64 (0:Int)]∧∀(i:Int),nmI x i→Aa (decide (i<(↑(List.length x):Int))) (((0:Int)≤i∧i<(↑(List.length x):Int))∧∀(c:UInt8),x[Int.toNat i]? =some c→cA Fh [AV.int IntKind.u8 (↑(UInt8.toNat c):Int)] fun x_4 y=>Aa (!Cx x_4) (((0:Int)≤i∧i<(↑(List.length x):Int))∧∀(c:UInt8),x[Int.toNat i]? =some c→cA EQ [AV.int IntKind.u8 (↑(UInt8.toNat c):Int)] fun x_5 y=>Aa (!Bj x_5) (rA Gb x [.bool false,.top]) (inR IntKind.i64 (i+(1:Int))∧eN (PD x) i [.str x,.int .i64 (i+(1:Int))])) (inR IntKind.i64 (i+(1:Int))∧eN (PD x) i [.str x,.int .i64 (i+(1:Int))])) (rA Gb x [.bool true,.top]))))) (fun x=>by kernel_rfl) fun(x:List UInt8) (hx:x.length<2^62)=>(by
 dsimp only[cA,eA,eN,PD,rA,CP,EQ,Fh,Gb,Gw,Au,Az,mvL,lnL,mvE,lnE,Br]
 have hp:∀h:inn x.length 1 30=true,1≤x.length:=fun h=>by simp [inn] at h;omega
 (repeat' first|(with_reducible first|rfl|exact True.intro|apply AK|apply And.intro|((first|apply AA|apply AI|apply AB|apply AJ)<;>intro _))|(apply Ax<;>intro _)|apply AH|refine Ae () ?_ ?_|((first|apply AO|apply AN|apply AM|apply AL|apply AG|apply AF|apply AE|apply AD|apply AC)<;>try dsimp only)|apply Ae|(refine Prod.forall.2 ?_;intro _;try dsimp only)|(intro _;try dsimp only))<;>(try dsimp only at*)<;>(try simp only[AQ,List.length_cons,List.length_nil])<;>(try omega)
 all_goals(try(have:=hp ‹_›;omega))
 all_goals(try(have hI:=(‹nmI _ _› :nmI _ _).1;omega))
 ·rename_i h;exact Wj (fun hh=>by rw[hh.1] at h;cases h)
 ·rename_i c hc _ _ h;exact Wj (fun hh=>by rw[a1m hc,h] at hh;cases hh.2.1)
 ·rename_i h;exact Wj (fun hh=>by rw[hh.2.2] at h;cases h)
 ·rename_i h1 c hc _ _ h2 _ _ h3;exact a9Y h1 (by rw[a1m hc];exact h2) h3
 ·rename_i i hi hl c hc _ _ h1 d hd _ _ h2
  rw[hc] at hd;cases hd
  exact a9Z hi hc (by simp [BR,h1,h2])
 ·rename_i i hi hl c hc _ _ h1 d hd _ _ h2
  rw[hc] at hd;cases hd
  exact a1n hi hc hl (by simp [BR,h2])
 ·rename_i i hi hl c hc _ _ h1
  exact a1n hi hc hl (by simp [BR,h1])
 ·exact b0a ‹_› ‹_›)
def Ly:Sig:= {X:=List UInt8,args:=fun x=>[.str x],pre:=fun x=>x.length<2^62,Y:=Unit,post:=fun x y=>True,res:=fun x y=> .bool (Cy x 2),outs:=fun x y=>[.top],keep:=false}
theorem b0t:Aj G Tryz.prog 154 Ly:=
 vcFun_okP [(46,0,CP),(86,0,EQ)] [] false (fun x=>[(2,Eg Bj x fun i=>[(0,.str x),(3,.int .i64 i)])]) Tryz.func154 rfl (by decide) ⟨Kw,RF,trivial⟩ (fun(x:List UInt8)=>(∀(y:Unit),True→True∧True∧True)∧eA (Eg Bj x fun(i:Int)=>[((0:Nat),.str x),((3:Nat),.int .i64 i)]) [.str x,.int .i64 (0:Int)]∧∀(i:Int),((0:Int)≤i∧i≤(↑(List.length x):Int)∧∀(e:UInt8),e∈List.take (Int.toNat i) x→Bj e=true)→Aa (decide (i<(↑(List.length x):Int))) (((0:Int)≤i∧i<(↑(List.length x):Int))∧∀(c:UInt8),x[Int.toNat i]? =some c→cA EQ [AV.int IntKind.u8 (↑(UInt8.toNat c):Int)] fun x_1 y=>Aa (!Bj x_1) (rA Ly x [.bool false,.top]) (inR IntKind.i64 (i+(1:Int))∧eN (Eg Bj x fun(i:Int)=>[((0:Nat),.str x),((3:Nat),.int .i64 i)]) i [.str x,.int .i64 (i+(1:Int))])) (cA CP [.int .i64 (↑(List.length x):Int),.int .i64 (1:Int),.int .i64 (12:Int)] fun x_1 y=>rA Ly x [.bool (inn x_1.1 x_1.2.1 x_1.2.2),.top])) (fun x=>by kernel_rfl) fun(x:List UInt8) (hx:x.length<2^62)=>(by
 dsimp only[cA,eA,eN,Eg,rA,CP,EQ,Ly,Au,Az,mvL,lnL,mvE,lnE,Br]
 (repeat' first|(with_reducible first|rfl|exact True.intro|apply AK|apply And.intro|((first|apply AA|apply AI|apply AB|apply AJ)<;>intro _))|(apply Ax<;>intro _)|apply AH|refine Ae () ?_ ?_|((first|apply AO|apply AN|apply AM|apply AL|apply AG|apply AF|apply AE|apply AD|apply AC)<;>try dsimp only)|apply Ae|(refine Prod.forall.2 ?_;intro _;try dsimp only)|(intro _;try dsimp only))<;>(try dsimp only at*)<;>(try simp only[AQ,List.length_cons,List.length_nil])<;>(try omega)
 ·rename_i h;simp at h
 ·rename_i i hi hl c hc _ _ h;rw[We,RA hc h];rfl
 ·rename_i i hi hl c hc _ _ h e he
  rw[Da hi.1] at he;exact PA hi.2.2 hc h e he
 ·rename_i i hi hl _ _;rw[We,VY hi.2.2 (by omega)];simp only[Bool.true_and,inn];rw[Bool.eq_iff_iff];simp;omega)
def Kx:Sig:= {X:=List UInt8,args:=fun x=>[.str x],pre:=fun x=>x.length<2^62,Y:=Unit,post:=fun x y=>True,res:=fun x y=> .bool (Cy x 3),outs:=fun x y=>[.top],keep:=false}
theorem b0u:Aj G Tryz.prog 155 Kx:=
 vcFun_okP [(87,0,Iu)] [] false (fun x=>[]) Tryz.func155 rfl (by decide) ⟨a1r,trivial⟩ (fun(x:List UInt8)=>(∀(y:Unit),True→True∧True∧True)∧Aa (decide ((↑(List.length x):Int)>(1:Int))) (((0:Int)≤(0:Int)∧(0:Int)<(↑(List.length x):Int))∧∀(c:UInt8),x[(0:Nat)]? =some c→Aa ((↑(UInt8.toNat c):Int)==(39:Int)) (cA Iu [.str x,.int .i64 (0:Int)] fun x_1 y=>rA Kx x [.bool ((↑(CE (List.drop (Int.toNat x_1.2) x_1.1)):Int)==(↑(List.length x):Int)),.top]) (rA Kx x [.bool false,.top])) (rA Kx x [.bool false,.top])) (fun x=>by kernel_rfl) fun(x:List UInt8) (hx:x.length<2^62)=>(by
 dsimp only[cA,rA,Iu,Kx,Au,Az,mvL,lnL,mvE,lnE]
 (repeat' first|(with_reducible first|rfl|exact True.intro|apply AK|apply And.intro|((first|apply AA|apply AI|apply AB|apply AJ)<;>intro _))|(apply Ax<;>intro _)|apply AH|refine Ae () ?_ ?_|((first|apply AO|apply AN|apply AM|apply AL|apply AG|apply AF|apply AE|apply AD|apply AC)<;>try dsimp only)|apply Ae|(refine Prod.forall.2 ?_;intro _;try dsimp only)|(intro _;try dsimp only))<;>(try dsimp only at*)<;>(try simp only[AQ,List.length_cons,List.length_nil])<;>(try omega)
 ·exact b0b ‹_› ‹_› ‹_›
 ·exact b0c ‹_› ‹_›
 ·exact b0d ‹_›)
def Ky:Sig:= {X:=List UInt8,args:=fun x=>[.str x],pre:=fun x=>x.length<2^62,Y:=Unit,post:=fun x y=>True,res:=fun x y=> .bool (Cy x 5),outs:=fun x y=>[.top],keep:=false}
theorem b0v:Aj G Tryz.prog 156 Ky:=
 vcFun_okP [(83,0,GZ),(84,0,Ja)] [] false (fun x=>[]) Tryz.func156 rfl (by decide) ⟨a1s,a1o,trivial⟩ (fun(x:List UInt8)=>(∀(y:Unit),True→True∧True∧True)∧Aa (decide ((↑(List.length x):Int)>(1:Int))) (cA GZ [.str x,.int .i64 (0:Int)] fun x_1 y=>Aa ((↑(Cv (List.drop (Int.toNat x_1.2) x_1.1)):Int)==(↑(List.length x):Int)) (cA Ja [.str x] fun x_2 y=>rA Ky x [.bool (CM x_2==x),.top]) (rA Ky x [.bool false,.top])) (rA Ky x [.bool false,.top])) (fun x=>by kernel_rfl) fun(x:List UInt8) (hx:x.length<2^62)=>(by
 dsimp only[cA,rA,GZ,Ky,Ja,Au,Az,mvL,lnL,mvE,lnE]
 (repeat' first|(with_reducible first|rfl|exact True.intro|apply AK|apply And.intro|((first|apply AA|apply AI|apply AB|apply AJ)<;>intro _))|(apply Ax<;>intro _)|apply AH|refine Ae () ?_ ?_|((first|apply AO|apply AN|apply AM|apply AL|apply AG|apply AF|apply AE|apply AD|apply AC)<;>try dsimp only)|apply Ae|(refine Prod.forall.2 ?_;intro _;try dsimp only)|(intro _;try dsimp only))<;>(try dsimp only at*)<;>(try simp only[AQ,List.length_cons,List.length_nil])<;>(try omega)
 ·exact b0e ‹_› ‹_›
 ·exact b0f ‹_›
 ·exact b0g ‹_›)
def Ha:Sig:= {X:=List UInt8,args:=fun x=>[.str x],pre:=fun x=>x.length<2^62,Y:=Unit,post:=fun x y=>True,res:=fun x y=> .bool (Pz x),outs:=fun x y=>[.top],keep:=false}
theorem b0w:Aj G Tryz.prog 157 Ha:=
 vcFun_okP [] [] false (fun x=>[]) Tryz.func157 rfl (by decide) trivial (fun(x:List UInt8)=>(∀(y:Unit),True→True∧True∧True)∧Aa (x== #[(38:UInt8),(38:UInt8)].toList) (rA Ha x [.bool true,.top]) (Aa (x== #[(124:UInt8),(124:UInt8)].toList) (rA Ha x [.bool true,.top]) (Aa (x== #[(61:UInt8),(61:UInt8)].toList) (rA Ha x [.bool true,.top]) (Aa (x== #[(60:UInt8)].toList) (rA Ha x [.bool true,.top]) (Aa (x== #[(43:UInt8)].toList) (rA Ha x [.bool true,.top]) (Aa (x== #[(45:UInt8)].toList) (rA Ha x [.bool true,.top]) (Aa (x== #[(42:UInt8)].toList) (rA Ha x [.bool true,.top]) (rA Ha x [.bool false,.top])))))))) (fun x=>by kernel_rfl) fun(x:List UInt8) (hx:x.length<2^62)=>(by
 dsimp only[rA,Ha,Au,Az]
 (repeat' first|(with_reducible first|rfl|exact True.intro|apply AK|apply And.intro|((first|apply AA|apply AI|apply AB|apply AJ)<;>intro _))|(apply Ax<;>intro _)|apply AH|refine Ae () ?_ ?_|((first|apply AO|apply AN|apply AM|apply AL|apply AG|apply AF|apply AE|apply AD|apply AC)<;>try dsimp only)|apply Ae|(refine Prod.forall.2 ?_;intro _;try dsimp only)|(intro _;try dsimp only))<;>(try dsimp only at*)<;>(try simp only[AQ,List.length_cons,List.length_nil])<;>(try omega)
 all_goals simp [Pz, *])
def FD:Sig:= {X:=Int×List UInt8,args:=fun x=>[.int .i64 x.1,.str x.2],pre:=fun x=>x.2.length<2^62,Y:=Unit,post:=fun x y=>True,res:=fun x y=> .bool (Fg x.1 x.2),outs:=fun x y=>[.top,.top],keep:=false}
theorem b0x:Aj G Tryz.prog 128 FD:=
 vcFun_okP [(153,0,Gb),(154,0,Ly),(155,0,Kx),(156,0,Ky),(157,0,Ha)] [] false (fun x=>[]) Tryz.func128 rfl (by decide) ⟨b0s,b0t,b0u,b0v,b0w,trivial⟩ (fun(x:Int×List UInt8)=>(∀(y:Unit),True→True∧True∧True∧True)∧Aa (x.1==(1:Int)) (cA Gb [.str x.2] fun x_1 y=>rA FD x [.bool (DX x_1),.top,.top]) (Aa (x.1==(6:Int)) (cA Gb [.str x.2] fun x_1 y=>rA FD x [.bool (DX x_1),.top,.top]) (Aa (x.1==(12:Int)) (cA Gb [.str x.2] fun x_1 y=>rA FD x [.bool (DX x_1),.top,.top]) (Aa (x.1==(13:Int)) (cA Gb [.str x.2] fun x_1 y=>rA FD x [.bool (DX x_1),.top,.top]) (Aa (x.1==(20:Int)) (cA Gb [.str x.2] fun x_1 y=>rA FD x [.bool (DX x_1),.top,.top]) (Aa (x.1==(21:Int)) (cA Gb [.str x.2] fun x_1 y=>rA FD x [.bool (DX x_1),.top,.top]) (Aa (x.1==(2:Int)) (cA Ly [.str x.2] fun x_1 y=>rA FD x [.bool (Cy x_1 (2:Int)),.top,.top]) (Aa (x.1==(3:Int)) (cA Kx [.str x.2] fun x_1 y=>rA FD x [.bool (Cy x_1 (3:Int)),.top,.top]) (Aa (x.1==(19:Int)) (cA Ky [.str x.2] fun x_1 y=>rA FD x [.bool (Cy x_1 (5:Int)),.top,.top]) (Aa (x.1==(7:Int)) (cA Ha [.str x.2] fun x_1 y=>rA FD x [.bool (Pz x_1),.top,.top]) (rA FD x [.bool (x.2== #[].toList),.top,.top]))))))))))) (fun x=>by kernel_rfl) fun(x:Int×List UInt8) (hx:x.2.length<2^62)=>(by
 dsimp only[cA,rA,Ha,Gb,Ky,Ly,Kx,FD,Au,Az,mvL,lnL,mvE,lnE]
 (repeat' first|(with_reducible first|rfl|exact True.intro|apply AK|apply And.intro|((first|apply AA|apply AI|apply AB|apply AJ)<;>intro _))|(apply Ax<;>intro _)|apply AH|refine Ae () ?_ ?_|((first|apply AO|apply AN|apply AM|apply AL|apply AG|apply AF|apply AE|apply AD|apply AC)<;>try dsimp only)|apply Ae|(refine Prod.forall.2 ?_;intro _;try dsimp only)|(intro _;try dsimp only))<;>(try dsimp only at*)<;>(try simp only[AQ,List.length_cons,List.length_nil])<;>(try omega)
 all_goals simp [Fg, *])
end Go.My
end
section
namespace Go.My
open Go.Eng
def FE(k:Int):Int×Int:=
 if k=4∨k=18∨k=21∨k=22 then(0,12)
 else if k=5∨k=9∨k=20 then(1,12)
 else if k=6∨k=11∨k=13∨k=14 then(1,1)
 else if k=7∨k=10 then(2,12)
 else if k=8 then(3,3)
 else if k=12∨k=15 then(0,1)
 else if k=16 then(2,3)
 else if k=17 then(2,2)
 else(0,0)
def Hb(k n i y:Int):Bool:=
 if k=9 then(if i+1<n then EA y else BG y)
 else if k=20 then(if i+1<n then EA y else CU y)
 else if k=10 then(if 0<i then FY y else BG y)
 else if k=16∨k=17 then(if 0<i then CU y else BG y)
 else if k=18 then DT y
 else if k=21 then Ez y
 else if k=22 then FA y
 else BG y
def Lz(ns:List Nd)(x:Nd)(i c:Int):Bool:=
 Hb x.kind x.kids.length i (As ns c)&&(if x.kind=10∧0<i then decide (As ns ((ndAt ns c).kids.headD 0)=1) else true)
def DY(ns:List Nd)(x:Nd)(i c:Int):Bool:=
 (!(decide (As ns c=5)&&(decide ((ndAt ns c).kids.length=0)|| !Bz ns ((ndAt ns c).kids.headD 0))))&&Lz ns x i c
def BW(f:Int→Int→Bool):List Int→Int→Bool
 |[],_=>true
 |c::l,i=>f i c&&BW f l (i+1)
theorem Wl{f g:Int→Int→Bool}:∀ {l:List Int} {i:Int},(∀j c,i≤j→j<i+l.length→c∈l→f j c=g j c)→BW f l i=BW g l i
 |[],i,h=>rfl
 |c::l,i,h=>by
  simp only[BW]
  rw[h i c (Int.le_refl i) (by simp;omega) (by simp),Wl (fun j c hj hl hc=>h j c (by omega) (by simp;omega) (by simp [hc]))]
theorem a1t{f g:Int→Int→Bool}:∀ {l:List Int} {i:Int},BW (fun i c=>f i c&&g i c) l i=(BW f l i&&BW g l i)
 |[],i=>rfl
 |c::l,i=>by
  simp only[BW];rw[a1t]
  cases f i c<;>cases g i c<;>cases BW f l (i+1)<;>cases BW g l (i+1)<;>rfl
theorem RN{f:Int→Bool}:∀ {l:List Int} {i:Int},BW (fun _ c=>f c) l i=l.all f
 |[],i=>rfl
 |c::l,i=>by simp only[BW,List.all_cons];rw[RN]
theorem a1u{f:Int→Int→Bool}{g:Int→Int}:∀ {l:List Int} {i:Int},BW f (l.map g) i=BW (fun i c=>f i (g c)) l i
 |[],i=>rfl
 |c::l,i=>by simp only[BW,List.map_cons];rw[a1u]
theorem a1v{f:Int→Int→Bool}:∀ {l m:List Int} {i:Int},BW f (l++m) i=(BW f l i&&BW f m (i+l.length))
 |[],m,i=>by simp [BW]
 |c::l,m,i=>by
  simp only[List.cons_append,BW];rw[a1v,Bool.and_assoc]
  congr 2;congr 1;simp;omega
theorem Wm{f:Int→Int→Bool}:∀ {l:List Int} {i:Nat},((l.zipIdx i).all fun p=>f p.2 p.1)=BW f l i
 |[],i=>rfl
 |c::l,i=>by
  simp only[List.zipIdx_cons,List.all_cons,BW];rw[Wm];congr 2
theorem Wn{f:Int→Int→Bool}{l:List Int}:BW f l 0=true↔∀(j:Nat) c,l[j]? =some c→f j c=true:=by
 have:∀(l:List Int) (i:Nat),BW f l i=true↔∀(j:Nat) c,l[j]? =some c→f (i+j:Nat) c=true:=by
  intro l
  induction l with
  |nil=>intro i;simp [BW]
  |cons c l ih=>
   intro i
   simp only[BW,Bool.and_eq_true]
   have:=ih (i+1)
   rw[show((i:Int)+1)=((i+1:Nat):Int) from by omega,this]
   constructor
   ·rintro⟨h1,h2⟩ j d hd
    cases j with
    |zero=>simp at hd;subst hd;simpa using h1
    |succ j=>have:=h2 j d (by simpa using hd);rwa [show i+1+j=i+(j+1) by omega] at this
   ·intro h
    refine⟨by simpa using h 0 c rfl,fun j d hd=> ?_⟩
    have:=h (j+1) d (by simpa using hd)
    rwa [show i+(j+1)=i+1+j by omega] at this
 have:=this l 0
 simpa using this
theorem b0y{l:List Int}{k:Int}(h:l.getLast? =some k):l=l.dropLast++[k]:=by
 have hne:l≠[]:=by intro e;rw[e] at h;cases h
 rw[List.getLast?_eq_some_getLast hne] at h
 have:=List.dropLast_concat_getLast hne
 rw[Option.some.inj h] at this;exact this.symm
theorem a1w{p:Int→Bool}{l:List Int}:(decide (1≤l.length)&&BW (fun i y=>if i+1<(l.length:Int) then EA y else p y) l 0)=EP p l:=by
 unfold EP
 cases h:l.getLast? with
 |none=>have:l=[]:=by simpa using h
        subst this;rfl
 |some k=>
  have e:=b0y h
  generalize hd:l.dropLast=m at e ⊢
  subst e
  rw[a1v]
  have h1:BW (fun i y=>if i+1<((m++[k]).length:Int) then EA y else p y) m 0=m.all EA:=by
   rw[←RN (i:=0)]
   exact Wl fun j c h0 hj hc=>if_pos (by simp;omega)
  rw[h1]
  simp only[BW]
  have h2:¬((0:Int)+m.length+1<((m++[k]).length:Int)):=by simp
  rw[if_neg h2]
  have:decide (1≤(m++[k]).length)=true:=by simp
  rw[this];simp [Bool.and_comm]
theorem a1x{p q:Int→Bool}{c:Int}{l:List Int}:BW (fun i y=>if 0<i then q y else p y) (c::l) 0=(p c&&l.all q):=by
 simp only[BW]
 have h1:¬((0:Int)<0):=by omega
 rw[if_neg h1]
 congr 1
 rw[←RN (i:=0+1)]
 exact Wl fun j c h0 hj hc=>if_pos (by omega)
theorem b0z{k:Int}{l:List Int}(h1:1≤k)(h2:k≤22):(inn l.length (FE k).1 (FE k).2&&BW (fun i y=>Hb k l.length i y) l 0)=(decide (l.length≤12)&&Cd k l):=by
 have hk:k=1∨k=2∨k=3∨k=4∨k=5∨k=6∨k=7∨k=8∨k=9∨k=10∨k=11∨k=12∨k=13∨k=14∨k=15∨k=16∨k=17∨k=18∨k=19∨k=20∨k=21∨k=22:=by omega
 have len0:∀ {b c:Bool},l.length=0→(l=[]):=fun h=>List.length_eq_zero_iff.1 h
 rcases hk with rfl|rfl|rfl|rfl|rfl|rfl|rfl|rfl|rfl|rfl|rfl|rfl|rfl|rfl|rfl|rfl|rfl|rfl|rfl|rfl|rfl|rfl
 all_goals simp only[FE,Hb,Cd,inn,Int.reduceEq,or_self,or_false,false_or,or_true,true_or,if_true,if_false,reduceIte]
 all_goals try(
  by_cases h:l.length=0
  ·have:=List.length_eq_zero_iff.1 h;subst this;rfl
  ·have e1:decide ((l.length:Int)≤0)=false:=decide_eq_false (by omega)
   have e2:decide (l.length=0)=false:=decide_eq_false h
   simp only[e1,e2,Bool.and_false,Bool.false_and];done)
 all_goals try rw[RN]
 all_goals try(
  generalize l.all _=b
  rw[Bool.eq_iff_iff];cases b<;>simp only[Bool.and_eq_true,decide_eq_true_eq,Bool.false_eq_true,and_false,and_true]<;>omega)
 ·rw[show decide (1≤(l.length:Int))=decide (1≤l.length) from decide_eq_decide.2 (by omega),show decide ((l.length:Int)≤12)=decide (l.length≤12) from decide_eq_decide.2 (by omega),←a1w (p:=BG)]
  generalize BW _ l 0=b
  cases decide (1≤l.length)<;>cases decide (l.length≤12)<;>cases b<;>rfl
 ·cases l with
  |nil=>rfl
  |cons c l=>
   rw[a1x]
   simp only[List.headD_cons,List.drop_succ_cons,List.drop_zero]
   generalize BG c=b;generalize l.all _=d
   rw[Bool.eq_iff_iff];cases b<;>cases d<;>simp only[Bool.and_eq_true,decide_eq_true_eq,Bool.false_eq_true,and_false,and_true]<;>omega
 ·cases l with
  |nil=>rfl
  |cons c l=>
   rw[a1x]
   simp only[List.headD_cons,List.drop_succ_cons,List.drop_zero]
   generalize BG c=b;generalize l.all _=d
   rw[Bool.eq_iff_iff];cases b<;>cases d<;>simp only[Bool.and_eq_true,decide_eq_true_eq,Bool.false_eq_true,and_false,and_true]<;>omega
 ·match l with
  |[]=>rfl
  |[c]=>rfl
  |[c,d]=>simp [BW]
  |c::d::e::l=>
   have e1:decide (((c::d::e::l).length:Int)≤2)=false:=decide_eq_false (by simp;omega)
   have e2:decide ((c::d::e::l).length=2)=false:=decide_eq_false (by simp)
   rw[e1,e2];simp
 ·rw[show decide (1≤(l.length:Int))=decide (1≤l.length) from decide_eq_decide.2 (by omega),show decide ((l.length:Int)≤12)=decide (l.length≤12) from decide_eq_decide.2 (by omega),←a1w (p:=CU)]
  generalize BW _ l 0=b
  cases decide (1≤l.length)<;>cases decide (l.length≤12)<;>cases b<;>rfl
theorem b0A{k:Int}{l:List Int}(h:inn k 1 22=false):Cd k l=false:=by
 have h:¬(1≤k∧k≤22):=by intro hh;simp [inn] at h;omega
 unfold Cd
 have e:∀j:Int,1≤j→j≤22→k≠j:=fun j h1 h2 e=>h (by omega)
 simp [e]
theorem b0B{ns:List Nd}{x:Nd}{i c:Int}:DY ns x i c=(Hb x.kind x.kids.length i (As ns c)&&CD ns x i.toNat c):=by
 unfold DY Lz CD As
 generalize hy:ndAt ns c=y
 by_cases h5:y.kind=5
 ·simp only[h5,if_true,decide_true,Bool.true_and]
  cases hk:y.kids with
  |nil=>simp
  |cons h t=>
   simp only[List.length_cons,List.headD_cons]
   have e0:decide (t.length+1=0)=false:=by simp
   rw[e0]
   by_cases hx:x.kind=10∧0<i
   ·have hi:0<i.toNat:=by omega
    simp only[hx,and_self,if_true,decide_true,Bool.true_and,hi]
    generalize Hb 10 _ _ _=a;generalize Bz ns h=b
    by_cases hd:(ndAt ns h).kind=1<;>cases a<;>cases b<;>simp [hd]
   ·rw[if_neg hx]
    have:(decide (x.kind=10)&&(decide (0<i.toNat)&& !decide ((ndAt ns h).kind=1)))=false:=by
     by_cases h1:x.kind=10
     ·have:¬0<i.toNat:=by omega
      simp [this]
     ·simp [h1]
    rw[this]
    generalize Hb _ _ _ _=a;generalize Bz ns h=b
    cases a<;>cases b<;>rfl
 ·simp only[h5,if_false,decide_false,Bool.false_and,Bool.not_false,Bool.true_and,Bool.and_true]
  by_cases hx:x.kind=10∧0<i
  ·rw[if_pos hx]
   have:Hb x.kind x.kids.length i y.kind=false:=by
    simp [Hb,hx,FY,h5]
   rw[this];rfl
  ·rw[if_neg hx];simp
theorem b0C{ns:List Nd}{k:Int}{x:Nd}:FB ns k x=
 (inn x.kind 1 22&&(inn x.kids.length (FE x.kind).1 (FE x.kind).2&&(Fg x.kind x.text&&((HJ x.kind|| !x.blank)&&((DE x.kids k&&decide x.kids.Nodup)&&BW (DY ns x) x.kids 0))))):=by
 have e1:BW (DY ns x) x.kids 0=(BW (fun i y=>Hb x.kind (x.kids.map (As ns)).length i y) (x.kids.map (As ns)) 0&&DL ns x):=by
  have:(DY ns x)=fun i c=>(Hb x.kind x.kids.length i (As ns c)&&CD ns x i.toNat c):=by
   funext i c;exact b0B
  rw[this,a1t,a1u,List.length_map]
  congr 1
  unfold DL
  have:(fun p:Int×Nat=>CD ns x p.2 p.1)=fun p:Int×Nat=>(fun(i c:Int)=>CD ns x i.toNat c) p.2 p.1:=by
   funext p;simp
  rw[this]
  exact(Wm (f:=fun i c=>CD ns x i.toNat c) (i:=0)).symm
 unfold FB
 by_cases h:inn x.kind 1 22=true
 ·have hb:= @b0z x.kind (x.kids.map (As ns)) (by simp [inn] at h;omega) (by simp [inn] at h;omega)
  rw[List.length_map] at hb
  rw[e1,List.length_map,h]
  generalize decide (x.kids.length≤12)=a at hb ⊢;generalize Cd x.kind _=b at hb ⊢;generalize inn _ _ _=c at hb ⊢
  generalize BW _ _ 0=d at hb ⊢;generalize Fg _ _=e;generalize HJ _=f;generalize DL _ _=g;generalize DE _ _=h1;generalize decide x.kids.Nodup=h2
  cases a<;>cases b<;>cases c<;>cases d<;>simp at hb<;>cases e<;>cases f<;>cases g<;>cases h1<;>cases h2<;>simp
 ·simp only[Bool.not_eq_true] at h
  rw[b0A h,h];simp
end Go.My
end
