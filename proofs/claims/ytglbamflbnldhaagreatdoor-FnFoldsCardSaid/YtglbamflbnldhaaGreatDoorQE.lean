/- joined -/
import Derived.Test.YtglbamflbnldhaaGreatDoorQD
import Derived.Test.YtglbamflbnldhaaGreatDoorProg
import Derived.WalkKit
import Derived.Lib.Bytealg
import Derived.Laws.Externs
set_option linter.unusedSimpArgs false
set_option linter.unusedVariables false
section
namespace Go.My
open Go.Eng
def inn(x a b:Int):Bool:=decide (a≤x)&&decide (x≤b)
def BK(l:List Nd)(k:Int):Bool:=decide (0≤k)&&decide (k<l.length)
def BH(k:Int):Bool:=inn k 1 11
def Jv(k:Int):Bool:=inn k 12 17
def EN(k:Int):Bool:=decide (k=12)||(decide (k=20)||decide (k=19))
def CR(k:Int):Bool:=decide (k=18)
def Ew(k:Int):Bool:=decide (k=1)
def FU(k:Int):Bool:=decide (k=5)
def DS(k:Int):Bool:=Jv k||decide (k=19)
def GR(k:Int):Bool:=EN k||decide (k=21)
def EO(p:Int→Bool)(ks:List Int):Bool:=match ks.getLast? with
 |some k=>p k&&ks.dropLast.all Ew
 |none=>false
def Ci(k:Int)(ks:List Int):Bool:=
 if k=1∨k=2∨k=3∨k=19 then decide (ks.length=0)
 else if k=4 then ks.all BH
 else if k=5 then decide (1≤ks.length)&&ks.all BH
 else if k=7 then decide (2≤ks.length)&&ks.all BH
 else if k=8 then decide (ks.length=3)&&ks.all BH
 else if k=6∨k=11∨k=13∨k=14 then decide (ks.length=1)&&ks.all BH
 else if k=12∨k=15 then decide (ks.length≤1)&&ks.all BH
 else if k=9 then EO BH ks
 else if k=10 then decide (2≤ks.length)&&(BH (ks.headD 0)&&(ks.drop 1).all FU)
 else if k=16 then(decide (2≤ks.length)&&decide (ks.length≤3))&&(BH (ks.headD 0)&&(ks.drop 1).all CR)
 else if k=17 then decide (ks.length=2)&&(BH (ks.headD 0)&&CR (ks.getD 1 0))
 else if k=18 then ks.all DS
 else if k=20 then EO CR ks
 else if k=21 then ks.all EN
 else if k=22 then ks.all GR
 else false
def Aa(ns:List Nd)(c:Int):Nd:=ns.getD c.toNat ⟨0,[],[],false⟩
def AS(ns:List Nd)(c:Int):Int:=(Aa ns c).kind
def CV(ns:List Nd)(x:Nd)(i:Nat)(c:Int):Bool:=
 let y:=Aa ns c
 if y.kind=5 then match y.kids with
  |[]=>false
  |h::_=>BK ns h&& !(decide (x.kind=10)&&(decide (0<i)&& !decide (AS ns h=1)))
 else true
def EP(ns:List Nd)(x:Nd):Bool:=(x.kids.zipIdx).all fun p=>CV ns x p.2 p.1
def DT(l:List Int)(k:Int):Bool:=l.all fun c=>decide (0≤c)&&decide (c<k)
def HZ(k:Int):Bool:=Jv k||(EN k||decide (k=21))
def GS(ns:List Nd)(k:Int)(x:Nd):Bool:=
 decide (x.kids.length≤12)&&(Ev x.kind x.text&&((DT x.kids k&&decide x.kids.Nodup)&&(Ci x.kind (x.kids.map (AS ns))&&(EP ns x&&(HZ x.kind|| !x.blank)))))
def BQ(ns:List Nd)(k:Int):Bool:=BK ns k&&GS ns k (Aa ns k)
def mx(ds:List Int):List Int→Int→Int
 |[],d=>d
 |c::l,d=>mx ds l (max d (ds.getD c.toNat 0))
def CJ(ns:List Nd):Nat→Option (List Int)
 |0=>some []
 |n+1=>match CJ ns n with
  |none=>none
  |some ds=>if BQ ns n then(if 14≤mx ds (Aa ns n).kids 0 then none else some (ds++[mx ds (Aa ns n).kids 0+1])) else none
def Bz(ns:List Nd)(k:Int):Int:=if BK ns k then match CJ ns (k.toNat+1) with
    |none=>0
    |some ds=>ds.getD k.toNat 0
 else 0
def BW(ns:List Nd):List Int:=ns.flatMap (·.kids)
def BB(ns:List Nd):Bool:=
 (decide (1≤ns.length)&&decide (ns.length≤300))&&(decide (AS ns (ns.length-1)=22)&&(!decide (Bz ns (ns.length-1)=0)&&((List.range (ns.length-1)).all fun i=>decide ((BW ns).count (i:Int)=1))))
theorem BX{l:List Nd}{k:Int}:BK l k=true↔0≤k∧k<l.length:=by simp [BK]
theorem Bo{ns:List Nd}{c:Int}{x:Nd}(h:ns[c.toNat]? =some x):Aa ns c=x:=by
 simp [Aa,List.getD,h]
theorem Rl(ds:List Int):∀(l:List Int) (d:Int),d≤mx ds l d
 |[],d=>Int.le_refl d
 |c::l,d=>by unfold mx;have:=Rl ds l (max d (ds.getD c.toNat 0));omega
theorem Jw{ns:List Nd}:∀ {n:Nat} {ds:List Int},CJ ns n=some ds→ds.length=n
 |0,ds,h=>by cases h;rfl
 |n+1,ds,h=>by
  unfold CJ at h
  split at h
  ·cases h
  ·rename_i ds' hd
   split at h
   ·split at h
    ·cases h
    ·simp at h;rw[←h];simp [Jw hd]
   ·cases h
theorem Pv{ns:List Nd}:∀ {n:Nat} {ds:List Int},CJ ns n=some ds→∀d∈ds,1≤d∧d≤14
 |0,ds,h=>by cases h;simp
 |n+1,ds,h=>by
  unfold CJ at h
  split at h
  ·cases h
  ·rename_i ds' hd
   split at h
   ·split at h
    ·cases h
    ·simp at h;rw[←h]
     intro d hdm
     rcases List.mem_append.1 hdm with hdm|hdm
     ·exact Pv hd d hdm
     ·simp at hdm
      have:=Rl ds' (Aa ns n).kids 0
      omega
   ·cases h
theorem a0c{ns:List Nd}:∀ {n:Nat} {ds:List Int},CJ ns n=some ds→∀i,i<n→BQ ns i=true
 |0,ds,h,i,hi=>by omega
 |n+1,ds,h,i,hi=>by
  unfold CJ at h
  split at h
  ·cases h
  ·rename_i ds' hd
   split at h
   ·rename_i hok
    by_cases e:i=n
    ·subst e;exact hok
    ·exact a0c hd i (by omega)
   ·cases h
theorem a0d{ns:List Nd}{n m:Nat}(h:CJ ns n=none)(hm:n≤m):CJ ns m=none:=by
 induction m with
 |zero=>obtain rfl:n=0:=by omega
        exact h
 |succ m ih=>
  by_cases e:n=m+1
  ·subst e;exact h
  ·unfold CJ;rw[ih (by omega)]
theorem Nt{ns:List Nd}{k:Int}(h:Bz ns k≠0):BK ns k=true∧(∃ds,CJ ns (k.toNat+1)=some ds)∧∀i:Nat,(i:Int)≤k→BQ ns i=true:=by
 unfold Bz at h
 split at h
 ·rename_i hn
  split at h
  ·exact(h rfl).elim
  ·rename_i ds hd
   exact⟨hn,⟨ds,hd⟩,fun i hi=>a0c hd i (by have:=BX.1 hn;omega)⟩
 ·exact(h rfl).elim
theorem a0e{ns:List Nd}{k:Int}:0≤Bz ns k:=by
 unfold Bz
 split
 ·split
  ·exact Int.le_refl 0
  ·rename_i ds hd
   rw[List.getD]
   cases h:ds[k.toNat]? with
   |none=>simp
   |some d=>have:=Pv hd d (List.mem_of_getElem? h);simp;omega
 ·exact Int.le_refl 0
theorem Vz{ns:List Nd}{k:Int}{ds:List Int}(hn:BK ns k=true)(h:CJ ns (k.toNat+1)=some ds):Bz ns k≠0:=by
 unfold Bz
 rw[if_pos hn,h]
 have hl:=Jw h
 have:ds[k.toNat]? =some ds[k.toNat]:=by simp
 simp only[List.getD,this,Option.getD_some]
 have:=Pv h ds[k.toNat] (by simp)
 omega
theorem DZ{ns:List Nd}{k:Int}(h:BQ ns k=true):(0≤k∧k<ns.length)∧(Aa ns k).kids.length≤12∧Ev (Aa ns k).kind (Aa ns k).text=true∧
 (∀c∈(Aa ns k).kids,0≤c∧c<k)∧(Aa ns k).kids.Nodup∧Ci (Aa ns k).kind ((Aa ns k).kids.map (AS ns))=true∧EP ns (Aa ns k)=true:=by
 simp only[BQ,GS,Bool.and_eq_true,decide_eq_true_eq,DT,List.all_eq_true] at h
 exact⟨BX.1 h.1,h.2.1,h.2.2.1,h.2.2.2.1.1,h.2.2.2.1.2,h.2.2.2.2.1,h.2.2.2.2.2.1⟩
end Go.My
end
section
namespace Go.My
open Go.Eng Go.Proofs Go.RowKit
variable {G:GInv}
def CL(s:List UInt8)(c:UInt8):Int:=match DX (fun d=>decide (d.toNat=c.toNat)) s with
 |none=> -1
 |some i=>i
theorem a0f:∀(s:List UInt8) (c:UInt8),Lib.indexByte s c=CL s c
 |[],c=>rfl
 |b::s,c=>by
  unfold Lib.indexByte CL DX
  have e:(b==c)=decide (b.toNat=c.toNat):=by
   rw[Bool.eq_iff_iff];simp [UInt8.toNat_inj]
  rw[e]
  by_cases h:b.toNat=c.toNat
  ·simp [h]
  ·have ih:=a0f s c
   unfold CL at ih
   simp only[h,decide_false,Bool.false_eq_true,if_false]
   rw[ih]
   cases hh:DX (fun d=>decide (d.toNat=c.toNat)) s with
   |none=>simp
   |some i=>simp
set_option maxHeartbeats 1000000 in
set_option maxRecDepth 100000 in
theorem a8j(s:ByteArray)(c:Int)(w:World):
 Calls Tryz.prog 212 #[.string s,.int .u8 c] w fun e w'=>e= .returned (.int .i64 (Lib.indexByte s.data.toList c.toNat.toUInt8))∧w'=w:=by
 go_enter Tryz.func212,Tryz.ntmps212
 go_wp2
 rw[run_callFunc_extern Tryz.func228 (by kernel_rfl) (by kernel_rfl) (by kernel_rfl) (e:=Extern.BytealgIndexByte.indexByte) (by kernel_rfl),Lib.run_indexByteString]
 simp only[Result.andThen]
 rw[Oper.upon_value]
 go_wp2
 go_ret
 exact⟨rfl,rfl⟩
def Nu:Sig:= {X:=List UInt8×UInt8,args:=fun x=>[.str x.1,.int .u8 x.2.toNat],pre:=fun _=>True,Y:=Unit,post:=fun _ _=>True,res:=fun x _=> .int .i64 (CL x.1 x.2),outs:=fun _ _=>[.top,.top],keep:=false}
theorem VA:Al G Tryz.prog 212 Nu:=by
 refine⟨⟨⟨_,Tryz.func212,by kernel_rfl,by kernel_rfl⟩,fun x y _ _=>⟨trivial,trivial,trivial,trivial⟩⟩,?_⟩
 rintro⟨l,c⟩ _ Z w vals A _ h hA _
 simp only[Nu,AY,Aj] at h
 obtain⟨v,cs,A1,A2,rfl,_,⟨rfl,_⟩,v',cs',A3,A4,rfl,_,⟨rfl,_⟩,rfl,_⟩:=h
 refine(a8j ⟨l.toArray⟩ c.toNat w).mono ?_
 rintro e w' ⟨rfl,rfl⟩
 refine⟨(),_,Z,(fun _=>False),trivial,rfl,?_,⟨rfl,rfl,rfl,Nat.le_refl _,fun _ _ _=>⟨rfl,Iff.rfl⟩,fun _ h=>h.elim⟩⟩
 simp only[Nu,AY,Aj]
 refine⟨_,_,_,_,rfl,BV _,⟨?_,AP⟩,_,_,_,_,rfl,BV _,AP,_,_,_,_,rfl,BV _,AP,rfl,AP⟩
 rw[a0f];simp
def Rm:Sig:= {X:=List UInt8,args:=fun x=>[.str x,.int .u8 39],pre:=fun _=>True,Y:=Unit,post:=fun _ _=>True,res:=fun x _=> .int .i64 (CL x 39),outs:=fun _ _=>[.top,.top],keep:=false}
theorem a8k:Al G Tryz.prog 212 Rm:=⟨⟨(VA (G:=G)).1.1,fun x y _ _=>⟨trivial,trivial,trivial,trivial⟩⟩,fun x hx=>(VA (G:=G)).2 (x,39) trivial⟩
def Nv:Sig:= {X:=List UInt8,args:=fun x=>[.str x,.int .u8 39],pre:=fun x=>True,Y:=Unit,post:=fun x y=>True,res:=fun x y=> .int .i64 (CL x 39),outs:=fun x y=>[.top,.top],keep:=false}
theorem a8l:Al G Tryz.prog 191 Nv:=
 vcFun_okP [(212,0,Rm)] [] false (fun x=>[]) Tryz.func191 rfl (by decide) ⟨a8k,trivial⟩ (fun(x:List UInt8)=>(∀(y:Unit),True→True∧True∧True∧True)∧cA Rm [.str x,AV.int IntKind.u8 (39:Int)] fun x_1 y=>rA Nv x [.int .i64 (CL x_1 (39:UInt8)),.top,.top]) (fun x=>by kernel_rfl) fun(x:List UInt8) (hx:True)=>(by
 dsimp only[cA,rA,Rm,Nv,Aw,Az,mvL,lnL,mvE,lnE]
 (repeat' first|(with_reducible first|rfl|exact True.intro|apply AK|apply And.intro|((first|apply AA|apply AI|apply AB|apply AJ)<;>intro _))|(apply Ax<;>intro _)|apply AH|refine Af () ?_ ?_|((first|apply AO|apply AN|apply AM|apply AL|apply AG|apply AF|apply AE|apply AD|apply AC)<;>try dsimp only)|apply Af|(refine Prod.forall.2 ?_;intro _;try dsimp only)|(intro _;try dsimp only))<;>(try dsimp only at*)<;>(try simp only[AQ,List.length_cons,List.length_nil])<;>(try omega))
def Jx:Sig:= {X:=List UInt8×List UInt8,args:=fun x=>[.str x.1,.str x.2],pre:=fun x=>x.2.length=1,Y:=Unit,post:=fun x y=>True,res:=fun x y=> .int .i64 (CL x.1 (x.2.headD 0)),outs:=fun x y=>[.top,.top],keep:=false}
theorem a8m:Al G Tryz.prog 232 Jx:=
 vcFun_okP [(212,0,Nu)] [] false (fun x=>[]) Tryz.func232 rfl (by decide) ⟨VA,trivial⟩ (fun(x:List UInt8×List UInt8)=>(∀(y:Unit),True→True∧True∧True∧True)∧Ab ((↑(List.length x.2):Int)==(0:Int)) (rA Jx x [.int .i64 (0:Int),.top,.top]) (Ab (x.2==x.1) (rA Jx x [.int .i64 (0:Int),.top,.top]) (Ab ((↑(List.length x.2):Int)==(1:Int)) (((0:Int)≤(0:Int)∧(0:Int)<(↑(List.length x.2):Int))∧∀(c:UInt8),x.2[(0:Nat)]? =some c→cA Nu [.str x.1,AV.int IntKind.u8 (↑(UInt8.toNat c):Int)] fun x_1 y=>rA Jx x [.int .i64 (CL x_1.1 x_1.2),.top,.top]) (Ab (decide ((↑(List.length x.2):Int)≥(↑(List.length x.1):Int))) (rA Jx x [.int .i64 (-1:Int),.top,.top]) False)))) (fun x=>by kernel_rfl) fun(x:List UInt8×List UInt8) (hx:x.2.length=1)=>(by
 dsimp only[cA,rA,Nu,Jx,Aw,Az,mvL,lnL,mvE,lnE]
 (repeat' first|(with_reducible first|rfl|exact True.intro|apply AK|apply And.intro|((first|apply AA|apply AI|apply AB|apply AJ)<;>intro _))|(apply Ax<;>intro _)|apply AH|refine Af () ?_ ?_|((first|apply AO|apply AN|apply AM|apply AL|apply AG|apply AF|apply AE|apply AD|apply AC)<;>try dsimp only)|apply Af|(refine Prod.forall.2 ?_;intro _;try dsimp only)|(intro _;try dsimp only))<;>(try dsimp only at*)<;>(try simp only[AQ,List.length_cons,List.length_nil])<;>(try omega)
 ·rename_i _ h;rw[←h];match x.2,hx with
  |[c],_=>simp [CL,DX]
 ·rename_i c hc _ _
  match x.2,hx,hc with
  |[d],_,hc=>simp at hc;rw[←hc];rfl)
def Nw:Sig:= {X:=List UInt8×List UInt8,args:=fun x=>[.str x.1,.str x.2],pre:=fun x=>x.2.length=1,Y:=Unit,post:=fun x y=>True,res:=fun x y=> .int .i64 (CL x.1 (x.2.headD 0)),outs:=fun x y=>[.top,.top],keep:=false}
theorem a8n:Al G Tryz.prog 217 Nw:=
 vcFun_okP [(232,0,Jx)] [] false (fun x=>[]) Tryz.func217 rfl (by decide) ⟨a8m,trivial⟩ (fun(x:List UInt8×List UInt8)=>(∀(y:Unit),True→True∧True∧True∧True)∧cA Jx [.str x.1,.str x.2] fun x_1 y=>rA Nw x [.int .i64 (CL x_1.1 (List.headD x_1.2 (0:UInt8))),.top,.top]) (fun x=>by kernel_rfl) fun(x:List UInt8×List UInt8) (hx:x.2.length=1)=>(by
 dsimp only[cA,rA,Nw,Jx,Aw,Az,mvL,lnL,mvE,lnE]
 (repeat' first|(with_reducible first|rfl|exact True.intro|apply AK|apply And.intro|((first|apply AA|apply AI|apply AB|apply AJ)<;>intro _))|(apply Ax<;>intro _)|apply AH|refine Af () ?_ ?_|((first|apply AO|apply AN|apply AM|apply AL|apply AG|apply AF|apply AE|apply AD|apply AC)<;>try dsimp only)|apply Af|(refine Prod.forall.2 ?_;intro _;try dsimp only)|(intro _;try dsimp only))<;>(try dsimp only at*)<;>(try simp only[AQ,List.length_cons,List.length_nil])<;>(try omega))
def Nx:Sig:= {X:=List UInt8×List UInt8,args:=fun x=>[.str x.1,.str x.2],pre:=fun x=>x.2.length=1,Y:=Unit,post:=fun x y=>True,res:=fun x y=> .bool (decide (CL x.1 (x.2.headD 0)≥0)),outs:=fun x y=>[.top,.top],keep:=false}
theorem a8o:Al G Tryz.prog 194 Nx:=
 vcFun_okP [(217,0,Nw)] [] false (fun x=>[]) Tryz.func194 rfl (by decide) ⟨a8n,trivial⟩ (fun(x:List UInt8×List UInt8)=>(∀(y:Unit),True→True∧True∧True∧True)∧cA Nw [.str x.1,.str x.2] fun x_1 y=>rA Nx x [.bool (decide (CL x_1.1 (List.headD x_1.2 (0:UInt8))≥(0:Int))),.top,.top]) (fun x=>by kernel_rfl) fun(x:List UInt8×List UInt8) (hx:x.2.length=1)=>(by
 dsimp only[cA,rA,Nx,Nw,Aw,Az,mvL,lnL,mvE,lnE]
 (repeat' first|(with_reducible first|rfl|exact True.intro|apply AK|apply And.intro|((first|apply AA|apply AI|apply AB|apply AJ)<;>intro _))|(apply Ax<;>intro _)|apply AH|refine Af () ?_ ?_|((first|apply AO|apply AN|apply AM|apply AL|apply AG|apply AF|apply AE|apply AD|apply AC)<;>try dsimp only)|apply Af|(refine Prod.forall.2 ?_;intro _;try dsimp only)|(intro _;try dsimp only))<;>(try dsimp only at*)<;>(try simp only[AQ,List.length_cons,List.length_nil])<;>(try omega))
def Lu:Sig:= {X:=List UInt8×List UInt8,args:=fun x=>[.str x.1,.str x.2],pre:=fun x=>x.2.length<2^62∧x.1.length<2^63,Y:=Unit,post:=fun x y=>True,res:=fun x y=> .bool (x.1.take x.2.length==x.2),outs:=fun x y=>[.top,.top],keep:=false}
theorem a8p:Al G Tryz.prog 192 Lu:=
 vcFun_okP [] [] false (fun x=>[]) Tryz.func192 rfl (by decide) trivial (fun(x:List UInt8×List UInt8)=>(∀(y:Unit),True→True∧True∧True∧True)∧Ab (decide ((↑(List.length x.1):Int)≥(↑(List.length x.2):Int))) (((0:Int)≤(0:Int)∧(0:Int)≤(↑(List.length x.2):Int)∧(↑(List.length x.2):Int)≤(↑(List.length x.1):Int))∧rA Lu x [.bool (List.take (Int.toNat (↑(List.length x.2):Int)) x.1==x.2),.top,.top]) (rA Lu x [.bool false,.top,.top])) (fun x=>by kernel_rfl) fun(x:List UInt8×List UInt8) (hx:x.2.length<2^62∧x.1.length<2^63)=>(by
 dsimp only[rA,Lu,Aw,Az]
 obtain⟨h1,h2⟩:=hx
 (repeat' first|(with_reducible first|rfl|exact True.intro|apply AK|apply And.intro|((first|apply AA|apply AI|apply AB|apply AJ)<;>intro _))|(apply Ax<;>intro _)|apply AH|refine Af () ?_ ?_|((first|apply AO|apply AN|apply AM|apply AL|apply AG|apply AF|apply AE|apply AD|apply AC)<;>try dsimp only)|apply Af|(refine Prod.forall.2 ?_;intro _;try dsimp only)|(intro _;try dsimp only))<;>(try dsimp only at*)<;>(try simp only[AQ,List.length_cons,List.length_nil])<;>(try omega)
 ·simp
 ·rename_i h;rw[eq_comm,beq_eq_false_iff_ne];intro e;have:=congrArg List.length e;simp at this;omega)
def Ny:Sig:= {X:=List UInt8×List UInt8,args:=fun x=>[.str x.1,.str x.2],pre:=fun x=>x.2.length<2^62∧x.1.length<2^63,Y:=Unit,post:=fun x y=>True,res:=fun x y=> .bool (x.1.take x.2.length==x.2),outs:=fun x y=>[.top,.top],keep:=false}
theorem a8q:Al G Tryz.prog 164 Ny:=
 vcFun_okP [(192,0,Lu)] [] false (fun x=>[]) Tryz.func164 rfl (by decide) ⟨a8p,trivial⟩ (fun(x:List UInt8×List UInt8)=>(∀(y:Unit),True→True∧True∧True∧True)∧cA Lu [.str x.1,.str x.2] fun x_1 y=>rA Ny x [.bool (List.take (List.length x_1.2) x_1.1==x_1.2),.top,.top]) (fun x=>by kernel_rfl) fun(x:List UInt8×List UInt8) (hx:x.2.length<2^62∧x.1.length<2^63)=>(by
 dsimp only[cA,rA,Ny,Lu,Aw,Az,mvL,lnL,mvE,lnE]
 obtain⟨h1,h2⟩:=hx
 (repeat' first|(with_reducible first|rfl|exact True.intro|apply AK|apply And.intro|((first|apply AA|apply AI|apply AB|apply AJ)<;>intro _))|(apply Ax<;>intro _)|apply AH|refine Af () ?_ ?_|((first|apply AO|apply AN|apply AM|apply AL|apply AG|apply AF|apply AE|apply AD|apply AC)<;>try dsimp only)|apply Af|(refine Prod.forall.2 ?_;intro _;try dsimp only)|(intro _;try dsimp only))<;>(try dsimp only at*)<;>(try simp only[AQ,List.length_cons,List.length_nil])<;>(try omega))
end Go.My
end
section
namespace Go.My
open Go.Eng Go.Proofs
variable {G:GInv}
def DE:Sig:= {X:=Int×Int×Int,args:=fun x=>[.int .i64 x.1,.int .i64 x.2.1,.int .i64 x.2.2],pre:=fun x=>True,Y:=Unit,post:=fun x y=>True,res:=fun x y=> .bool (inn x.1 x.2.1 x.2.2),outs:=fun x y=>[.top,.top,.top],keep:=false}
theorem Nz:Al G Tryz.prog 66 DE:=
 vcFun_okP [] [] false (fun x=>[]) Tryz.func66 rfl (by decide) trivial (fun(x:Int×Int×Int)=>(∀(y:Unit),True→True∧True∧True∧True∧True)∧Ab (decide (x.1≥x.2.1)) (rA DE x [.bool (decide (x.1≤x.2.2)),.top,.top,.top]) (rA DE x [.bool false,.top,.top,.top])) (fun x=>by kernel_rfl) fun(x:Int×Int×Int) (hx:True)=>(by
 dsimp only[rA,DE,Aw,Az]
 (repeat' first|(with_reducible first|rfl|exact True.intro|apply AK|apply And.intro|((first|apply AA|apply AI|apply AB|apply AJ)<;>intro _))|(apply Ax<;>intro _)|apply AH|refine Af () ?_ ?_|((first|apply AO|apply AN|apply AM|apply AL|apply AG|apply AF|apply AE|apply AD|apply AC)<;>try dsimp only)|apply Af|(refine Prod.forall.2 ?_;intro _;try dsimp only)|(intro _;try dsimp only))<;>(try dsimp only at*)<;>(try simp only[AQ,List.length_cons,List.length_nil])<;>(try omega)
 all_goals simp [inn, *])
def CN:Sig:= {X:=Int×Int×Int,args:=fun x=>[.int .i64 x.1,.int .i64 x.2.1,.int .i64 x.2.2],pre:=fun x=>True,Y:=Unit,post:=fun x y=>True,res:=fun x y=> .bool (inn x.1 x.2.1 x.2.2),outs:=fun x y=>[.top,.top,.top],keep:=false}
theorem Kx:Al G Tryz.prog 46 CN:=
 vcFun_okP [] [] false (fun x=>[]) Tryz.func46 rfl (by decide) trivial (fun(x:Int×Int×Int)=>(∀(y:Unit),True→True∧True∧True∧True∧True)∧Ab (decide (x.1≥x.2.1)) (rA CN x [.bool (decide (x.1≤x.2.2)),.top,.top,.top]) (rA CN x [.bool false,.top,.top,.top])) (fun x=>by kernel_rfl) fun(x:Int×Int×Int) (hx:True)=>(by
 dsimp only[rA,CN,Aw,Az]
 (repeat' first|(with_reducible first|rfl|exact True.intro|apply AK|apply And.intro|((first|apply AA|apply AI|apply AB|apply AJ)<;>intro _))|(apply Ax<;>intro _)|apply AH|refine Af () ?_ ?_|((first|apply AO|apply AN|apply AM|apply AL|apply AG|apply AF|apply AE|apply AD|apply AC)<;>try dsimp only)|apply Af|(refine Prod.forall.2 ?_;intro _;try dsimp only)|(intro _;try dsimp only))<;>(try dsimp only at*)<;>(try simp only[AQ,List.length_cons,List.length_nil])<;>(try omega)
 all_goals simp [inn, *])
def GT:Sig:= {X:=UInt8,args:=fun x=>[.int .u8 x.toNat],pre:=fun x=>True,Y:=Unit,post:=fun x y=>True,res:=fun x y=> .bool (Bg x),outs:=fun x y=>[.top],keep:=false}
theorem VB:Al G Tryz.prog 162 GT:=
 vcFun_okP [] [] false (fun x=>[]) Tryz.func162 rfl (by decide) trivial (fun(x:UInt8)=>(∀(y:Unit),True→True∧True∧True)∧Ab (decide ((↑(UInt8.toNat x):Int)≥(48:Int))) (rA GT x [.bool (decide ((↑(UInt8.toNat x):Int)≤(57:Int))),.top]) (rA GT x [.bool false,.top])) (fun x=>by kernel_rfl) fun(x:UInt8) (hx:True)=>(by
 dsimp only[rA,GT,Aw,Az]
 (repeat' first|(with_reducible first|rfl|exact True.intro|apply AK|apply And.intro|((first|apply AA|apply AI|apply AB|apply AJ)<;>intro _))|(apply Ax<;>intro _)|apply AH|refine Af () ?_ ?_|((first|apply AO|apply AN|apply AM|apply AL|apply AG|apply AF|apply AE|apply AD|apply AC)<;>try dsimp only)|apply Af|(refine Prod.forall.2 ?_;intro _;try dsimp only)|(intro _;try dsimp only))<;>(try dsimp only at*)<;>(try simp only[AQ,List.length_cons,List.length_nil])<;>(try omega)
 all_goals(rw[Bool.eq_iff_iff];simp only[Bg,Bool.and_eq_true,Bool.or_eq_true,decide_eq_true_eq,Bool.not_eq_true',decide_eq_false_iff_not,bne_iff_ne,ne_eq,beq_iff_eq,Bool.not_not,reduceCtorEq,Bool.false_eq_true,true_iff,false_iff,iff_true,iff_false,not_true,not_false_eq_true]<;>omega))
def EQ:Sig:= {X:=UInt8,args:=fun x=>[.int .u8 x.toNat],pre:=fun x=>True,Y:=Unit,post:=fun x y=>True,res:=fun x y=> .bool (Bg x),outs:=fun x y=>[.top],keep:=false}
theorem Rn:Al G Tryz.prog 86 EQ:=
 vcFun_okP [] [] false (fun x=>[]) Tryz.func86 rfl (by decide) trivial (fun(x:UInt8)=>(∀(y:Unit),True→True∧True∧True)∧Ab (decide ((↑(UInt8.toNat x):Int)≥(48:Int))) (rA EQ x [.bool (decide ((↑(UInt8.toNat x):Int)≤(57:Int))),.top]) (rA EQ x [.bool false,.top])) (fun x=>by kernel_rfl) fun(x:UInt8) (hx:True)=>(by
 dsimp only[rA,EQ,Aw,Az]
 (repeat' first|(with_reducible first|rfl|exact True.intro|apply AK|apply And.intro|((first|apply AA|apply AI|apply AB|apply AJ)<;>intro _))|(apply Ax<;>intro _)|apply AH|refine Af () ?_ ?_|((first|apply AO|apply AN|apply AM|apply AL|apply AG|apply AF|apply AE|apply AD|apply AC)<;>try dsimp only)|apply Af|(refine Prod.forall.2 ?_;intro _;try dsimp only)|(intro _;try dsimp only))<;>(try dsimp only at*)<;>(try simp only[AQ,List.length_cons,List.length_nil])<;>(try omega)
 all_goals(rw[Bool.eq_iff_iff];simp only[Bg,Bool.and_eq_true,Bool.or_eq_true,decide_eq_true_eq,Bool.not_eq_true',decide_eq_false_iff_not,bne_iff_ne,ne_eq,beq_iff_eq,Bool.not_not,reduceCtorEq,Bool.false_eq_true,true_iff,false_iff,iff_true,iff_false,not_true,not_false_eq_true]<;>omega))
def FV:Sig:= {X:=UInt8,args:=fun x=>[.int .u8 x.toNat],pre:=fun x=>True,Y:=Unit,post:=fun x y=>True,res:=fun x y=> .bool (Cw x),outs:=fun x y=>[.top],keep:=false}
theorem a0g:Al G Tryz.prog 159 FV:=
 vcFun_okP [] [] false (fun x=>[]) Tryz.func159 rfl (by decide) trivial (fun(x:UInt8)=>(∀(y:Unit),True→True∧True∧True)∧Ab (decide ((↑(UInt8.toNat x):Int)≥(97:Int))) (Ab (decide ((↑(UInt8.toNat x):Int)≤(122:Int))) (rA FV x [.bool true,.top]) (Ab (decide ((↑(UInt8.toNat x):Int)≥(65:Int))) (Ab (decide ((↑(UInt8.toNat x):Int)≤(90:Int))) (rA FV x [.bool true,.top]) (rA FV x [.bool ((↑(UInt8.toNat x):Int)==(95:Int)),.top])) (rA FV x [.bool ((↑(UInt8.toNat x):Int)==(95:Int)),.top]))) (Ab (decide ((↑(UInt8.toNat x):Int)≥(65:Int))) (Ab (decide ((↑(UInt8.toNat x):Int)≤(90:Int))) (rA FV x [.bool true,.top]) (rA FV x [.bool ((↑(UInt8.toNat x):Int)==(95:Int)),.top])) (rA FV x [.bool ((↑(UInt8.toNat x):Int)==(95:Int)),.top]))) (fun x=>by kernel_rfl) fun(x:UInt8) (hx:True)=>(by
 dsimp only[rA,FV,Aw,Az]
 (repeat' first|(with_reducible first|rfl|exact True.intro|apply AK|apply And.intro|((first|apply AA|apply AI|apply AB|apply AJ)<;>intro _))|(apply Ax<;>intro _)|apply AH|refine Af () ?_ ?_|((first|apply AO|apply AN|apply AM|apply AL|apply AG|apply AF|apply AE|apply AD|apply AC)<;>try dsimp only)|apply Af|(refine Prod.forall.2 ?_;intro _;try dsimp only)|(intro _;try dsimp only))<;>(try dsimp only at*)<;>(try simp only[AQ,List.length_cons,List.length_nil])<;>(try omega)
 all_goals(rw[Bool.eq_iff_iff];simp only[Cw,Bool.and_eq_true,Bool.or_eq_true,decide_eq_true_eq,Bool.not_eq_true',decide_eq_false_iff_not,bne_iff_ne,ne_eq,beq_iff_eq,Bool.not_not,reduceCtorEq,Bool.false_eq_true,true_iff,false_iff,iff_true,iff_false,not_true,not_false_eq_true]<;>omega))
def Fe:Sig:= {X:=UInt8,args:=fun x=>[.int .u8 x.toNat],pre:=fun x=>True,Y:=Unit,post:=fun x y=>True,res:=fun x y=> .bool (Cw x),outs:=fun x y=>[.top],keep:=false}
theorem a0h:Al G Tryz.prog 85 Fe:=
 vcFun_okP [] [] false (fun x=>[]) Tryz.func85 rfl (by decide) trivial (fun(x:UInt8)=>(∀(y:Unit),True→True∧True∧True)∧Ab (decide ((↑(UInt8.toNat x):Int)≥(97:Int))) (Ab (decide ((↑(UInt8.toNat x):Int)≤(122:Int))) (rA Fe x [.bool true,.top]) (Ab (decide ((↑(UInt8.toNat x):Int)≥(65:Int))) (Ab (decide ((↑(UInt8.toNat x):Int)≤(90:Int))) (rA Fe x [.bool true,.top]) (rA Fe x [.bool ((↑(UInt8.toNat x):Int)==(95:Int)),.top])) (rA Fe x [.bool ((↑(UInt8.toNat x):Int)==(95:Int)),.top]))) (Ab (decide ((↑(UInt8.toNat x):Int)≥(65:Int))) (Ab (decide ((↑(UInt8.toNat x):Int)≤(90:Int))) (rA Fe x [.bool true,.top]) (rA Fe x [.bool ((↑(UInt8.toNat x):Int)==(95:Int)),.top])) (rA Fe x [.bool ((↑(UInt8.toNat x):Int)==(95:Int)),.top]))) (fun x=>by kernel_rfl) fun(x:UInt8) (hx:True)=>(by
 dsimp only[rA,Fe,Aw,Az]
 (repeat' first|(with_reducible first|rfl|exact True.intro|apply AK|apply And.intro|((first|apply AA|apply AI|apply AB|apply AJ)<;>intro _))|(apply Ax<;>intro _)|apply AH|refine Af () ?_ ?_|((first|apply AO|apply AN|apply AM|apply AL|apply AG|apply AF|apply AE|apply AD|apply AC)<;>try dsimp only)|apply Af|(refine Prod.forall.2 ?_;intro _;try dsimp only)|(intro _;try dsimp only))<;>(try dsimp only at*)<;>(try simp only[AQ,List.length_cons,List.length_nil])<;>(try omega)
 all_goals(rw[Bool.eq_iff_iff];simp only[Cw,Bool.and_eq_true,Bool.or_eq_true,decide_eq_true_eq,Bool.not_eq_true',decide_eq_false_iff_not,bne_iff_ne,ne_eq,beq_iff_eq,Bool.not_not,reduceCtorEq,Bool.false_eq_true,true_iff,false_iff,iff_true,iff_false,not_true,not_false_eq_true]<;>omega))
def Lv:Sig:= {X:=UInt8,args:=fun x=>[.int .u8 x.toNat],pre:=fun x=>True,Y:=Unit,post:=fun x y=>True,res:=fun x y=> .bool (BP x),outs:=fun x y=>[.top],keep:=false}
theorem a8r:Al G Tryz.prog 161 Lv:=
 vcFun_okP [(159,0,FV),(162,0,GT)] [] false (fun x=>[]) Tryz.func161 rfl (by decide) ⟨a0g,VB,trivial⟩ (fun(x:UInt8)=>(∀(y:Unit),True→True∧True∧True)∧cA FV [AV.int IntKind.u8 (↑(UInt8.toNat x):Int)] fun x_1 y=>Ab (Cw x_1) (rA Lv x [.bool true,.top]) (cA GT [AV.int IntKind.u8 (↑(UInt8.toNat x):Int)] fun x_2 y=>rA Lv x [.bool (Bg x_2),.top])) (fun x=>by kernel_rfl) fun(x:UInt8) (hx:True)=>(by
 dsimp only[cA,rA,GT,FV,Lv,Aw,Az,mvL,lnL,mvE,lnE]
 (repeat' first|(with_reducible first|rfl|exact True.intro|apply AK|apply And.intro|((first|apply AA|apply AI|apply AB|apply AJ)<;>intro _))|(apply Ax<;>intro _)|apply AH|refine Af () ?_ ?_|((first|apply AO|apply AN|apply AM|apply AL|apply AG|apply AF|apply AE|apply AD|apply AC)<;>try dsimp only)|apply Af|(refine Prod.forall.2 ?_;intro _;try dsimp only)|(intro _;try dsimp only))<;>(try dsimp only at*)<;>(try simp only[AQ,List.length_cons,List.length_nil])<;>(try omega)
 all_goals simp [BP, *])
def IT:Sig:= {X:=UInt8,args:=fun x=>[.int .u8 x.toNat],pre:=fun x=>True,Y:=Unit,post:=fun x y=>True,res:=fun x y=> .bool (Cl x),outs:=fun x y=>[.top],keep:=false}
theorem a0i:Al G Tryz.prog 107 IT:=
 vcFun_okP [] [] false (fun x=>[]) Tryz.func107 rfl (by decide) trivial (fun(x:UInt8)=>(∀(y:Unit),True→True∧True∧True)∧Ab (decide ((↑(UInt8.toNat x):Int)≥(32:Int))) (rA IT x [.bool (decide ((↑(UInt8.toNat x):Int)≤(126:Int))),.top]) (rA IT x [.bool false,.top])) (fun x=>by kernel_rfl) fun(x:UInt8) (hx:True)=>(by
 dsimp only[rA,IT,Aw,Az]
 (repeat' first|(with_reducible first|rfl|exact True.intro|apply AK|apply And.intro|((first|apply AA|apply AI|apply AB|apply AJ)<;>intro _))|(apply Ax<;>intro _)|apply AH|refine Af () ?_ ?_|((first|apply AO|apply AN|apply AM|apply AL|apply AG|apply AF|apply AE|apply AD|apply AC)<;>try dsimp only)|apply Af|(refine Prod.forall.2 ?_;intro _;try dsimp only)|(intro _;try dsimp only))<;>(try dsimp only at*)<;>(try simp only[AQ,List.length_cons,List.length_nil])<;>(try omega)
 all_goals(rw[Bool.eq_iff_iff];simp only[Cl,Bool.and_eq_true,Bool.or_eq_true,decide_eq_true_eq,Bool.not_eq_true',decide_eq_false_iff_not,bne_iff_ne,ne_eq,beq_iff_eq,Bool.not_not,reduceCtorEq,Bool.false_eq_true,true_iff,false_iff,iff_true,iff_false,not_true,not_false_eq_true]<;>omega))
def NA:Sig:= {X:=UInt8,args:=fun x=>[.int .u8 x.toNat],pre:=fun x=>True,Y:=Unit,post:=fun x y=>True,res:=fun x y=> .bool (Ch x),outs:=fun x y=>[.top],keep:=false}
theorem a8s:Al G Tryz.prog 165 NA:=
 vcFun_okP [] [] false (fun x=>[]) Tryz.func165 rfl (by decide) trivial (fun(x:UInt8)=>(∀(y:Unit),True→True∧True∧True)∧rA NA x [.bool ((↑(UInt8.toNat x):Int) != (10:Int)),.top]) (fun x=>by kernel_rfl) fun(x:UInt8) (hx:True)=>(by
 dsimp only[rA,NA,Aw,Az]
 (repeat' first|(with_reducible first|rfl|exact True.intro|apply AK|apply And.intro|((first|apply AA|apply AI|apply AB|apply AJ)<;>intro _))|(apply Ax<;>intro _)|apply AH|refine Af () ?_ ?_|((first|apply AO|apply AN|apply AM|apply AL|apply AG|apply AF|apply AE|apply AD|apply AC)<;>try dsimp only)|apply Af|(refine Prod.forall.2 ?_;intro _;try dsimp only)|(intro _;try dsimp only))<;>(try dsimp only at*)<;>(try simp only[AQ,List.length_cons,List.length_nil])<;>(try omega)
 all_goals(rw[Bool.eq_iff_iff];simp only[Ch,Bool.and_eq_true,Bool.or_eq_true,decide_eq_true_eq,Bool.not_eq_true',decide_eq_false_iff_not,bne_iff_ne,ne_eq,beq_iff_eq,Bool.not_not,reduceCtorEq,Bool.false_eq_true,true_iff,false_iff,iff_true,iff_false,not_true,not_false_eq_true]<;>omega))
def Ej(p:UInt8→Bool)(x:List UInt8)(rs:Int→List (Nat×AV)):LS:= {
 ι:=Int,inv:=fun i=>0≤i∧i≤x.length∧∀e∈x.take i.toNat,p e=true,regs:=rs,als:=[],meas:=fun i=>x.length-i.toNat}
def Ia:Sig:= {X:=List UInt8,args:=fun x=>[.str x],pre:=fun x=>x.length<2^63,Y:=Unit,post:=fun x y=>True,res:=fun x y=> .bool (x.all Cl),outs:=fun x y=>[.top],keep:=false}
theorem a0j:Al G Tryz.prog 167 Ia:=
 vcFun_okP [] [] false (fun x=>[(2,Ej Cl x fun i=>[(0,.str x),(3,.int .i64 i)])]) Tryz.func167 rfl (by decide) trivial (fun(x:List UInt8)=>(∀(y:Unit),True→True∧True∧True)∧eA (Ej Cl x fun(i:Int)=>[((0:Nat),.str x),((3:Nat),.int .i64 i)]) [.str x,.int .i64 (0:Int)]∧∀(i:Int),((0:Int)≤i∧i≤(↑(List.length x):Int)∧∀(e:UInt8),e∈List.take (Int.toNat i) x→Cl e=true)→Ab (decide (i<(↑(List.length x):Int))) (((0:Int)≤i∧i<(↑(List.length x):Int))∧∀(c:UInt8),x[Int.toNat i]? =some c→Ab (decide ((↑(UInt8.toNat c):Int)<(32:Int))) (rA Ia x [.bool false,.top]) (((0:Int)≤i∧i<(↑(List.length x):Int))∧∀(c:UInt8),x[Int.toNat i]? =some c→Ab (decide ((↑(UInt8.toNat c):Int)>(126:Int))) (rA Ia x [.bool false,.top]) (inR IntKind.i64 (i+(1:Int))∧eN (Ej Cl x fun(i:Int)=>[((0:Nat),.str x),((3:Nat),.int .i64 i)]) i [.str x,.int .i64 (i+(1:Int))]))) (rA Ia x [.bool true,.top])) (fun x=>by kernel_rfl) fun(x:List UInt8) (hx:x.length<2^63)=>(by
 dsimp only[eA,eN,Ej,rA,Ia,Aw,Az,Bv]
 (repeat' first|(with_reducible first|rfl|exact True.intro|apply AK|apply And.intro|((first|apply AA|apply AI|apply AB|apply AJ)<;>intro _))|(apply Ax<;>intro _)|apply AH|refine Af () ?_ ?_|((first|apply AO|apply AN|apply AM|apply AL|apply AG|apply AF|apply AE|apply AD|apply AC)<;>try dsimp only)|apply Af|(refine Prod.forall.2 ?_;intro _;try dsimp only)|(intro _;try dsimp only))<;>(try dsimp only at*)<;>(try simp only[AQ,List.length_cons,List.length_nil])<;>(try omega)
 ·rename_i h;simp at h
 ·rename_i i hi hl c hc h;exact(Rj hc (by(rw[Bool.eq_iff_iff];simp only[Cl,Bool.and_eq_true,Bool.or_eq_true,decide_eq_true_eq,Bool.not_eq_true',decide_eq_false_iff_not,bne_iff_ne,ne_eq,beq_iff_eq,Bool.not_not,reduceCtorEq,Bool.false_eq_true,true_iff,false_iff,iff_true,iff_false,not_true,not_false_eq_true]<;>omega))).symm
 ·rename_i i hi hl c hc h d hd h2;exact(Rj hd (by(rw[Bool.eq_iff_iff];simp only[Cl,Bool.and_eq_true,Bool.or_eq_true,decide_eq_true_eq,Bool.not_eq_true',decide_eq_false_iff_not,bne_iff_ne,ne_eq,beq_iff_eq,Bool.not_not,reduceCtorEq,Bool.false_eq_true,true_iff,false_iff,iff_true,iff_false,not_true,not_false_eq_true]<;>omega))).symm
 ·rename_i i hi hl c hc h d hd h2 e he
  rw[hc] at hd;cases hd
  rw[Da hi.1] at he;exact Pt hi.2.2 hc (by(rw[Bool.eq_iff_iff];simp only[Cl,Bool.and_eq_true,Bool.or_eq_true,decide_eq_true_eq,Bool.not_eq_true',decide_eq_false_iff_not,bne_iff_ne,ne_eq,beq_iff_eq,Bool.not_not,reduceCtorEq,Bool.false_eq_true,true_iff,false_iff,iff_true,iff_false,not_true,not_false_eq_true]<;>omega)) e he
 ·rename_i i hi hl;exact(Vx hi.2.2 (by omega)).symm)
def Lw:Sig:= {X:=List UInt8,args:=fun x=>[.str x,.clo (.func 161) []],pre:=fun x=>x.length<2^63,Y:=Unit,post:=fun x y=>True,res:=fun x y=> .str (x.takeWhile BP),outs:=fun x y=>[.top,.top],keep:=false}
theorem a8t:Al G Tryz.prog 160 Lw:=
 vcFun_okP [(161,0,Lv)] [] false (fun x=>[(2,Ej BP x fun i=>[(0,.str x),(1,.clo (.func 161) []),(5,.int .i64 i)])]) Tryz.func160 rfl (by decide) ⟨a8r,trivial⟩ (fun(x:List UInt8)=>(∀(y:Unit),True→True∧True∧True∧True)∧eA (Ej BP x fun(i:Int)=>[((0:Nat),.str x),((1:Nat),AV.clo (Fn.func (84:FuncId)) []),((5:Nat),.int .i64 i)]) [.str x,AV.clo (Fn.func (84:FuncId)) [],.int .i64 (0:Int)]∧∀(i:Int),((0:Int)≤i∧i≤(↑(List.length x):Int)∧∀(e:UInt8),e∈List.take (Int.toNat i) x→BP e=true)→Ab (decide (i<(↑(List.length x):Int))) (((0:Int)≤i∧i<(↑(List.length x):Int))∧∀(c:UInt8),x[Int.toNat i]? =some c→cA Lv [AV.int IntKind.u8 (↑(UInt8.toNat c):Int)] fun x_1 y=>Ab (BP x_1) (inR IntKind.i64 (i+(1:Int))∧eN (Ej BP x fun(i:Int)=>[((0:Nat),.str x),((1:Nat),AV.clo (Fn.func (84:FuncId)) []),((5:Nat),.int .i64 i)]) i [.str x,AV.clo (Fn.func (84:FuncId)) [],.int .i64 (i+(1:Int))]) (((0:Int)≤(0:Int)∧(0:Int)≤i∧i≤(↑(List.length x):Int))∧rA Lw x [.str (List.take (Int.toNat i) x),.top,.top])) (((0:Int)≤(0:Int)∧(0:Int)≤i∧i≤(↑(List.length x):Int))∧rA Lw x [.str (List.take (Int.toNat i) x),.top,.top])) (fun x=>by kernel_rfl) fun(x:List UInt8) (hx:x.length<2^63)=>(by
 dsimp only[cA,eA,eN,Ej,rA,Lv,Lw,Aw,Az,mvL,lnL,mvE,lnE,Bv]
 (repeat' first|(with_reducible first|rfl|exact True.intro|apply AK|apply And.intro|((first|apply AA|apply AI|apply AB|apply AJ)<;>intro _))|(apply Ax<;>intro _)|apply AH|refine Af () ?_ ?_|((first|apply AO|apply AN|apply AM|apply AL|apply AG|apply AF|apply AE|apply AD|apply AC)<;>try dsimp only)|apply Af|(refine Prod.forall.2 ?_;intro _;try dsimp only)|(intro _;try dsimp only))<;>(try dsimp only at*)<;>(try simp only[AQ,List.length_cons,List.length_nil])<;>(try omega)
 ·rename_i h;simp at h
 ·rename_i i hi hl c hc y _ hp e he
  rw[Da hi.1] at he;exact Pt hi.2.2 hc hp e he
 ·rename_i i hi hl c hc y _ hp
  exact Ju hi.2.2 (.inr ⟨c,hc,hp⟩)
 ·rename_i i hi hl
  exact Ju hi.2.2 (.inl (by omega)))
def Lx:Sig:= {X:=List UInt8,args:=fun x=>[.str x,.clo (.func 162) []],pre:=fun x=>x.length<2^63,Y:=Unit,post:=fun x y=>True,res:=fun x y=> .str (x.takeWhile Bg),outs:=fun x y=>[.top,.top],keep:=false}
theorem a8u:Al G Tryz.prog 160 Lx:=
 vcFun_okP [(162,0,GT)] [] false (fun x=>[(2,Ej Bg x fun i=>[(0,.str x),(1,.clo (.func 162) []),(5,.int .i64 i)])]) Tryz.func160 rfl (by decide) ⟨VB,trivial⟩ (fun(x:List UInt8)=>(∀(y:Unit),True→True∧True∧True∧True)∧eA (Ej Bg x fun(i:Int)=>[((0:Nat),.str x),((1:Nat),AV.clo (Fn.func (85:FuncId)) []),((5:Nat),.int .i64 i)]) [.str x,AV.clo (Fn.func (85:FuncId)) [],.int .i64 (0:Int)]∧∀(i:Int),((0:Int)≤i∧i≤(↑(List.length x):Int)∧∀(e:UInt8),e∈List.take (Int.toNat i) x→Bg e=true)→Ab (decide (i<(↑(List.length x):Int))) (((0:Int)≤i∧i<(↑(List.length x):Int))∧∀(c:UInt8),x[Int.toNat i]? =some c→cA GT [AV.int IntKind.u8 (↑(UInt8.toNat c):Int)] fun x_1 y=>Ab (Bg x_1) (inR IntKind.i64 (i+(1:Int))∧eN (Ej Bg x fun(i:Int)=>[((0:Nat),.str x),((1:Nat),AV.clo (Fn.func (85:FuncId)) []),((5:Nat),.int .i64 i)]) i [.str x,AV.clo (Fn.func (85:FuncId)) [],.int .i64 (i+(1:Int))]) (((0:Int)≤(0:Int)∧(0:Int)≤i∧i≤(↑(List.length x):Int))∧rA Lx x [.str (List.take (Int.toNat i) x),.top,.top])) (((0:Int)≤(0:Int)∧(0:Int)≤i∧i≤(↑(List.length x):Int))∧rA Lx x [.str (List.take (Int.toNat i) x),.top,.top])) (fun x=>by kernel_rfl) fun(x:List UInt8) (hx:x.length<2^63)=>(by
 dsimp only[cA,eA,eN,Ej,rA,GT,Lx,Aw,Az,mvL,lnL,mvE,lnE,Bv]
 (repeat' first|(with_reducible first|rfl|exact True.intro|apply AK|apply And.intro|((first|apply AA|apply AI|apply AB|apply AJ)<;>intro _))|(apply Ax<;>intro _)|apply AH|refine Af () ?_ ?_|((first|apply AO|apply AN|apply AM|apply AL|apply AG|apply AF|apply AE|apply AD|apply AC)<;>try dsimp only)|apply Af|(refine Prod.forall.2 ?_;intro _;try dsimp only)|(intro _;try dsimp only))<;>(try dsimp only at*)<;>(try simp only[AQ,List.length_cons,List.length_nil])<;>(try omega)
 ·rename_i h;simp at h
 ·rename_i i hi hl c hc y _ hp e he
  rw[Da hi.1] at he;exact Pt hi.2.2 hc hp e he
 ·rename_i i hi hl c hc y _ hp
  exact Ju hi.2.2 (.inr ⟨c,hc,hp⟩)
 ·rename_i i hi hl
  exact Ju hi.2.2 (.inl (by omega)))
def Ly:Sig:= {X:=List UInt8,args:=fun x=>[.str x,.clo (.func 165) []],pre:=fun x=>x.length<2^63,Y:=Unit,post:=fun x y=>True,res:=fun x y=> .str (x.takeWhile Ch),outs:=fun x y=>[.top,.top],keep:=false}
theorem a8v:Al G Tryz.prog 160 Ly:=
 vcFun_okP [(165,0,NA)] [] false (fun x=>[(2,Ej Ch x fun i=>[(0,.str x),(1,.clo (.func 165) []),(5,.int .i64 i)])]) Tryz.func160 rfl (by decide) ⟨a8s,trivial⟩ (fun(x:List UInt8)=>(∀(y:Unit),True→True∧True∧True∧True)∧eA (Ej Ch x fun(i:Int)=>[((0:Nat),.str x),((1:Nat),AV.clo (Fn.func (88:FuncId)) []),((5:Nat),.int .i64 i)]) [.str x,AV.clo (Fn.func (88:FuncId)) [],.int .i64 (0:Int)]∧∀(i:Int),((0:Int)≤i∧i≤(↑(List.length x):Int)∧∀(e:UInt8),e∈List.take (Int.toNat i) x→Ch e=true)→Ab (decide (i<(↑(List.length x):Int))) (((0:Int)≤i∧i<(↑(List.length x):Int))∧∀(c:UInt8),x[Int.toNat i]? =some c→cA NA [AV.int IntKind.u8 (↑(UInt8.toNat c):Int)] fun x_1 y=>Ab (Ch x_1) (inR IntKind.i64 (i+(1:Int))∧eN (Ej Ch x fun(i:Int)=>[((0:Nat),.str x),((1:Nat),AV.clo (Fn.func (88:FuncId)) []),((5:Nat),.int .i64 i)]) i [.str x,AV.clo (Fn.func (88:FuncId)) [],.int .i64 (i+(1:Int))]) (((0:Int)≤(0:Int)∧(0:Int)≤i∧i≤(↑(List.length x):Int))∧rA Ly x [.str (List.take (Int.toNat i) x),.top,.top])) (((0:Int)≤(0:Int)∧(0:Int)≤i∧i≤(↑(List.length x):Int))∧rA Ly x [.str (List.take (Int.toNat i) x),.top,.top])) (fun x=>by kernel_rfl) fun(x:List UInt8) (hx:x.length<2^63)=>(by
 dsimp only[cA,eA,eN,Ej,rA,Ly,NA,Aw,Az,mvL,lnL,mvE,lnE,Bv]
 (repeat' first|(with_reducible first|rfl|exact True.intro|apply AK|apply And.intro|((first|apply AA|apply AI|apply AB|apply AJ)<;>intro _))|(apply Ax<;>intro _)|apply AH|refine Af () ?_ ?_|((first|apply AO|apply AN|apply AM|apply AL|apply AG|apply AF|apply AE|apply AD|apply AC)<;>try dsimp only)|apply Af|(refine Prod.forall.2 ?_;intro _;try dsimp only)|(intro _;try dsimp only))<;>(try dsimp only at*)<;>(try simp only[AQ,List.length_cons,List.length_nil])<;>(try omega)
 ·rename_i h;simp at h
 ·rename_i i hi hl c hc y _ hp e he
  rw[Da hi.1] at he;exact Pt hi.2.2 hc hp e he
 ·rename_i i hi hl c hc y _ hp
  exact Ju hi.2.2 (.inr ⟨c,hc,hp⟩)
 ·rename_i i hi hl
  exact Ju hi.2.2 (.inl (by omega)))
end Go.My
end
section
namespace Go.My
open Go.Eng
def NB(x:List UInt8):SgR:=if CH (x.take 2) then⟨4,x.take 2,(x.take 2).length,true⟩ else if CH (x.take 1) then⟨4,x.take 1,1,true⟩ else⟨0,[],0,false⟩
def Ib(x:List UInt8)(i:Int):Prop:=(0≤i∧i≤2∧i≤x.length)∧Bh x=NB x∧∀j:Nat,i<j→j≤2→j≤x.length→CH (x.take j)=false
theorem a8w{x:List UInt8}{i:Int}(h:Ib x i)(hx:1≤x.length)(h0:i>0)(hm:CH (x.take i.toNat)=true):Bh x=⟨4,x.take i.toNat,i,true⟩:=by
 obtain⟨⟨h1,h2,h3⟩,h4,h5⟩:=h
 rw[h4]
 have hi:i=1∨i=2:=by omega
 rcases hi with rfl|rfl
 ·by_cases hl:x.length=1
  ·have e:x.take 2=x.take 1:=by rw[List.take_of_length_le (by omega),List.take_of_length_le (by omega)]
   have hm':CH (x.take 1)=true:=hm
   simp only[NB,e,hm',if_true]
   have:(x.take 1).length=1:=by simp;omega
   rw[this];rfl
  ·have:=h5 2 (by omega) (by omega) (by omega)
   have hm':CH (x.take 1)=true:=hm
   simp only[NB,this,hm',Bool.false_eq_true,if_false,if_true];rfl
 ·have hm':CH (x.take 2)=true:=hm
  simp only[NB,hm',if_true]
  have:(x.take 2).length=2:=by simp;omega
  rw[this];rfl
theorem a8x{x:List UInt8}{i:Int}(h:Ib x i)(hx:1≤x.length)(h0:¬i>0):Bh x=⟨0,[],0,false⟩:=by
 obtain⟨⟨h1,h2,h3⟩,h4,h5⟩:=h
 rw[h4]
 have a1:=h5 1 (by omega) (by omega) hx
 have a2:CH (x.take 2)=false:=by
  by_cases hl:x.length=1
  ·have e:x.take 2=x.take 1:=by rw[List.take_of_length_le (by omega),List.take_of_length_le (by omega)]
   rw[e];exact a1
  ·exact h5 2 (by omega) (by omega) (by omega)
 simp only[NB,a1,a2,Bool.false_eq_true,if_false]
theorem a8y{x:List UInt8}{i:Int}(h:Ib x i)(h0:i>0)(hm:CH (x.take i.toNat)=false):Ib x (i-1):=by
 obtain⟨⟨h1,h2,h3⟩,h4,h5⟩:=h
 refine⟨⟨by omega,by omega,by omega⟩,h4,fun j a b c=> ?_⟩
 by_cases e:(j:Int)=i
 ·have:j=i.toNat:=by omega
  rw[this];exact hm
 ·exact h5 j (by omega) b c
theorem a8z{b:UInt8}{t:List UInt8}(h1:Cw b=false)(h2:Bg b=false)(h3:¬b.toNat=39)(h4:(b::t).take 2≠[47,47]):Ib (b::t) (min 2 ((b::t).length:Int)):=by
 refine⟨⟨by omega,by omega,by omega⟩,?_,fun j a b c=>by omega⟩
 simp only[Bh,h1,h2,h3,h4,Bool.false_eq_true,if_false,NB]
theorem a8A{b:UInt8}{t:List UInt8}(h:Cw b=true):Bh (b::t)=⟨1,(b::t).takeWhile BP,((b::t).takeWhile BP).length,decide ((((b::t).takeWhile BP).length:Int)≤30)⟩:=by
 have:decide ((((b::t).takeWhile BP).length:Int)≤30)=decide (((b::t).takeWhile BP).length≤30):=decide_eq_decide.2 (by omega)
 rw[this];simp [Bh,h]
theorem a8B{b:UInt8}{t:List UInt8}(h0:Cw b=false)(h:Bg b=true):Bh (b::t)=⟨2,(b::t).takeWhile Bg,((b::t).takeWhile Bg).length,decide ((((b::t).takeWhile Bg).length:Int)≤12)⟩:=by
 have:decide ((((b::t).takeWhile Bg).length:Int)≤12)=decide (((b::t).takeWhile Bg).length≤12):=decide_eq_decide.2 (by omega)
 rw[this];simp [Bh,h,h0]
theorem a8C{b:UInt8}{t:List UInt8}(h0:Cw b=false)(h1:Bg b=false)(h:(b.toNat:Int)=39):Bh (b::t)=⟨3,(DD (b::t)).1,(DD (b::t)).1.length,(DD (b::t)).2⟩:=by
 have h:b.toNat=39:=by omega
 simp [Bh,h0,h1,h]
theorem a8D{b:UInt8}{t:List UInt8}(h0:Cw b=false)(h1:Bg b=false)(h2:(b.toNat:Int)≠39)(h:(b::t).take 2=[47,47]):
 Bh (b::t)=⟨5,CI ((b::t).takeWhile Ch),((b::t).takeWhile Ch).length,((b::t).takeWhile Ch).all Cl⟩:=by
 have h2:¬b.toNat=39:=by omega
 simp only[Bh,h0,h1,h2,h,Bool.false_eq_true,if_false,if_true]
theorem a0k(s:List UInt8)(c:UInt8):CI (s++[c])=if c.toNat=32 then CI s else s++[c]:=by
 unfold CI
 rw[List.reverse_append]
 simp only[List.reverse_cons,List.reverse_nil,List.nil_append,List.singleton_append,List.dropWhile_cons]
 by_cases h:c.toNat=32
 ·simp [h]
 ·simp [h]
theorem a8E{s:List UInt8}{c:UInt8}(h:s[s.length-1]? =some c):s=s.take (s.length-1)++[c]:=by
 have h1:=EM h
 have:s.length-1+1=s.length:=by
  have:=(List.getElem?_eq_some_iff.1 h).1;omega
 rw[this,List.take_length] at h1
 exact h1
theorem a0l{s:List UInt8}{c:UInt8}(h:s[s.length-1]? =some c):CI s=if c.toNat=32 then CI (s.take (s.length-1)) else s:=by
 have h1:=a8E h
 rw[h1,a0k]
 split
 ·rw[List.length_append];simp
 ·rfl
theorem a0m{s:List UInt8}{n:Nat}{c:UInt8}(h:s[n]? =some c):CI (s.take (n+1))=if c.toNat=32 then CI (s.take n) else s.take (n+1):=by
 rw[EM h,a0k]
def isQ(c:UInt8):Bool:=decide (c.toNat=39)
def CD(s:List UInt8):Nat:=match DX isQ (s.drop 1) with
 |none=>0
 |some i=>if((s.drop 1).take i).all Cl then i+2 else 0
def Cr(s:List UInt8):Nat:=if s.take 2=[47,47] then(if(s.takeWhile Ch).all Cl then(s.takeWhile Ch).length else 0) else 0
theorem a0n(s:List UInt8):DD s=match DX isQ (s.drop 1) with
 |none=>([],false)
 |some i=>(s.take (i+2),(s.take (i+2)).all Cl):=rfl
theorem a0o{c:UInt8}(h:isQ c=true):Cl c=true:=by
 simp [isQ] at h;simp [Cl,h]
theorem VC{p:UInt8→Bool}{s:List UInt8}{i:Nat}(h:DX p s=some i):i<s.length:=by
 obtain⟨_,e,he,_⟩:=Lt.1 h
 exact(List.getElem?_eq_some_iff.1 he).1
theorem Ro{c:UInt8}{s:List UInt8}(hc:isQ c=true):(DD (c::s)).2=true↔CD (c::s)≠0:=by
 rw[a0n];unfold CD
 simp only[List.drop_succ_cons,List.drop_zero]
 cases h:DX isQ s with
 |none=>simp
 |some i=>
  simp only[List.take_succ_cons,List.all_cons,a0o hc,Bool.true_and]
  obtain⟨h1,e,he,hq⟩:=Lt.1 h
  rw[EM he,List.all_append]
  simp [a0o hq]
theorem a0p{c:UInt8}{s:List UInt8}(hc:isQ c=true)(h:CD (c::s)≠0):(DD (c::s)).1=(c::s).take (CD (c::s))∧CD (c::s)≤(c::s).length:=by
 rw[a0n];unfold CD at h ⊢
 simp only[List.drop_succ_cons,List.drop_zero] at h ⊢
 cases hi:DX isQ s with
 |none=>rw[hi] at h;simp at h
 |some i=>
  rw[hi] at h
  simp only at h ⊢
  split at h
  ·rename_i hp
   have:=VC hi
   rw[if_pos hp]
   exact⟨rfl,by simp;omega⟩
  ·exact(h rfl).elim
theorem a8F{c:UInt8}(h:Cw c=true):Bg c=false:=by
 simp [Cw,Bg] at h ⊢;omega
theorem a8G(s:List UInt8):Cx s 1=match s with
 |[]=>false
 |c::_=>Cw c&&(s.all BP&&decide (s.length≤30)):=by
 cases s with
 |nil=>rfl
 |cons c t=>
  by_cases hc:Cw c=true
  ·simp only[Cx,Bh,hc,if_true,Bool.true_and]
   by_cases ha:(c::t).all BP=true
   ·have:=Rk.2 ha
    rw[this,ha];simp
   ·have hn:¬(c::t).takeWhile BP=c::t:=fun e=>ha (Rk.1 e)
    simp only[Bool.not_eq_true] at ha
    rw[ha]
    have:((c::t).takeWhile BP==c::t)=false:=by rw[beq_eq_false_iff_ne];exact hn
    rw[this];simp
  ·simp only[Bool.not_eq_true] at hc
   simp only[hc,Bool.false_and]
   rw[Bool.eq_false_iff]
   intro h
   simp only[Cx,Bh,hc,Bool.false_eq_true,if_false,Bool.and_eq_true,decide_eq_true_eq] at h
   have h1:=h.2.2.1
   repeat' split at h1
   all_goals simp at h1
theorem Rp(s:List UInt8):Cx s 2=(s.all Bg&&(decide (1≤s.length)&&decide (s.length≤12))):=by
 cases s with
 |nil=>rfl
 |cons c t=>
  by_cases hc:Cw c=true
  ·have hf:=a8F hc
   simp only[List.all_cons,hf,Bool.false_and]
   simp [Cx,Bh,hc]
  ·simp only[Bool.not_eq_true] at hc
   by_cases hf:Bg c=true
   ·simp only[Cx,Bh,hc,hf,Bool.false_eq_true,if_false,if_true]
    by_cases ha:(c::t).all Bg=true
    ·have:=Rk.2 ha
     rw[this,ha];simp
    ·have hn:¬(c::t).takeWhile Bg=c::t:=fun e=>ha (Rk.1 e)
     simp only[Bool.not_eq_true] at ha
     rw[ha]
     have:((c::t).takeWhile Bg==c::t)=false:=by rw[beq_eq_false_iff_ne];exact hn
     rw[this];simp
   ·simp only[Bool.not_eq_true] at hf
    simp only[List.all_cons,hf,Bool.false_and]
    rw[Bool.eq_false_iff]
    intro h
    simp only[Cx,Bh,hc,hf,Bool.false_eq_true,if_false,Bool.and_eq_true,decide_eq_true_eq] at h
    have h1:=h.2.2.1
    repeat' split at h1
    all_goals simp at h1
theorem VD(s:List UInt8):Cx s 3=match s with
 |[]=>false
 |c::_=>isQ c&&(decide (1<s.length)&&decide (CD s=s.length)):=by
 cases s with
 |nil=>rfl
 |cons c t=>
  by_cases hq:isQ c=true
  ·have h39:c.toNat=39:=by simpa [isQ] using hq
   have hc:Cw c=false:=by simp [Cw];omega
   have hf:Bg c=false:=by simp [Bg];omega
   simp only[hq,Bool.true_and]
   simp only[Cx,Bh,hc,hf,h39,Bool.false_eq_true,if_false,if_true]
   by_cases h0:CD (c::t)=0
   ·have h2:(DD (c::t)).2=false:=by
     rw[Bool.eq_false_iff];intro h;exact(Ro hq).1 h h0
    rw[h2,h0];simp
   ·have h2:=(Ro hq).2 h0
    obtain⟨h3,h4⟩:=a0p hq h0
    have h5:1<CD (c::t):=by
     unfold CD at h0 ⊢
     split at h0
     ·exact(h0 rfl).elim
     ·split at h0
      ·rename_i hp;rw[if_pos hp];omega
      ·exact(h0 rfl).elim
    rw[h2,h3]
    rw[Bool.eq_iff_iff]
    simp only[Bool.and_eq_true,Bool.not_eq_true',decide_eq_true_eq,beq_iff_eq,List.length_take]
    constructor
    ·rintro⟨_,_,_,e,hl⟩
     have:=congrArg List.length e
     simp only[List.length_take] at this
     constructor<;>omega
    ·rintro⟨h6,h7⟩
     refine⟨by simp,trivial,trivial,?_,?_⟩
     ·rw[h7,List.take_length]
     ·omega
  ·simp only[Bool.not_eq_true] at hq
   have h39:¬c.toNat=39:=by simpa [isQ] using hq
   simp only[hq,Bool.false_and]
   rw[Bool.eq_false_iff]
   intro h
   simp only[Cx,Bh,h39,if_false,Bool.and_eq_true,decide_eq_true_eq] at h
   have h1:=h.2.2.1
   repeat' split at h1
   all_goals simp at h1
theorem VE(s:List UInt8):Cx s 5=(decide (1<s.length)&&(decide (Cr s=s.length)&&(CI s==s))):=by
 cases s with
 |nil=>rfl
 |cons c t=>
  by_cases hp:(c::t).take 2=[47,47]
  ·have h47:c=47:=by
    have:=congrArg (fun l:List UInt8=>l.head?) hp
    simpa using this
   subst h47
   have hl:1<(47::t).length:=by
    have:=congrArg List.length hp
    simp only[List.length_take,List.length_cons,List.length_nil] at this ⊢;omega
   have hc:Cw 47=false:=by decide
   have hf:Bg 47=false:=by decide
   have hq:¬(47:UInt8).toNat=39:=by decide
   simp only[Cx,Bh,hc,hf,hq,hp,Bool.false_eq_true,if_false,if_true,Cr]
   rw[Bool.eq_iff_iff]
   simp only[Bool.and_eq_true,Bool.not_eq_true',decide_eq_true_eq,beq_iff_eq,beq_eq_false_iff_ne]
   constructor
   ·rintro⟨_,h1,_,h2,h3⟩
    rw[if_pos h1]
    have h3:((47::t).takeWhile Ch).length=(47::t).length:=by omega
    refine⟨hl,h3,?_⟩
    have e:(47::t).takeWhile Ch=47::t:=by
     have:=List.takeWhile_prefix (p:=Ch) (l:=47::t)
     exact List.IsPrefix.eq_of_length this h3
    rw[e] at h2;exact h2
   ·rintro⟨_,h1,h2⟩
    split at h1
    ·rename_i h3
     have e:(47::t).takeWhile Ch=47::t:=by
      have:=List.takeWhile_prefix (p:=Ch) (l:=47::t)
      exact List.IsPrefix.eq_of_length this h1
     rw[e] at h3 ⊢
     exact⟨by simp,h3,trivial,h2,rfl⟩
    ·simp at h1
  ·have h0:Cr (c::t)=0:=by simp only[Cr,if_neg hp]
   rw[h0]
   have:decide (0=(c::t).length)=false:=by simp
   rw[this]
   simp only[Bool.false_and,Bool.and_false]
   rw[Bool.eq_false_iff]
   intro h
   simp only[Cx,Bh,hp,if_false,Bool.and_eq_true,decide_eq_true_eq] at h
   have h1:=h.2.2.1
   repeat' split at h1
   all_goals simp at h1
theorem a8H{s:List UInt8}{m:Nat}{e:UInt8}(h:∀e∈(s.drop 1).take m,isQ e=false∧Cl e=true)(he:(s.drop 1)[m]? =some e)(hq:isQ e=true):CD s=m+2:=by
 unfold CD
 rw[Lt.2 ⟨fun e he=>(h e he).1,e,he,hq⟩]
 simp only
 rw[if_pos (List.all_eq_true.2 fun e he=>(h e he).2)]
theorem a8I{s:List UInt8}{m:Nat}{e:UInt8}(h:∀e∈(s.drop 1).take m,isQ e=false∧Cl e=true)(he:(s.drop 1)[m]? =some e)(hq:isQ e=false)(hp:Cl e=false):CD s=0:=by
 unfold CD
 cases hi:DX isQ (s.drop 1) with
 |none=>rfl
 |some i=>
  simp only
  obtain⟨h1,d,hd,hdq⟩:=Lt.1 hi
  rw[if_neg]
  intro hall
  have hmi:m<i:=by
   rcases Nat.lt_trichotomy m i with h'|h'|h'
   ·exact h'
   ·subst h';rw[he] at hd;cases hd;rw[hq] at hdq;cases hdq
   ·have:d∈(s.drop 1).take m:=by
     rw[List.mem_take_iff_getElem]
     obtain⟨a,b⟩:=List.getElem?_eq_some_iff.1 hd
     exact⟨i,by omega,b⟩
    rw[(h d this).1] at hdq;cases hdq
  have:e∈(s.drop 1).take i:=by
   rw[List.mem_take_iff_getElem]
   obtain⟨a,b⟩:=List.getElem?_eq_some_iff.1 he
   exact⟨m,by omega,b⟩
  rw[List.all_eq_true.1 hall e this] at hp;cases hp
theorem a8J{s:List UInt8}{m:Nat}(h:∀e∈(s.drop 1).take m,isQ e=false∧Cl e=true)(hl:(s.drop 1).length≤m):CD s=0:=by
 unfold CD
 rw[List.take_of_length_le hl] at h
 rw[Vy.2 fun e he=>(h e he).1]
theorem a0q{s:List UInt8}{m:Nat}(hp:s.take 2=[47,47])(h:∀e∈s.take m,Ch e=true∧Cl e=true)(he:s.length≤m∨∃e,s[m]? =some e∧Ch e=false)(hm:m≤s.length):Cr s=m:=by
 have h1:=Ju (fun e he=>(h e he).1) he
 unfold Cr
 rw[if_pos hp,←h1,if_pos (List.all_eq_true.2 fun e he=>(h e he).2),List.length_take];omega
theorem a8K{s:List UInt8}{m:Nat}{e:UInt8}(hp:s.take 2=[47,47])(h:∀e∈s.take m,Ch e=true∧Cl e=true)(he:s[m]? =some e)(hn:Ch e=true)(hq:Cl e=false):Cr s=0:=by
 unfold Cr
 rw[if_pos hp,if_neg]
 intro hall
 have:e∈s.takeWhile Ch:=by
  have h2:s=s.take m++e::s.drop (m+1):=by rw[←HA he,List.take_append_drop]
  rw[h2,List.takeWhile_append_of_pos (fun e he=>(h e he).1),List.takeWhile_cons,if_pos hn]
  simp
 rw[List.all_eq_true.1 hall e this] at hq;cases hq
theorem a0r{s:List UInt8}(hp:s.take 2≠[47,47]):Cr s=0:=by
 unfold Cr;rw[if_neg hp]
theorem VF{s:List UInt8}{a n:Int}(h0:0≤a)(h:a+1≤n):((s.drop a.toNat).drop 1)[(n-a-1).toNat]? =s[n.toNat]? :=by
 rw[List.getElem?_drop,List.getElem?_drop];congr 1;omega
theorem Pw{s:List UInt8}{a n:Int}(h0:0≤a)(h:a≤n):(s.drop a.toNat)[(n-a).toNat]? =s[n.toNat]? :=by
 rw[List.getElem?_drop];congr 1;omega
theorem Rr{p:UInt8→Prop}{s:List UInt8}{m k:Nat}{e:UInt8}(h:∀e∈s.take m,p e)(he:s[m]? =some e)(hp:p e)(hk:k=m+1):∀e∈s.take k,p e:=by
 subst hk
 rw[EM he];intro x hx
 rcases List.mem_append.1 hx with hx|hx
 ·exact h x hx
 ·simp at hx;subst hx;exact hp
def qI(x:List UInt8×Int)(i:Int):Prop:=x.2+1≤i∧(i≤x.1.length∨i=x.2+1)∧∀e∈((x.1.drop x.2.toNat).drop 1).take (i-x.2-1).toNat,isQ e=false∧Cl e=true
theorem a8L{x:List UInt8×Int}:qI x (x.2+1):=by
 refine⟨by omega,.inr rfl,fun e he=> ?_⟩
 rw[show(x.2+1-x.2-1).toNat=0 by omega] at he;simp at he
theorem a8M{x:List UInt8×Int}{i:Int}(h:qI x i):x.2+1≤i∧(i≤x.1.length∨i=x.2+1):=⟨h.1,h.2.1⟩
theorem a8N{x:List UInt8×Int}{i:Int}{c:UInt8}(h0:0≤x.2)(h:qI x i)(hq:(c.toNat:Int)=39)(hc:x.1[i.toNat]? =some c):i+1-x.2=CD (x.1.drop x.2.toNat):=by
 have:=h.1
 rw[a8H h.2.2 (by rw[VF h0 h.1];exact hc) (by simp [isQ];omega)];omega
theorem a8O{x:List UInt8×Int}{i:Int}{c d:UInt8}(h0:0≤x.2)(h:qI x i)(hq:(c.toNat:Int)≠39)(hc:x.1[i.toNat]? =some c)(hp:Cl d=false)(hd:x.1[i.toNat]? =some d):0=(CD (x.1.drop x.2.toNat):Int):=by
 rw[hc] at hd;cases hd
 rw[a8I h.2.2 (by rw[VF h0 h.1];exact hc) (by simp [isQ];omega) hp];rfl
theorem a8P{x:List UInt8×Int}{i:Int}{c d:UInt8}(h0:0≤x.2)(h:qI x i)(hl:i<x.1.length)(hq:(c.toNat:Int)≠39)(hc:x.1[i.toNat]? =some c)(hp:Cl d=true)(hd:x.1[i.toNat]? =some d):qI x (i+1):=by
 rw[hc] at hd;cases hd
 have:=h.1
 exact⟨by omega,.inl (by omega),Rr (p:=fun e=>isQ e=false∧Cl e=true) h.2.2 (by rw[VF h0 h.1];exact hc) ⟨by simp [isQ];omega,hp⟩ (by omega)⟩
theorem a8Q{x:List UInt8×Int}{i:Int}(h0:0≤x.2)(h:qI x i)(hl:¬i<x.1.length):0=(CD (x.1.drop x.2.toNat):Int):=by
 rw[a8J h.2.2 (by simp;omega)];rfl
def nI(x:List UInt8×Int)(i:Int):Prop:=(x.2≤i∧i≤x.1.length)∧(x.1.drop x.2.toNat).take 2=[47,47]∧∀e∈(x.1.drop x.2.toNat).take (i-x.2).toNat,Ch e=true∧Cl e=true
theorem a0s{x:List UInt8×Int}(h0:0≤x.2):List.drop x.2.toNat (List.take (x.2+2).toNat x.1)=(x.1.drop x.2.toNat).take 2:=by
 rw[List.drop_take];congr 1;omega
theorem a8R{x:List UInt8×Int}(h0:0≤x.2)(hl:x.2≤x.1.length)(h:(List.drop x.2.toNat (List.take (x.2+2).toNat x.1)==[47,47])=true):nI x x.2:=by
 rw[a0s h0] at h
 refine⟨⟨by omega,hl⟩,by simpa using h,fun e he=> ?_⟩
 rw[show(x.2-x.2).toNat=0 by omega] at he;simp at he
theorem a8S{x:List UInt8×Int}(h0:0≤x.2)(h:(List.drop x.2.toNat (List.take (x.2+2).toNat x.1)==[47,47])=false):0=(Cr (x.1.drop x.2.toNat):Int):=by
 rw[a0s h0] at h
 rw[a0r (by simpa using h)];rfl
theorem a8T{x:List UInt8×Int}(h0:0≤x.2)(h:x.2+2>x.1.length):0=(Cr (x.1.drop x.2.toNat):Int):=by
 rw[a0r]
 ·rfl
 ·intro e;have:=congrArg List.length e;simp at this;omega
theorem a8U{x:List UInt8×Int}{i:Int}{c d:UInt8}(h0:0≤x.2)(h:nI x i)(hn:(c.toNat:Int)≠10)(hc:x.1[i.toNat]? =some c)(hp:Cl d=false)(hd:x.1[i.toNat]? =some d):0=(Cr (x.1.drop x.2.toNat):Int):=by
 rw[hc] at hd;cases hd
 rw[a8K h.2.1 h.2.2 (by rw[Pw h0 h.1.1];exact hc) (by simp [Ch];omega) hp];rfl
theorem a8V{x:List UInt8×Int}{i:Int}{c d:UInt8}(h0:0≤x.2)(h:nI x i)(hl:i<x.1.length)(hn:(c.toNat:Int)≠10)(hc:x.1[i.toNat]? =some c)(hp:Cl d=true)(hd:x.1[i.toNat]? =some d):nI x (i+1):=by
 rw[hc] at hd;cases hd
 have:=h.1
 exact⟨by omega,h.2.1,Rr (p:=fun e=>Ch e=true∧Cl e=true) h.2.2 (by rw[Pw h0 h.1.1];exact hc) ⟨by simp [Ch];omega,hp⟩ (by omega)⟩
theorem a8W{x:List UInt8×Int}{i:Int}{c:UInt8}(h0:0≤x.2)(h:nI x i)(hn:(c.toNat:Int)=10)(hc:x.1[i.toNat]? =some c):i-x.2=(Cr (x.1.drop x.2.toNat):Int):=by
 have:=h.1
 have hl:=(List.getElem?_eq_some_iff.1 hc).1
 rw[a0q h.2.1 h.2.2 (.inr ⟨c,by rw[Pw h0 h.1.1];exact hc,by simp [Ch];omega⟩) (by simp;omega)];omega
theorem a8X{x:List UInt8×Int}{i:Int}(h0:0≤x.2)(h:nI x i)(hl:¬i<x.1.length):i-x.2=(Cr (x.1.drop x.2.toNat):Int):=by
 have:=h.1
 rw[a0q h.2.1 h.2.2 (.inl (by simp;omega)) (by simp;omega)];omega
def nmI(x:List UInt8)(i:Int):Prop:=(0≤i∧i≤x.length)∧(inn x.length 1 30=true∧Cw (x.headD 0)=true∧kw x=false)∧∀e∈x.take i.toNat,BP e=true
theorem VG{x:List UInt8}:DY x=true↔(inn x.length 1 30=true∧Cw (x.headD 0)=true∧kw x=false)∧x.all BP=true:=by
 unfold DY
 rw[a8G]
 cases x with
 |nil=>simp [inn]
 |cons c t=>
  simp only[inn,Bool.and_eq_true,decide_eq_true_eq,Bool.not_eq_true',List.headD_cons,List.length_cons]
  constructor
  ·rintro⟨⟨h1,h2,h3⟩,h4⟩;exact⟨⟨⟨by omega,by omega⟩,h1,h4⟩,h2⟩
  ·rintro⟨⟨⟨h1,h2⟩,h3,h4⟩,h5⟩;exact⟨⟨h3,h5,by omega⟩,h4⟩
theorem a0t{x:List UInt8}{c:UInt8}(h:x[0]? =some c):x.headD 0=c:=by cases x<;>simp_all
theorem VH{x:List UInt8}(h:¬(inn x.length 1 30=true∧Cw (x.headD 0)=true∧kw x=false)):false=DY x:=by
 symm;rw[Bool.eq_false_iff];intro hn;exact h (VG.1 hn).1
theorem a8Y{x:List UInt8}(h:inn x.length 1 30=true)(h1:Cw (x.headD 0)=true)(h2:kw x=false):nmI x 0:=⟨by omega,⟨h,h1,h2⟩,fun e he=>by simp at he⟩
theorem a0u{x:List UInt8}{i:Int}{c:UInt8}(h:nmI x i)(hc:x[i.toNat]? =some c)(hl:i<x.length)(hp:BP c=true):nmI x (i+1):=by
 have:=h.1
 exact⟨by omega,h.2.1,Rr (p:=fun e=>BP e=true) h.2.2 hc hp (by omega)⟩
theorem a8Z{x:List UInt8}{i:Int}{c:UInt8}(h:nmI x i)(hc:x[i.toNat]? =some c)(hp:BP c=false):false=DY x:=by
 symm;rw[Bool.eq_false_iff];intro hn
 have:=(VG.1 hn).2
 rw[Rj hc hp] at this;cases this
theorem a9a{x:List UInt8}{i:Int}(h:nmI x i)(hl:¬i<x.length):true=DY x:=by
 symm;rw[VG];exact⟨h.2.1,Vx h.2.2 (by omega)⟩
theorem a9b{x:List UInt8}{c:UInt8}(h1:(x.length:Int)>1)(hq:(c.toNat:Int)=39)(h:x[0]? =some c):((CD x:Int)==(x.length:Int))=Cx x 3:=by
 cases x with
 |nil=>cases h
 |cons d t=>
  have:d=c:=by simpa using h
  subst this
  have e:isQ d=true:=by simp [isQ];omega
  rw[VD,Bool.eq_iff_iff]
  simp [e] at h1 ⊢;omega
theorem a9c{x:List UInt8}{c:UInt8}(hq:(c.toNat:Int)≠39)(h:x[0]? =some c):false=Cx x 3:=by
 cases x with
 |nil=>cases h
 |cons d t=>
  have:d=c:=by simpa using h
  subst this
  have e:isQ d=false:=by simp [isQ];omega
  rw[VD];simp [e]
theorem a9d{x:List UInt8}(h1:¬(x.length:Int)>1):false=Cx x 3:=by
 rw[VD]
 cases x with
 |nil=>rfl
 |cons d t=>
  have:decide (1<(d::t).length)=false:=decide_eq_false (by omega)
  simp only[this,Bool.false_and,Bool.and_false]
theorem a9e{x:List UInt8}(h1:(x.length:Int)>1)(h2:(Cr x:Int)=x.length):(CI x==x)=Cx x 5:=by
 rw[VE]
 have e1:decide (1<x.length)=true:=decide_eq_true (by omega)
 have e2:decide (Cr x=x.length)=true:=decide_eq_true (by omega)
 simp [e1,e2]
theorem a9f{x:List UInt8}(h2:(Cr x:Int)≠x.length):false=Cx x 5:=by
 rw[VE]
 have e2:decide (Cr x=x.length)=false:=decide_eq_false (by omega)
 simp only[e2,Bool.false_and,Bool.and_false]
theorem a9g{x:List UInt8}(h1:¬(x.length:Int)>1):false=Cx x 5:=by
 rw[VE]
 have e2:decide (1<x.length)=false:=decide_eq_false (by omega)
 simp only[e2,Bool.false_and]
end Go.My
end
section
namespace Go.My
open Go.Eng Go.Proofs
variable {G:GInv}
def HB:Sig:= {X:=List UInt8,args:=fun x=>[.str x],pre:=fun x=>True,Y:=Unit,post:=fun x y=>True,res:=fun x y=> .bool (kw x),outs:=fun x y=>[.top],keep:=false}
theorem a9h:Al G Tryz.prog 182 HB:=
 vcFun_okP [] [] false (fun x=>[]) Tryz.func182 rfl (by decide) trivial (fun(x:List UInt8)=>(∀(y:Unit),True→True∧True∧True)∧Ab (x== #[(99:UInt8),(108:UInt8),(97:UInt8),(115:UInt8),(115:UInt8)].toList) (rA HB x [.bool true,.top]) (Ab (x== #[(118:UInt8),(97:UInt8),(114:UInt8)].toList) (rA HB x [.bool true,.top]) (Ab (x== #[(105:UInt8),(102:UInt8)].toList) (rA HB x [.bool true,.top]) (Ab (x== #[(101:UInt8),(108:UInt8),(115:UInt8),(101:UInt8)].toList) (rA HB x [.bool true,.top]) (Ab (x== #[(119:UInt8),(104:UInt8),(105:UInt8),(108:UInt8),(101:UInt8)].toList) (rA HB x [.bool true,.top]) (Ab (x== #[(114:UInt8),(101:UInt8),(116:UInt8),(117:UInt8),(114:UInt8),(110:UInt8)].toList) (rA HB x [.bool true,.top]) (rA HB x [.bool false,.top]))))))) (fun x=>by kernel_rfl) fun(x:List UInt8) (hx:True)=>(by
 dsimp only[rA,HB,Aw,Az]
 (repeat' first|(with_reducible first|rfl|exact True.intro|apply AK|apply And.intro|((first|apply AA|apply AI|apply AB|apply AJ)<;>intro _))|(apply Ax<;>intro _)|apply AH|refine Af () ?_ ?_|((first|apply AO|apply AN|apply AM|apply AL|apply AG|apply AF|apply AE|apply AD|apply AC)<;>try dsimp only)|apply Af|(refine Prod.forall.2 ?_;intro _;try dsimp only)|(intro _;try dsimp only))<;>(try dsimp only at*)<;>(try simp only[AQ,List.length_cons,List.length_nil])<;>(try omega)
 all_goals simp [kw, *])
def Gp:Sig:= {X:=List UInt8,args:=fun x=>[.str x],pre:=fun x=>True,Y:=Unit,post:=fun x y=>True,res:=fun x y=> .bool (kw x),outs:=fun x y=>[.top],keep:=false}
theorem VI:Al G Tryz.prog 89 Gp:=
 vcFun_okP [] [] false (fun x=>[]) Tryz.func89 rfl (by decide) trivial (fun(x:List UInt8)=>(∀(y:Unit),True→True∧True∧True)∧Ab (x== #[(99:UInt8),(108:UInt8),(97:UInt8),(115:UInt8),(115:UInt8)].toList) (rA Gp x [.bool true,.top]) (Ab (x== #[(118:UInt8),(97:UInt8),(114:UInt8)].toList) (rA Gp x [.bool true,.top]) (Ab (x== #[(105:UInt8),(102:UInt8)].toList) (rA Gp x [.bool true,.top]) (Ab (x== #[(101:UInt8),(108:UInt8),(115:UInt8),(101:UInt8)].toList) (rA Gp x [.bool true,.top]) (Ab (x== #[(119:UInt8),(104:UInt8),(105:UInt8),(108:UInt8),(101:UInt8)].toList) (rA Gp x [.bool true,.top]) (Ab (x== #[(114:UInt8),(101:UInt8),(116:UInt8),(117:UInt8),(114:UInt8),(110:UInt8)].toList) (rA Gp x [.bool true,.top]) (rA Gp x [.bool false,.top]))))))) (fun x=>by kernel_rfl) fun(x:List UInt8) (hx:True)=>(by
 dsimp only[rA,Gp,Aw,Az]
 (repeat' first|(with_reducible first|rfl|exact True.intro|apply AK|apply And.intro|((first|apply AA|apply AI|apply AB|apply AJ)<;>intro _))|(apply Ax<;>intro _)|apply AH|refine Af () ?_ ?_|((first|apply AO|apply AN|apply AM|apply AL|apply AG|apply AF|apply AE|apply AD|apply AC)<;>try dsimp only)|apply Af|(refine Prod.forall.2 ?_;intro _;try dsimp only)|(intro _;try dsimp only))<;>(try dsimp only at*)<;>(try simp only[AQ,List.length_cons,List.length_nil])<;>(try omega)
 all_goals simp [kw, *])
theorem a9i{c:UInt8}:decide (CL mk1 c≥0)=mk1.elem c:=by
 unfold CL
 cases h:DX (fun d=>decide (d.toNat=c.toNat)) mk1 with
 |none=>
  have:=Vy.1 h
  symm
  simp only[Int.reduceNeg,ge_iff_le,Int.reduceLE,decide_false]
  rw[Bool.eq_false_iff]
  intro h2
  have h3:=this c (by simpa using h2)
  simp at h3
 |some i=>
  obtain⟨_,e,he,hq⟩:=Lt.1 h
  have h3:e=c:=by simpa [UInt8.toNat_inj] using hq
  subst h3
  have:=List.mem_of_getElem? he
  simp [this]
def HC:Sig:= {X:=List UInt8,args:=fun x=>[.str x],pre:=fun x=>x.length<2^63,Y:=Unit,post:=fun x y=>True,res:=fun x y=> .bool (CH x),outs:=fun x y=>[.top],keep:=false}
theorem a9j:Al G Tryz.prog 168 HC:=
 vcFun_okP [(194,0,Nx)] [] false (fun x=>[]) Tryz.func168 rfl (by decide) ⟨a8o,trivial⟩ (fun(x:List UInt8)=>(∀(y:Unit),True→True∧True∧True)∧Ab (x== #[(38:UInt8),(38:UInt8)].toList) (rA HC x [.bool true,.top]) (Ab (x== #[(124:UInt8),(124:UInt8)].toList) (rA HC x [.bool true,.top]) (Ab (x== #[(61:UInt8),(61:UInt8)].toList) (rA HC x [.bool true,.top]) (Ab (x== #[(61:UInt8),(62:UInt8)].toList) (rA HC x [.bool true,.top]) (Ab (x== #[(46:UInt8),(46:UInt8)].toList) (rA HC x [.bool true,.top]) (Ab ((↑(List.length x):Int)==(1:Int)) (cA Nx [.str #[(40:UInt8),(41:UInt8),(123:UInt8),(125:UInt8),(91:UInt8),(93:UInt8),(59:UInt8),(44:UInt8),(46:UInt8),(61:UInt8),(43:UInt8),(45:UInt8),(42:UInt8),(60:UInt8),(63:UInt8),(58:UInt8)].toList,.str x] fun x_1 y=>rA HC x [.bool (decide (CL x_1.1 (List.headD x_1.2 (0:UInt8))≥(0:Int))),.top]) (rA HC x [.bool false,.top]))))))) (fun x=>by kernel_rfl) fun(x:List UInt8) (hx:x.length<2^63)=>(by
 dsimp only[cA,rA,HC,Nx,Aw,Az,mvL,lnL,mvE,lnE]
 (repeat' first|(with_reducible first|rfl|exact True.intro|apply AK|apply And.intro|((first|apply AA|apply AI|apply AB|apply AJ)<;>intro _))|(apply Ax<;>intro _)|apply AH|refine Af () ?_ ?_|((first|apply AO|apply AN|apply AM|apply AL|apply AG|apply AF|apply AE|apply AD|apply AC)<;>try dsimp only)|apply Af|(refine Prod.forall.2 ?_;intro _;try dsimp only)|(intro _;try dsimp only))<;>(try dsimp only at*)<;>(try simp only[AQ,List.length_cons,List.length_nil])<;>(try omega)
 ·rename_i h;simp [CH,mk2,h]
 ·rename_i h;simp [CH,mk2,h]
 ·rename_i h;simp [CH,mk2,h]
 ·rename_i h;simp [CH,mk2,h]
 ·rename_i h;simp [CH,mk2,h]
 ·rename_i h1 h2 h3 h4 h5 h _ _
  have h:x.length=1:=by omega
  match x,h with
  |[c],_=>exact a9i.trans (by simp [CH,mk2])
 ·rename_i h1 h2 h3 h4 h5 h
  symm;simp only[CH,mk2,Bool.or_eq_false_iff,beq_eq_false_iff_ne]
  refine⟨⟨h1,h2,h3,h4,h5⟩,?_⟩
  split
  ·simp at h
  ·rfl)
def Lz:Sig:= {X:=List UInt8,args:=fun x=>[.str x,.int .u8 32],pre:=fun x=>x.length<2^63,Y:=Unit,post:=fun x y=>True,res:=fun x y=> .str (CI x),outs:=fun x y=>[.top,.top],keep:=false}
def Rs(x:List UInt8):LS:= {ι:=List UInt8,inv:=fun s=>s.length≤x.length∧CI s=CI x,regs:=fun s=>[(0,.str s),(1,.int .u8 32)],als:=[],meas:=fun s=>s.length}
theorem a9k:Al G Tryz.prog 213 Lz:=
 vcFun_okP [] [] false (fun x=>[(1,Rs x)]) Tryz.func213 rfl (by decide) trivial (fun(x:List UInt8)=>(∀(y:Unit),True→True∧True∧True∧True)∧eA (Rs x) [.str x,AV.int IntKind.u8 (32:Int)]∧∀(i:List UInt8),List.length i≤List.length x∧CI i=CI x→Ab (decide ((↑(List.length i):Int)>(0:Int))) (inR IntKind.i64 ((↑(List.length i):Int)-(1:Int))∧((0:Int)≤(↑(List.length i):Int)-(1:Int)∧(↑(List.length i):Int)-(1:Int)<(↑(List.length i):Int))∧∀(c:UInt8),i[Int.toNat ((↑(List.length i):Int)-(1:Int))]? =some c→Ab ((↑(UInt8.toNat c):Int)==(32:Int)) (inR IntKind.i64 ((↑(List.length i):Int)-(1:Int))∧((0:Int)≤(0:Int)∧(0:Int)≤(↑(List.length i):Int)-(1:Int)∧(↑(List.length i):Int)-(1:Int)≤(↑(List.length i):Int))∧eN (Rs x) i [.str (List.take (Int.toNat ((↑(List.length i):Int)-(1:Int))) i),AV.int IntKind.u8 (32:Int)]) (rA Lz x [.str i,.top,.top])) (rA Lz x [.str i,.top,.top])) (fun x=>by kernel_rfl) fun(x:List UInt8) (hx:x.length<2^63)=>(by
 dsimp only[eA,eN,Rs,rA,Lz,Aw,Az,Bv]
 (repeat' first|(with_reducible first|rfl|exact True.intro|apply AK|apply And.intro|((first|apply AA|apply AI|apply AB|apply AJ)<;>intro _))|(apply Ax<;>intro _)|apply AH|refine Af () ?_ ?_|((first|apply AO|apply AN|apply AM|apply AL|apply AG|apply AF|apply AE|apply AD|apply AC)<;>try dsimp only)|apply Af|(refine Prod.forall.2 ?_;intro _;try dsimp only)|(intro _;try dsimp only))<;>(try dsimp only at*)<;>(try simp only[AQ,List.length_cons,List.length_nil])<;>(try omega)
 ·rename_i s hs h c hc h2;simp;omega
 ·rename_i s hs h c hc h2;simp;omega
 ·rename_i s hs h c hc h2
  have e:((s.length:Int)-1).toNat=s.length-1:=by omega
  rw[e] at hc ⊢
  rw[←hs.2,a0l hc,if_pos (by omega)]
 ·rename_i s hs h c hc h2
  have e:((s.length:Int)-1).toNat=s.length-1:=by omega
  rw[e] at hc
  rw[←hs.2,a0l hc,if_neg (by omega)]
 ·rename_i s hs h
  have:s=[]:=List.length_eq_zero_iff.1 (by omega)
  rw[←hs.2,this];rfl)
def LA:Sig:= {X:=List UInt8,args:=fun x=>[.str x,.str [32]],pre:=fun x=>x.length<2^63,Y:=Unit,post:=fun x y=>True,res:=fun x y=> .str (CI x),outs:=fun x y=>[.top,.top],keep:=false}
theorem a9l:Al G Tryz.prog 193 LA:=
 vcFun_okP [(213,0,Lz)] [] false (fun x=>[]) Tryz.func193 rfl (by decide) ⟨a9k,trivial⟩ (fun(x:List UInt8)=>(∀(y:Unit),True→True∧True∧True∧True)∧Ab (x== #[].toList) (rA LA x [.str x,.top,.top]) (((0:Int)≤(0:Int)∧(0:Int)<(↑(1:Nat):Int))∧∀(c:UInt8),[(32:UInt8)][(0:Nat)]? =some c→Ab (decide ((↑(UInt8.toNat c):Int)<(128:Int))) (((0:Int)≤(0:Int)∧(0:Int)<(↑(1:Nat):Int))∧∀(c:UInt8),[(32:UInt8)][(0:Nat)]? =some c→cA Lz [.str x,AV.int IntKind.u8 (↑(UInt8.toNat c):Int)] fun x_1 y=>rA LA x [.str (CI x_1),.top,.top]) False)) (fun x=>by kernel_rfl) fun(x:List UInt8) (hx:x.length<2^63)=>(by
 dsimp only[cA,rA,Lz,LA,Aw,Az,mvL,lnL,mvE,lnE]
 refine⟨fun _ _=>⟨trivial,trivial,trivial,trivial⟩,AB (fun h=>⟨(),trivial,by rw[h];rfl,trivial⟩) (fun h=>⟨by omega,fun c hc=> ?_⟩)⟩
 have hc:32=c:=by simpa using hc
 subst hc
 refine AA (fun _=>⟨by omega,fun c hc=> ?_⟩) (fun h=>(h (by decide)).elim)
 have hc:32=c:=by simpa using hc
 subst hc
 exact⟨x,hx,rfl,rfl,fun _ _=>⟨(),trivial,rfl,trivial⟩⟩)
def NC:Sig:= {X:=List UInt8,args:=fun x=>[.str x],pre:=fun x=>x.length<2^63,Y:=Unit,post:=fun x y=>True,res:=fun x y=> .str (CI x),outs:=fun x y=>[.top],keep:=false}
theorem a9m:Al G Tryz.prog 166 NC:=
 vcFun_okP [(193,0,LA)] [] false (fun x=>[]) Tryz.func166 rfl (by decide) ⟨a9l,trivial⟩ (fun(x:List UInt8)=>(∀(y:Unit),True→True∧True∧True)∧cA LA [.str x,.str #[(32:UInt8)].toList] fun x_1 y=>rA NC x [.str (CI x_1),.top]) (fun x=>by kernel_rfl) fun(x:List UInt8) (hx:x.length<2^63)=>(by
 dsimp only[cA,rA,NC,LA,Aw,Az,mvL,lnL,mvE,lnE]
 (repeat' first|(with_reducible first|rfl|exact True.intro|apply AK|apply And.intro|((first|apply AA|apply AI|apply AB|apply AJ)<;>intro _))|(apply Ax<;>intro _)|apply AH|refine Af () ?_ ?_|((first|apply AO|apply AN|apply AM|apply AL|apply AG|apply AF|apply AE|apply AD|apply AC)<;>try dsimp only)|apply Af|(refine Prod.forall.2 ?_;intro _;try dsimp only)|(intro _;try dsimp only))<;>(try dsimp only at*)<;>(try simp only[AQ,List.length_cons,List.length_nil])<;>(try omega))
def IU:Sig:= {X:=List UInt8,args:=fun x=>[.str x],pre:=fun x=>x.length<2^63,Y:=Unit,post:=fun x y=>True,res:=fun x y=> .str (CI x),outs:=fun x y=>[.top],keep:=false}
def Rt(x:List UInt8):LS:= {ι:=Int,inv:=fun i=>0≤i∧i≤x.length∧CI (x.take i.toNat)=CI x,regs:=fun i=>[(0,.str x),(3,.int .i64 i)],als:=[],meas:=fun i=>i.toNat}
theorem a0v:Al G Tryz.prog 84 IU:=
 vcFun_okP [] [] false (fun x=>[(2,Rt x)]) Tryz.func84 rfl (by decide) trivial (fun(x:List UInt8)=>(∀(y:Unit),True→True∧True∧True)∧eA (Rt x) [.str x,.int .i64 (↑(List.length x):Int)]∧∀(i:Int),(0:Int)≤i∧i≤(↑(List.length x):Int)∧CI (List.take (Int.toNat i) x)=CI x→Ab (decide (i>(0:Int))) (inR IntKind.i64 (i-(1:Int))∧((0:Int)≤i-(1:Int)∧i-(1:Int)<(↑(List.length x):Int))∧∀(c:UInt8),x[Int.toNat (i-(1:Int))]? =some c→Ab ((↑(UInt8.toNat c):Int)==(32:Int)) (inR IntKind.i64 (i-(1:Int))∧eN (Rt x) i [.str x,.int .i64 (i-(1:Int))]) (((0:Int)≤(0:Int)∧(0:Int)≤i∧i≤(↑(List.length x):Int))∧rA IU x [.str (List.take (Int.toNat i) x),.top])) (((0:Int)≤(0:Int)∧(0:Int)≤i∧i≤(↑(List.length x):Int))∧rA IU x [.str (List.take (Int.toNat i) x),.top])) (fun x=>by kernel_rfl) fun(x:List UInt8) (hx:x.length<2^63)=>(by
 dsimp only[eA,eN,Rt,rA,IU,Aw,Az,Bv]
 (repeat' first|(with_reducible first|rfl|exact True.intro|apply AK|apply And.intro|((first|apply AA|apply AI|apply AB|apply AJ)<;>intro _))|(apply Ax<;>intro _)|apply AH|refine Af () ?_ ?_|((first|apply AO|apply AN|apply AM|apply AL|apply AG|apply AF|apply AE|apply AD|apply AC)<;>try dsimp only)|apply Af|(refine Prod.forall.2 ?_;intro _;try dsimp only)|(intro _;try dsimp only))<;>(try dsimp only at*)<;>(try simp only[AQ,List.length_cons,List.length_nil])<;>(try omega)
 ·simp
 ·rename_i i hi h c hc h2
  rw[←hi.2.2,show i.toNat=(i-1).toNat+1 by omega,a0m hc,if_pos (by omega)]
 ·rename_i i hi h c hc h2
  have:=hi.2.2
  rw[show i.toNat=(i-1).toNat+1 by omega,a0m hc,if_neg (by omega)] at this
  rw[←this,show i.toNat=(i-1).toNat+1 by omega]
 ·rename_i i hi h
  rw[←hi.2.2,show i.toNat=0 by omega];rfl)
theorem a9n(s:List UInt8)(c:UInt8):CL s c= -1∨(0≤CL s c∧CL s c<s.length):=by
 unfold CL
 split
 ·exact .inl rfl
 ·rename_i i h;have:=VC h;omega
theorem a0w{s:List UInt8}:DD s=if CL (s.drop 1) 39<0 then([],false) else(s.take (CL (s.drop 1) 39+2).toNat,(s.take (CL (s.drop 1) 39+2).toNat).all Cl):=by
 unfold DD CL
 have e:(fun c:UInt8=>decide (c.toNat=39))=fun d:UInt8=>decide (d.toNat=(39:UInt8).toNat):=rfl
 rw[e]
 cases DX (fun d:UInt8=>decide (d.toNat=(39:UInt8).toNat)) (s.drop 1) with
 |none=>simp
 |some i=>
  have h1:¬(i:Int)<0:=by omega
  have h2:((i:Int)+2).toNat=i+2:=by omega
  simp only[if_neg h1,h2]
def LB:Sig:= {X:=List UInt8,args:=fun x=>[.str x],pre:=fun x=>1≤x.length∧x.length<2^62,Y:=Unit,post:=fun x y=>True,res:=fun x y=> .tup [.str (DD x).1,.bool (DD x).2],outs:=fun x y=>[.top],keep:=false}
theorem a9o:Al G Tryz.prog 163 LB:=
 vcFun_okP [(191,0,Nv),(167,0,Ia)] [] false (fun x=>[]) Tryz.func163 rfl (by decide) ⟨a8l,a0j,trivial⟩ (fun(x:List UInt8)=>(∀(y:Unit),True→(True∧True∧True)∧True∧True)∧((0:Int)≤(1:Int)∧(1:Int)≤(↑(List.length x):Int)∧(↑(List.length x):Int)≤(↑(List.length x):Int))∧cA Nv [.str (List.drop (1:Nat) x),AV.int IntKind.u8 (39:Int)] fun x_1 y=>Ab (decide (CL x_1 (39:UInt8)<(0:Int))) (rA LB x [.tup [.str #[].toList,.bool false],.top]) (inR IntKind.i64 (CL x_1 (39:UInt8)+(2:Int))∧((0:Int)≤(0:Int)∧(0:Int)≤CL x_1 (39:UInt8)+(2:Int)∧CL x_1 (39:UInt8)+(2:Int)≤(↑(List.length x):Int))∧cA Ia [.str (List.take (Int.toNat (CL x_1 (39:UInt8)+(2:Int))) x)] fun x_2 y=>rA LB x [.tup [.str (List.take (Int.toNat (CL x_1 (39:UInt8)+(2:Int))) x),.bool (List.all x_2 Cl)],.top])) (fun x=>by kernel_rfl) fun(x:List UInt8) (hx:1≤x.length∧x.length<2^62)=>(by
 dsimp only[cA,rA,Ia,LB,Nv,Aw,Az,mvL,lnL,mvE,lnE]
 obtain⟨h1,h2⟩:=hx
 have hq:=a9n (x.drop 1) 39;have hl:(x.drop 1).length=x.length-1:=by simp
 (repeat' first|(with_reducible first|rfl|exact True.intro|apply AK|apply And.intro|((first|apply AA|apply AI|apply AB|apply AJ)<;>intro _))|(apply Ax<;>intro _)|apply AH|refine Af () ?_ ?_|((first|apply AO|apply AN|apply AM|apply AL|apply AG|apply AF|apply AE|apply AD|apply AC)<;>try dsimp only)|apply Af|(refine Prod.forall.2 ?_;intro _;try dsimp only)|(intro _;try dsimp only))<;>(try dsimp only at*)<;>(try simp only[AQ,List.length_cons,List.length_nil])<;>(try omega)
 all_goals first
  |omega
  |(rw[a0w,if_neg ‹¬CL _ 39<0›];done)
  |(rw[a0w,if_pos ‹CL _ 39<0›];done)
  |(simp;omega))
def Ic:Sig:= {X:=List UInt8,args:=fun x=>[.str x],pre:=fun x=>1≤x.length∧x.length<2^62,Y:=Unit,post:=fun x y=>True,res:=fun x y=> .tup [.int .i64 (Bh x).kind,.str (Bh x).text,.int .i64 (Bh x).size,.bool (Bh x).ok],outs:=fun x y=>[.top],keep:=false}
def Ru(x:List UInt8):LS:= {ι:=Int,inv:=fun i=>Ib x i,regs:=fun i=>[(0,.str x),(12,.int .i64 i)],als:=[],meas:=fun i=>i.toNat}
theorem a9p:Al G Tryz.prog 131 Ic:=
 vcFun_okP [(159,0,FV),(160,161+1,Lw),(162,0,GT),(160,162+1,Lx),(163,0,LB),(164,0,Ny),(160,165+1,Ly),(166,0,NC),(167,0,Ia),(168,0,HC)] [] false (fun x=>[(15,Ru x)]) Tryz.func131 rfl (by decide) ⟨a0g,a8t,VB,a8u,a9o,a8q,a8v,a9m,a0j,a9j,trivial⟩ (fun(x:List UInt8)=>(∀(y:Unit),True→(True∧True∧True∧True∧True)∧True∧True)∧((0:Int)≤(0:Int)∧(0:Int)<(↑(List.length x):Int))∧∀(c:UInt8),x[(0:Nat)]? =some c→cA FV [AV.int IntKind.u8 (↑(UInt8.toNat c):Int)] fun x_1 y=>Ab (Cw x_1) (cA Lw [.str x,AV.clo (Fn.func (84:Nat)) []] fun x_2 y=>rA Ic x [.tup [.int .i64 (1:Int),.str (List.takeWhile BP x_2),.int .i64 (↑(List.length (List.takeWhile BP x_2)):Int),.bool (decide ((↑(List.length (List.takeWhile BP x_2)):Int)≤(30:Int)))],.top]) (cA GT [AV.int IntKind.u8 (↑(UInt8.toNat c):Int)] fun x_2 y=>Ab (Bg x_2) (cA Lx [.str x,AV.clo (Fn.func (85:Nat)) []] fun x_3 y=>rA Ic x [.tup [.int .i64 (2:Int),.str (List.takeWhile Bg x_3),.int .i64 (↑(List.length (List.takeWhile Bg x_3)):Int),.bool (decide ((↑(List.length (List.takeWhile Bg x_3)):Int)≤(12:Int)))],.top]) (Ab ((↑(UInt8.toNat c):Int)==(39:Int)) (cA LB [.str x] fun x_3 y=>rA Ic x [.tup [.int .i64 (3:Int),.str (DD x_3).1,.int .i64 (↑(List.length (DD x_3).1):Int),.bool (DD x_3).2],.top]) (cA Ny [.str x,.str #[(47:UInt8),(47:UInt8)].toList] fun x_3 y=>Ab (List.take (List.length x_3.2) x_3.1==x_3.2) (cA Ly [.str x,AV.clo (Fn.func (88:Nat)) []] fun x_4 y=>cA NC [.str (List.takeWhile Ch x_4)] fun x_5 y=>cA Ia [.str (List.takeWhile Ch x_4)] fun x_6 y=>rA Ic x [.tup [.int .i64 (5:Int),.str (CI x_5),.int .i64 (↑(List.length (List.takeWhile Ch x_4)):Int),.bool (List.all x_6 Cl)],.top]) (eA (Ru x) [.str x,.int .i64 (min (2:Int) (↑(List.length x):Int))]∧∀(i:Int),Ib x i→Ab (decide (i>(0:Int))) (((0:Int)≤(0:Int)∧(0:Int)≤i∧i≤(↑(List.length x):Int))∧cA HC [.str (List.take (Int.toNat i) x)] fun x_4 y=>Ab (CH x_4) (true=true∧true=true∧((0:Int)≤(0:Int)∧(0:Int)≤i∧i≤(↑(List.length x):Int))∧rA Ic x [.tup [.int .i64 (4:Int),.str (List.take (Int.toNat i) x),.int .i64 i,.bool true],.top]) (inR IntKind.i64 (i-(1:Int))∧eN (Ru x) i [.str x,.int .i64 (i-(1:Int))])) (rA Ic x [.tup [.int .i64 (0:Int),.str #[].toList,.int .i64 (0:Int),.bool false],.top])))))) (fun x=>by kernel_rfl) fun(x:List UInt8) (hx:1≤x.length∧x.length<2^62)=>(by
 dsimp only[cA,eA,eN,Ru,rA,NC,GT,FV,Ia,HC,LB,Lx,Lw,Ly,Ny,Ic,Aw,Az,mvL,lnL,mvE,lnE,Bv]
 obtain⟨h1,h2⟩:=hx
 have h3:x.length<9223372036854775808:=by omega
 match x,h1,h2,h3 with
 |b::t,h1,h2,h3=>
 (repeat' first|(with_reducible first|rfl|exact True.intro|apply AK|apply And.intro|((first|apply AA|apply AI|apply AB|apply AJ)<;>intro _))|(apply Ax<;>intro _)|apply AH|refine Af () ?_ ?_|((first|apply AO|apply AN|apply AM|apply AL|apply AG|apply AF|apply AE|apply AD|apply AC)<;>try dsimp only)|apply Af|(refine Prod.forall.2 ?_;intro _;try dsimp only)|(intro _;try dsimp only))<;>(try dsimp only at*)<;>(try simp only[AQ,List.length_cons,List.length_nil])<;>(try omega)
 all_goals(try simp only[List.getElem?_cons_zero,Option.some.injEq] at*)
 all_goals(try subst_vars)
 all_goals first
  |exact h3
  |(rw[a8A ‹_›];done)
  |(rw[a8B ‹_› ‹_›];done)
  |(rw[a8C ‹_› ‹_› ‹_›];done)
  |(rw[a8D ‹_› ‹_› ‹_› ‹_›];done)
  |(rw[a8w ‹_› h1 ‹_› ‹_›];done)
  |(rw[a8x ‹_› h1 ‹_›];done)
  |exact a8y ‹_› ‹_› ‹_›
  |exact a8z ‹_› ‹_› (by omega) ‹_›
  |exact Nat.lt_of_le_of_lt (List.takeWhile_prefix _).length_le h3
  |(have hI:=(‹Ib _ _› :Ib _ _).1;rw[List.length_cons] at hI;omega)
  |(have hI:=(‹Ib _ _› :Ib _ _).1;rw[List.length_take];omega)
  |trace_state)
def FW:Sig:= {X:=List UInt8×Int,args:=fun x=>[.str x.1,.int .i64 x.2],pre:=fun x=>x.1.length<2^62,Y:=Unit,post:=fun x y=>True,res:=fun x y=> .bool (Cx x.1 x.2),outs:=fun x y=>[.top,.top],keep:=false}
theorem a0x:Al G Tryz.prog 139 FW:=
 vcFun_okP [(131,0,Ic)] [] false (fun x=>[]) Tryz.func139 rfl (by decide) ⟨a9p,trivial⟩ (fun(x:List UInt8×Int)=>(∀(y:Unit),True→True∧True∧True∧True)∧Ab (x.1== #[].toList) (rA FW x [.bool false,.top,.top]) (cA Ic [.str x.1] fun x_1 y=>Ab (Bh x_1).ok (Ab ((Bh x_1).kind==x.2) (Ab ((Bh x_1).text==x.1) (rA FW x [.bool ((Bh x_1).size==(↑(List.length x.1):Int)),.top,.top]) (rA FW x [.bool false,.top,.top])) (rA FW x [.bool false,.top,.top])) (rA FW x [.bool false,.top,.top]))) (fun x=>by kernel_rfl) fun(x:List UInt8×Int) (hx:x.1.length<2^62)=>(by
 dsimp only[cA,rA,FW,Ic,Aw,Az,mvL,lnL,mvE,lnE]
 (repeat' first|(with_reducible first|rfl|exact True.intro|apply AK|apply And.intro|((first|apply AA|apply AI|apply AB|apply AJ)<;>intro _))|(apply Ax<;>intro _)|apply AH|refine Af () ?_ ?_|((first|apply AO|apply AN|apply AM|apply AL|apply AG|apply AF|apply AE|apply AD|apply AC)<;>try dsimp only)|apply Af|(refine Prod.forall.2 ?_;intro _;try dsimp only)|(intro _;try dsimp only))<;>(try dsimp only at*)<;>(try simp only[AQ,List.length_cons,List.length_nil])<;>(try omega)
 all_goals first
  |exact List.length_pos_iff.2 ‹_›
  |(simp [Cx, *];done)
  |(rw[Bool.eq_iff_iff];simp [Cx, *];done))
def HD:Sig:= {X:=List UInt8,args:=fun x=>[.str x],pre:=fun x=>x.length<2^62,Y:=Unit,post:=fun x y=>True,res:=fun x y=> .bool (DY x),outs:=fun x y=>[.top],keep:=false}
theorem a9q:Al G Tryz.prog 138 HD:=
 vcFun_okP [(139,0,FW),(182,0,HB)] [] false (fun x=>[]) Tryz.func138 rfl (by decide) ⟨a0x,a9h,trivial⟩ (fun(x:List UInt8)=>(∀(y:Unit),True→True∧True∧True)∧cA FW [.str x,.int .i64 (1:Int)] fun x_1 y=>Ab (Cx x_1.1 x_1.2) (cA HB [.str x] fun x_2 y=>rA HD x [.bool !kw x_2,.top]) (rA HD x [.bool false,.top])) (fun x=>by kernel_rfl) fun(x:List UInt8) (hx:x.length<2^62)=>(by
 dsimp only[cA,rA,HB,HD,FW,Aw,Az,mvL,lnL,mvE,lnE]
 (repeat' first|(with_reducible first|rfl|exact True.intro|apply AK|apply And.intro|((first|apply AA|apply AI|apply AB|apply AJ)<;>intro _))|(apply Ax<;>intro _)|apply AH|refine Af () ?_ ?_|((first|apply AO|apply AN|apply AM|apply AL|apply AG|apply AF|apply AE|apply AD|apply AC)<;>try dsimp only)|apply Af|(refine Prod.forall.2 ?_;intro _;try dsimp only)|(intro _;try dsimp only))<;>(try dsimp only at*)<;>(try simp only[AQ,List.length_cons,List.length_nil])<;>(try omega)
 all_goals simp [DY, *])
def DL:Sig:= {X:=Nd,args:=fun x=>[.agg (ndA false x)],pre:=fun x=>x.text.length<2^62,Y:=Unit,post:=fun x y=>True,res:=fun x y=> .bool (Ev x.kind x.text),outs:=fun x y=>[.top],keep:=false}
theorem a9r:Al G Tryz.prog 112 DL:=
 vcFun_okP [(139,0,FW),(138,0,HD)] [] false (fun x=>[]) Tryz.func112 rfl (by decide) ⟨a0x,a9q,trivial⟩ (fun(x:Nd)=>(∀(y:Unit),True→True∧True∧True)∧Ab (x.kind==(1:Int)) (cA HD [.str x.text] fun x_1 y=>rA DL x [.bool (DY x_1),.top]) (Ab (x.kind==(6:Int)) (cA HD [.str x.text] fun x_1 y=>rA DL x [.bool (DY x_1),.top]) (Ab (x.kind==(12:Int)) (cA HD [.str x.text] fun x_1 y=>rA DL x [.bool (DY x_1),.top]) (Ab (x.kind==(13:Int)) (cA HD [.str x.text] fun x_1 y=>rA DL x [.bool (DY x_1),.top]) (Ab (x.kind==(20:Int)) (cA HD [.str x.text] fun x_1 y=>rA DL x [.bool (DY x_1),.top]) (Ab (x.kind==(21:Int)) (cA HD [.str x.text] fun x_1 y=>rA DL x [.bool (DY x_1),.top]) (Ab (x.kind==(2:Int)) (cA FW [.str x.text,.int .i64 (2:Int)] fun x_1 y=>rA DL x [.bool (Cx x_1.1 x_1.2),.top]) (Ab (x.kind==(3:Int)) (cA FW [.str x.text,.int .i64 (3:Int)] fun x_1 y=>rA DL x [.bool (Cx x_1.1 x_1.2),.top]) (Ab (x.kind==(19:Int)) (cA FW [.str x.text,.int .i64 (5:Int)] fun x_1 y=>rA DL x [.bool (Cx x_1.1 x_1.2),.top]) (Ab (x.kind==(7:Int)) (Ab (x.text== #[(38:UInt8),(38:UInt8)].toList) (rA DL x [.bool true,.top]) (Ab (x.text== #[(124:UInt8),(124:UInt8)].toList) (rA DL x [.bool true,.top]) (Ab (x.text== #[(61:UInt8),(61:UInt8)].toList) (rA DL x [.bool true,.top]) (Ab (x.text== #[(60:UInt8)].toList) (rA DL x [.bool true,.top]) (Ab (x.text== #[(43:UInt8)].toList) (rA DL x [.bool true,.top]) (Ab (x.text== #[(45:UInt8)].toList) (rA DL x [.bool true,.top]) (Ab (x.text== #[(42:UInt8)].toList) (rA DL x [.bool true,.top]) (rA DL x [.bool false,.top])))))))) (rA DL x [.bool (x.text== #[].toList),.top]))))))))))) (fun x=>by kernel_rfl) fun(x:Nd) (hx:x.text.length<2^62)=>(by
 dsimp only[cA,Bx,rA,HD,FW,DL,Aw,Az,mvL,lnL,mvE,lnE]
 (repeat' first|(with_reducible first|rfl|exact True.intro|apply AK|apply And.intro|((first|apply AA|apply AI|apply AB|apply AJ)<;>intro _))|(apply Ax<;>intro _)|apply AH|refine Af () ?_ ?_|((first|apply AO|apply AN|apply AM|apply AL|apply AG|apply AF|apply AE|apply AD|apply AC)<;>try dsimp only)|apply Af|(refine Prod.forall.2 ?_;intro _;try dsimp only)|(intro _;try dsimp only))<;>(try dsimp only at*)<;>(try simp only[AQ,List.length_cons,List.length_nil])<;>(try omega)
 all_goals simp [Ev,Pr, *])
def Ie:Sig:= {X:=List UInt8×Int,args:=fun x=>[.str x.1,.int .i64 x.2],pre:=fun x=>0≤x.2∧x.2≤x.1.length∧x.1.length<2^62,Y:=Unit,post:=fun x y=>True,res:=fun x y=> .int .i64 (CD (x.1.drop x.2.toNat)),outs:=fun x y=>[.top,.top],keep:=false}
def Rv(x:List UInt8×Int):LS:= {ι:=Int,inv:=fun i=>qI x i,regs:=fun i=>[(0,.str x.1),(1,.int .i64 x.2),(5,.int .i64 i)],als:=[],meas:=fun i=>x.1.length-i.toNat}
theorem a0y:Al G Tryz.prog 87 Ie:=
 vcFun_okP [(107,0,IT)] [] false (fun x=>[(2,Rv x)]) Tryz.func87 rfl (by decide) ⟨a0i,trivial⟩ (fun(x:List UInt8×Int)=>(∀(y:Unit),True→True∧True∧True∧True)∧inR IntKind.i64 (x.2+(1:Int))∧eA (Rv x) [.str x.1,.int .i64 x.2,.int .i64 (x.2+(1:Int))]∧∀(i:Int),qI x i→Ab (decide (i<(↑(List.length x.1):Int))) (((0:Int)≤i∧i<(↑(List.length x.1):Int))∧∀(c:UInt8),x.1[Int.toNat i]? =some c→Ab ((↑(UInt8.toNat c):Int)==(39:Int)) (inR IntKind.i64 (i+(1:Int))∧inR IntKind.i64 (i+(1:Int)-x.2)∧rA Ie x [.int .i64 (i+(1:Int)-x.2),.top,.top]) (((0:Int)≤i∧i<(↑(List.length x.1):Int))∧∀(c:UInt8),x.1[Int.toNat i]? =some c→cA IT [AV.int IntKind.u8 (↑(UInt8.toNat c):Int)] fun x_1 y=>Ab (!Cl x_1) (rA Ie x [.int .i64 (0:Int),.top,.top]) (inR IntKind.i64 (i+(1:Int))∧eN (Rv x) i [.str x.1,.int .i64 x.2,.int .i64 (i+(1:Int))]))) (rA Ie x [.int .i64 (0:Int),.top,.top])) (fun x=>by kernel_rfl) fun(x:List UInt8×Int) (hx:0≤x.2∧x.2≤x.1.length∧x.1.length<2^62)=>(by
 dsimp only[cA,eA,eN,Rv,rA,IT,Ie,Aw,Az,mvL,lnL,mvE,lnE,Bv]
 obtain⟨h1,h2,h3⟩:=hx
 (repeat' first|(with_reducible first|rfl|exact True.intro|apply AK|apply And.intro|((first|apply AA|apply AI|apply AB|apply AJ)<;>intro _))|(apply Ax<;>intro _)|apply AH|refine Af () ?_ ?_|((first|apply AO|apply AN|apply AM|apply AL|apply AG|apply AF|apply AE|apply AD|apply AC)<;>try dsimp only)|apply Af|(refine Prod.forall.2 ?_;intro _;try dsimp only)|(intro _;try dsimp only))<;>(try dsimp only at*)<;>(try simp only[AQ,List.length_cons,List.length_nil])<;>(try omega)
 all_goals first
  |exact a8L
  |exact a8N h1 ‹_› ‹_› ‹_›
  |exact a8O h1 ‹_› ‹_› ‹_› ‹_› ‹_›
  |exact a8P h1 ‹_› ‹_› ‹_› ‹_› ‹_› ‹_›
  |exact a8Q h1 ‹_› ‹_›
  |(have hI:=a8M ‹_›;omega))
def GU:Sig:= {X:=List UInt8×Int,args:=fun x=>[.str x.1,.int .i64 x.2],pre:=fun x=>0≤x.2∧x.2≤x.1.length∧x.1.length<2^62,Y:=Unit,post:=fun x y=>True,res:=fun x y=> .int .i64 (Cr (x.1.drop x.2.toNat)),outs:=fun x y=>[.top,.top],keep:=false}
def Rx(x:List UInt8×Int):LS:= {ι:=Int,inv:=fun i=>nI x i,regs:=fun i=>[(0,.str x.1),(1,.int .i64 x.2),(5,.int .i64 i)],als:=[],meas:=fun i=>x.1.length-i.toNat}
theorem a0z:Al G Tryz.prog 83 GU:=
 vcFun_okP [(107,0,IT)] [] false (fun x=>[(4,Rx x)]) Tryz.func83 rfl (by decide) ⟨a0i,trivial⟩ (fun(x:List UInt8×Int)=>(∀(y:Unit),True→True∧True∧True∧True)∧inR IntKind.i64 (x.2+(2:Int))∧Ab (decide (x.2+(2:Int)>(↑(List.length x.1):Int))) (rA GU x [.int .i64 (0:Int),.top,.top]) (inR IntKind.i64 (x.2+(2:Int))∧((0:Int)≤x.2∧x.2≤x.2+(2:Int)∧x.2+(2:Int)≤(↑(List.length x.1):Int))∧Ab (!List.drop (Int.toNat x.2) (List.take (Int.toNat (x.2+(2:Int))) x.1)== #[(47:UInt8),(47:UInt8)].toList) (rA GU x [.int .i64 (0:Int),.top,.top]) (eA (Rx x) [.str x.1,.int .i64 x.2,.int .i64 x.2]∧∀(i:Int),nI x i→Ab (decide (i<(↑(List.length x.1):Int))) (((0:Int)≤i∧i<(↑(List.length x.1):Int))∧∀(c:UInt8),x.1[Int.toNat i]? =some c→Ab ((↑(UInt8.toNat c):Int) != (10:Int)) (((0:Int)≤i∧i<(↑(List.length x.1):Int))∧∀(c:UInt8),x.1[Int.toNat i]? =some c→cA IT [AV.int IntKind.u8 (↑(UInt8.toNat c):Int)] fun x_1 y=>Ab (!Cl x_1) (rA GU x [.int .i64 (0:Int),.top,.top]) (inR IntKind.i64 (i+(1:Int))∧eN (Rx x) i [.str x.1,.int .i64 x.2,.int .i64 (i+(1:Int))])) (inR IntKind.i64 (i-x.2)∧rA GU x [.int .i64 (i-x.2),.top,.top])) (inR IntKind.i64 (i-x.2)∧rA GU x [.int .i64 (i-x.2),.top,.top])))) (fun x=>by kernel_rfl) fun(x:List UInt8×Int) (hx:0≤x.2∧x.2≤x.1.length∧x.1.length<2^62)=>(by
 dsimp only[cA,eA,eN,Rx,rA,GU,IT,Aw,Az,mvL,lnL,mvE,lnE,Bv]
 obtain⟨h1,h2,h3⟩:=hx
 (repeat' first|(with_reducible first|rfl|exact True.intro|apply AK|apply And.intro|((first|apply AA|apply AI|apply AB|apply AJ)<;>intro _))|(apply Ax<;>intro _)|apply AH|refine Af () ?_ ?_|((first|apply AO|apply AN|apply AM|apply AL|apply AG|apply AF|apply AE|apply AD|apply AC)<;>try dsimp only)|apply Af|(refine Prod.forall.2 ?_;intro _;try dsimp only)|(intro _;try dsimp only))<;>(try dsimp only at*)<;>(try simp only[AQ,List.length_cons,List.length_nil])<;>(try omega)
 all_goals first
  |exact a8T h1 ‹_›
  |exact a8S h1 ‹_›
  |exact a8R h1 h2 ‹_›
  |exact a8U h1 ‹_› ‹_› ‹_› ‹_› ‹_›
  |exact a8V h1 ‹_› ‹_› ‹_› ‹_› ‹_› ‹_›
  |exact a8W h1 ‹_› ‹_› ‹_›
  |exact a8X h1 ‹_› ‹_›
  |(have hI:=(‹nI _ _› :nI _ _).1;omega))
def FX:Sig:= {X:=List UInt8,args:=fun x=>[.str x],pre:=fun x=>x.length<2^62,Y:=Unit,post:=fun x y=>True,res:=fun x y=> .bool (DY x),outs:=fun x y=>[.top],keep:=false}
def Px(x:List UInt8):LS:= {ι:=Int,inv:=fun i=>nmI x i,regs:=fun i=>[(0,.str x),(3,.int .i64 i)],als:=[],meas:=fun i=>x.length-i.toNat}
theorem a9s:Al G Tryz.prog 153 FX:=
 vcFun_okP [(46,0,CN),(85,0,Fe),(89,0,Gp),(86,0,EQ)] [] false (fun x=>[(4,Px x)]) Tryz.func153 rfl (by decide) ⟨Kx,a0h,VI,Rn,trivial⟩ (fun(x:List UInt8)=>(∀(y:Unit),True→True∧True∧True)∧cA CN [.int .i64 (↑(List.length x):Int),.int .i64 (1:Int),.int .i64 (30:Int)] fun x_1 y=>Ab (!inn x_1.1 x_1.2.1 x_1.2.2) (rA FX x [.bool false,.top]) (((0:Int)≤(0:Int)∧(0:Int)<(↑(List.length x):Int))∧∀(c:UInt8),x[(0:Nat)]? =some c→cA Fe [AV.int IntKind.u8 (↑(UInt8.toNat c):Int)] fun x_2 y=>Ab (!Cw x_2) (rA FX x [.bool false,.top]) (cA Gp [.str x] fun x_3 y=>Ab (kw x_3) (rA FX x [.bool false,.top]) (eA (Px x) [.str x,.int .i64 (0:Int)]∧∀(i:Int),nmI x i→Ab (decide (i<(↑(List.length x):Int))) (((0:Int)≤i∧i<(↑(List.length x):Int))∧∀(c:UInt8),x[Int.toNat i]? =some c→cA Fe [AV.int IntKind.u8 (↑(UInt8.toNat c):Int)] fun x_4 y=>Ab (!Cw x_4) (((0:Int)≤i∧i<(↑(List.length x):Int))∧∀(c:UInt8),x[Int.toNat i]? =some c→cA EQ [AV.int IntKind.u8 (↑(UInt8.toNat c):Int)] fun x_5 y=>Ab (!Bg x_5) (rA FX x [.bool false,.top]) (inR IntKind.i64 (i+(1:Int))∧eN (Px x) i [.str x,.int .i64 (i+(1:Int))])) (inR IntKind.i64 (i+(1:Int))∧eN (Px x) i [.str x,.int .i64 (i+(1:Int))])) (rA FX x [.bool true,.top]))))) (fun x=>by kernel_rfl) fun(x:List UInt8) (hx:x.length<2^62)=>(by
 dsimp only[cA,eA,eN,Px,rA,CN,EQ,Fe,FX,Gp,Aw,Az,mvL,lnL,mvE,lnE,Bv]
 have hp:∀h:inn x.length 1 30=true,1≤x.length:=fun h=>by simp [inn] at h;omega
 (repeat' first|(with_reducible first|rfl|exact True.intro|apply AK|apply And.intro|((first|apply AA|apply AI|apply AB|apply AJ)<;>intro _))|(apply Ax<;>intro _)|apply AH|refine Af () ?_ ?_|((first|apply AO|apply AN|apply AM|apply AL|apply AG|apply AF|apply AE|apply AD|apply AC)<;>try dsimp only)|apply Af|(refine Prod.forall.2 ?_;intro _;try dsimp only)|(intro _;try dsimp only))<;>(try dsimp only at*)<;>(try simp only[AQ,List.length_cons,List.length_nil])<;>(try omega)
 all_goals(try(have:=hp ‹_›;omega))
 all_goals(try(have hI:=(‹nmI _ _› :nmI _ _).1;omega))
 ·rename_i h;exact VH (fun hh=>by rw[hh.1] at h;cases h)
 ·rename_i c hc _ _ h;exact VH (fun hh=>by rw[a0t hc,h] at hh;cases hh.2.1)
 ·rename_i h;exact VH (fun hh=>by rw[hh.2.2] at h;cases h)
 ·rename_i h1 c hc _ _ h2 _ _ h3;exact a8Y h1 (by rw[a0t hc];exact h2) h3
 ·rename_i i hi hl c hc _ _ h1 d hd _ _ h2
  rw[hc] at hd;cases hd
  exact a8Z hi hc (by simp [BP,h1,h2])
 ·rename_i i hi hl c hc _ _ h1 d hd _ _ h2
  rw[hc] at hd;cases hd
  exact a0u hi hc hl (by simp [BP,h2])
 ·rename_i i hi hl c hc _ _ h1
  exact a0u hi hc hl (by simp [BP,h1])
 ·exact a9a ‹_› ‹_›)
def LC:Sig:= {X:=List UInt8,args:=fun x=>[.str x],pre:=fun x=>x.length<2^62,Y:=Unit,post:=fun x y=>True,res:=fun x y=> .bool (Cx x 2),outs:=fun x y=>[.top],keep:=false}
theorem a9t:Al G Tryz.prog 154 LC:=
 vcFun_okP [(46,0,CN),(86,0,EQ)] [] false (fun x=>[(2,Ej Bg x fun i=>[(0,.str x),(3,.int .i64 i)])]) Tryz.func154 rfl (by decide) ⟨Kx,Rn,trivial⟩ (fun(x:List UInt8)=>(∀(y:Unit),True→True∧True∧True)∧eA (Ej Bg x fun(i:Int)=>[((0:Nat),.str x),((3:Nat),.int .i64 i)]) [.str x,.int .i64 (0:Int)]∧∀(i:Int),((0:Int)≤i∧i≤(↑(List.length x):Int)∧∀(e:UInt8),e∈List.take (Int.toNat i) x→Bg e=true)→Ab (decide (i<(↑(List.length x):Int))) (((0:Int)≤i∧i<(↑(List.length x):Int))∧∀(c:UInt8),x[Int.toNat i]? =some c→cA EQ [AV.int IntKind.u8 (↑(UInt8.toNat c):Int)] fun x_1 y=>Ab (!Bg x_1) (rA LC x [.bool false,.top]) (inR IntKind.i64 (i+(1:Int))∧eN (Ej Bg x fun(i:Int)=>[((0:Nat),.str x),((3:Nat),.int .i64 i)]) i [.str x,.int .i64 (i+(1:Int))])) (cA CN [.int .i64 (↑(List.length x):Int),.int .i64 (1:Int),.int .i64 (12:Int)] fun x_1 y=>rA LC x [.bool (inn x_1.1 x_1.2.1 x_1.2.2),.top])) (fun x=>by kernel_rfl) fun(x:List UInt8) (hx:x.length<2^62)=>(by
 dsimp only[cA,eA,eN,Ej,rA,CN,EQ,LC,Aw,Az,mvL,lnL,mvE,lnE,Bv]
 (repeat' first|(with_reducible first|rfl|exact True.intro|apply AK|apply And.intro|((first|apply AA|apply AI|apply AB|apply AJ)<;>intro _))|(apply Ax<;>intro _)|apply AH|refine Af () ?_ ?_|((first|apply AO|apply AN|apply AM|apply AL|apply AG|apply AF|apply AE|apply AD|apply AC)<;>try dsimp only)|apply Af|(refine Prod.forall.2 ?_;intro _;try dsimp only)|(intro _;try dsimp only))<;>(try dsimp only at*)<;>(try simp only[AQ,List.length_cons,List.length_nil])<;>(try omega)
 ·rename_i h;simp at h
 ·rename_i i hi hl c hc _ _ h;rw[Rp,Rj hc h];rfl
 ·rename_i i hi hl c hc _ _ h e he
  rw[Da hi.1] at he;exact Pt hi.2.2 hc h e he
 ·rename_i i hi hl _ _;rw[Rp,Vx hi.2.2 (by omega)];simp only[Bool.true_and,inn];rw[Bool.eq_iff_iff];simp;omega)
def Ky:Sig:= {X:=List UInt8,args:=fun x=>[.str x],pre:=fun x=>x.length<2^62,Y:=Unit,post:=fun x y=>True,res:=fun x y=> .bool (Cx x 3),outs:=fun x y=>[.top],keep:=false}
theorem a9u:Al G Tryz.prog 155 Ky:=
 vcFun_okP [(87,0,Ie)] [] false (fun x=>[]) Tryz.func155 rfl (by decide) ⟨a0y,trivial⟩ (fun(x:List UInt8)=>(∀(y:Unit),True→True∧True∧True)∧Ab (decide ((↑(List.length x):Int)>(1:Int))) (((0:Int)≤(0:Int)∧(0:Int)<(↑(List.length x):Int))∧∀(c:UInt8),x[(0:Nat)]? =some c→Ab ((↑(UInt8.toNat c):Int)==(39:Int)) (cA Ie [.str x,.int .i64 (0:Int)] fun x_1 y=>rA Ky x [.bool ((↑(CD (List.drop (Int.toNat x_1.2) x_1.1)):Int)==(↑(List.length x):Int)),.top]) (rA Ky x [.bool false,.top])) (rA Ky x [.bool false,.top])) (fun x=>by kernel_rfl) fun(x:List UInt8) (hx:x.length<2^62)=>(by
 dsimp only[cA,rA,Ie,Ky,Aw,Az,mvL,lnL,mvE,lnE]
 (repeat' first|(with_reducible first|rfl|exact True.intro|apply AK|apply And.intro|((first|apply AA|apply AI|apply AB|apply AJ)<;>intro _))|(apply Ax<;>intro _)|apply AH|refine Af () ?_ ?_|((first|apply AO|apply AN|apply AM|apply AL|apply AG|apply AF|apply AE|apply AD|apply AC)<;>try dsimp only)|apply Af|(refine Prod.forall.2 ?_;intro _;try dsimp only)|(intro _;try dsimp only))<;>(try dsimp only at*)<;>(try simp only[AQ,List.length_cons,List.length_nil])<;>(try omega)
 ·exact a9b ‹_› ‹_› ‹_›
 ·exact a9c ‹_› ‹_›
 ·exact a9d ‹_›)
def Kz:Sig:= {X:=List UInt8,args:=fun x=>[.str x],pre:=fun x=>x.length<2^62,Y:=Unit,post:=fun x y=>True,res:=fun x y=> .bool (Cx x 5),outs:=fun x y=>[.top],keep:=false}
theorem a9v:Al G Tryz.prog 156 Kz:=
 vcFun_okP [(83,0,GU),(84,0,IU)] [] false (fun x=>[]) Tryz.func156 rfl (by decide) ⟨a0z,a0v,trivial⟩ (fun(x:List UInt8)=>(∀(y:Unit),True→True∧True∧True)∧Ab (decide ((↑(List.length x):Int)>(1:Int))) (cA GU [.str x,.int .i64 (0:Int)] fun x_1 y=>Ab ((↑(Cr (List.drop (Int.toNat x_1.2) x_1.1)):Int)==(↑(List.length x):Int)) (cA IU [.str x] fun x_2 y=>rA Kz x [.bool (CI x_2==x),.top]) (rA Kz x [.bool false,.top])) (rA Kz x [.bool false,.top])) (fun x=>by kernel_rfl) fun(x:List UInt8) (hx:x.length<2^62)=>(by
 dsimp only[cA,rA,GU,Kz,IU,Aw,Az,mvL,lnL,mvE,lnE]
 (repeat' first|(with_reducible first|rfl|exact True.intro|apply AK|apply And.intro|((first|apply AA|apply AI|apply AB|apply AJ)<;>intro _))|(apply Ax<;>intro _)|apply AH|refine Af () ?_ ?_|((first|apply AO|apply AN|apply AM|apply AL|apply AG|apply AF|apply AE|apply AD|apply AC)<;>try dsimp only)|apply Af|(refine Prod.forall.2 ?_;intro _;try dsimp only)|(intro _;try dsimp only))<;>(try dsimp only at*)<;>(try simp only[AQ,List.length_cons,List.length_nil])<;>(try omega)
 ·exact a9e ‹_› ‹_›
 ·exact a9f ‹_›
 ·exact a9g ‹_›)
def GV:Sig:= {X:=List UInt8,args:=fun x=>[.str x],pre:=fun x=>x.length<2^62,Y:=Unit,post:=fun x y=>True,res:=fun x y=> .bool (Pr x),outs:=fun x y=>[.top],keep:=false}
theorem a9w:Al G Tryz.prog 157 GV:=
 vcFun_okP [] [] false (fun x=>[]) Tryz.func157 rfl (by decide) trivial (fun(x:List UInt8)=>(∀(y:Unit),True→True∧True∧True)∧Ab (x== #[(38:UInt8),(38:UInt8)].toList) (rA GV x [.bool true,.top]) (Ab (x== #[(124:UInt8),(124:UInt8)].toList) (rA GV x [.bool true,.top]) (Ab (x== #[(61:UInt8),(61:UInt8)].toList) (rA GV x [.bool true,.top]) (Ab (x== #[(60:UInt8)].toList) (rA GV x [.bool true,.top]) (Ab (x== #[(43:UInt8)].toList) (rA GV x [.bool true,.top]) (Ab (x== #[(45:UInt8)].toList) (rA GV x [.bool true,.top]) (Ab (x== #[(42:UInt8)].toList) (rA GV x [.bool true,.top]) (rA GV x [.bool false,.top])))))))) (fun x=>by kernel_rfl) fun(x:List UInt8) (hx:x.length<2^62)=>(by
 dsimp only[rA,GV,Aw,Az]
 (repeat' first|(with_reducible first|rfl|exact True.intro|apply AK|apply And.intro|((first|apply AA|apply AI|apply AB|apply AJ)<;>intro _))|(apply Ax<;>intro _)|apply AH|refine Af () ?_ ?_|((first|apply AO|apply AN|apply AM|apply AL|apply AG|apply AF|apply AE|apply AD|apply AC)<;>try dsimp only)|apply Af|(refine Prod.forall.2 ?_;intro _;try dsimp only)|(intro _;try dsimp only))<;>(try dsimp only at*)<;>(try simp only[AQ,List.length_cons,List.length_nil])<;>(try omega)
 all_goals simp [Pr, *])
def FA:Sig:= {X:=Int×List UInt8,args:=fun x=>[.int .i64 x.1,.str x.2],pre:=fun x=>x.2.length<2^62,Y:=Unit,post:=fun x y=>True,res:=fun x y=> .bool (Ev x.1 x.2),outs:=fun x y=>[.top,.top],keep:=false}
theorem a9x:Al G Tryz.prog 128 FA:=
 vcFun_okP [(153,0,FX),(154,0,LC),(155,0,Ky),(156,0,Kz),(157,0,GV)] [] false (fun x=>[]) Tryz.func128 rfl (by decide) ⟨a9s,a9t,a9u,a9v,a9w,trivial⟩ (fun(x:Int×List UInt8)=>(∀(y:Unit),True→True∧True∧True∧True)∧Ab (x.1==(1:Int)) (cA FX [.str x.2] fun x_1 y=>rA FA x [.bool (DY x_1),.top,.top]) (Ab (x.1==(6:Int)) (cA FX [.str x.2] fun x_1 y=>rA FA x [.bool (DY x_1),.top,.top]) (Ab (x.1==(12:Int)) (cA FX [.str x.2] fun x_1 y=>rA FA x [.bool (DY x_1),.top,.top]) (Ab (x.1==(13:Int)) (cA FX [.str x.2] fun x_1 y=>rA FA x [.bool (DY x_1),.top,.top]) (Ab (x.1==(20:Int)) (cA FX [.str x.2] fun x_1 y=>rA FA x [.bool (DY x_1),.top,.top]) (Ab (x.1==(21:Int)) (cA FX [.str x.2] fun x_1 y=>rA FA x [.bool (DY x_1),.top,.top]) (Ab (x.1==(2:Int)) (cA LC [.str x.2] fun x_1 y=>rA FA x [.bool (Cx x_1 (2:Int)),.top,.top]) (Ab (x.1==(3:Int)) (cA Ky [.str x.2] fun x_1 y=>rA FA x [.bool (Cx x_1 (3:Int)),.top,.top]) (Ab (x.1==(19:Int)) (cA Kz [.str x.2] fun x_1 y=>rA FA x [.bool (Cx x_1 (5:Int)),.top,.top]) (Ab (x.1==(7:Int)) (cA GV [.str x.2] fun x_1 y=>rA FA x [.bool (Pr x_1),.top,.top]) (rA FA x [.bool (x.2== #[].toList),.top,.top]))))))))))) (fun x=>by kernel_rfl) fun(x:Int×List UInt8) (hx:x.2.length<2^62)=>(by
 dsimp only[cA,rA,GV,FX,Kz,LC,Ky,FA,Aw,Az,mvL,lnL,mvE,lnE]
 (repeat' first|(with_reducible first|rfl|exact True.intro|apply AK|apply And.intro|((first|apply AA|apply AI|apply AB|apply AJ)<;>intro _))|(apply Ax<;>intro _)|apply AH|refine Af () ?_ ?_|((first|apply AO|apply AN|apply AM|apply AL|apply AG|apply AF|apply AE|apply AD|apply AC)<;>try dsimp only)|apply Af|(refine Prod.forall.2 ?_;intro _;try dsimp only)|(intro _;try dsimp only))<;>(try dsimp only at*)<;>(try simp only[AQ,List.length_cons,List.length_nil])<;>(try omega)
 all_goals simp [Ev, *])
end Go.My
end
section
namespace Go.My
open Go.Eng
def FB(k:Int):Int×Int:=
 if k=4∨k=18∨k=21∨k=22 then(0,12)
 else if k=5∨k=9∨k=20 then(1,12)
 else if k=6∨k=11∨k=13∨k=14 then(1,1)
 else if k=7∨k=10 then(2,12)
 else if k=8 then(3,3)
 else if k=12∨k=15 then(0,1)
 else if k=16 then(2,3)
 else if k=17 then(2,2)
 else(0,0)
def GW(k n i y:Int):Bool:=
 if k=9 then(if i+1<n then Ew y else BH y)
 else if k=20 then(if i+1<n then Ew y else CR y)
 else if k=10 then(if 0<i then FU y else BH y)
 else if k=16∨k=17 then(if 0<i then CR y else BH y)
 else if k=18 then DS y
 else if k=21 then EN y
 else if k=22 then GR y
 else BH y
def LD(ns:List Nd)(x:Nd)(i c:Int):Bool:=
 GW x.kind x.kids.length i (AS ns c)&&(if x.kind=10∧0<i then decide (AS ns ((Aa ns c).kids.headD 0)=1) else true)
def Ea(ns:List Nd)(x:Nd)(i c:Int):Bool:=
 (!(decide (AS ns c=5)&&(decide ((Aa ns c).kids.length=0)|| !BK ns ((Aa ns c).kids.headD 0))))&&LD ns x i c
def BZ(f:Int→Int→Bool):List Int→Int→Bool
 |[],_=>true
 |c::l,i=>f i c&&BZ f l (i+1)
theorem VJ{f g:Int→Int→Bool}:∀ {l:List Int} {i:Int},(∀j c,i≤j→j<i+l.length→c∈l→f j c=g j c)→BZ f l i=BZ g l i
 |[],i,h=>rfl
 |c::l,i,h=>by
  simp only[BZ]
  rw[h i c (Int.le_refl i) (by simp;omega) (by simp),VJ (fun j c hj hl hc=>h j c (by omega) (by simp;omega) (by simp [hc]))]
theorem a0A{f g:Int→Int→Bool}:∀ {l:List Int} {i:Int},BZ (fun i c=>f i c&&g i c) l i=(BZ f l i&&BZ g l i)
 |[],i=>rfl
 |c::l,i=>by
  simp only[BZ];rw[a0A]
  cases f i c<;>cases g i c<;>cases BZ f l (i+1)<;>cases BZ g l (i+1)<;>rfl
theorem Ry{f:Int→Bool}:∀ {l:List Int} {i:Int},BZ (fun _ c=>f c) l i=l.all f
 |[],i=>rfl
 |c::l,i=>by simp only[BZ,List.all_cons];rw[Ry]
theorem a0B{f:Int→Int→Bool}{g:Int→Int}:∀ {l:List Int} {i:Int},BZ f (l.map g) i=BZ (fun i c=>f i (g c)) l i
 |[],i=>rfl
 |c::l,i=>by simp only[BZ,List.map_cons];rw[a0B]
theorem a0C{f:Int→Int→Bool}:∀ {l m:List Int} {i:Int},BZ f (l++m) i=(BZ f l i&&BZ f m (i+l.length))
 |[],m,i=>by simp [BZ]
 |c::l,m,i=>by
  simp only[List.cons_append,BZ];rw[a0C,Bool.and_assoc]
  congr 2;congr 1;simp;omega
theorem VK{f:Int→Int→Bool}:∀ {l:List Int} {i:Nat},((l.zipIdx i).all fun p=>f p.2 p.1)=BZ f l i
 |[],i=>rfl
 |c::l,i=>by
  simp only[List.zipIdx_cons,List.all_cons,BZ];rw[VK];congr 2
theorem VL{f:Int→Int→Bool}{l:List Int}:BZ f l 0=true↔∀(j:Nat) c,l[j]? =some c→f j c=true:=by
 have:∀(l:List Int) (i:Nat),BZ f l i=true↔∀(j:Nat) c,l[j]? =some c→f (i+j:Nat) c=true:=by
  intro l
  induction l with
  |nil=>intro i;simp [BZ]
  |cons c l ih=>
   intro i
   simp only[BZ,Bool.and_eq_true]
   have:=ih (i+1)
   rw[show((i:Int)+1)=((i+1:Nat):Int) from by omega,this]
   constructor
   ·rintro⟨h1,h2⟩ j d hd
    cases j with
    |zero=>simp at hd;subst hd;simpa using h1
    |succ j=>have:=h2 j d (by simpa using hd);rwa [show i+1+j=i+(j+1) by omega] at this
   ·intro h
    refine⟨by simpa using h 0 c rfl,fun j d hd=> ?_⟩
    have:=h (j+1) d (by simpa using hd)
    rwa [show i+(j+1)=i+1+j by omega] at this
 have:=this l 0
 simpa using this
theorem a9y{l:List Int}{k:Int}(h:l.getLast? =some k):l=l.dropLast++[k]:=by
 have hne:l≠[]:=by intro e;rw[e] at h;cases h
 rw[List.getLast?_eq_some_getLast hne] at h
 have:=List.dropLast_concat_getLast hne
 rw[Option.some.inj h] at this;exact this.symm
theorem a0D{p:Int→Bool}{l:List Int}:(decide (1≤l.length)&&BZ (fun i y=>if i+1<(l.length:Int) then Ew y else p y) l 0)=EO p l:=by
 unfold EO
 cases h:l.getLast? with
 |none=>have:l=[]:=by simpa using h
        subst this;rfl
 |some k=>
  have e:=a9y h
  generalize hd:l.dropLast=m at e ⊢
  subst e
  rw[a0C]
  have h1:BZ (fun i y=>if i+1<((m++[k]).length:Int) then Ew y else p y) m 0=m.all Ew:=by
   rw[←Ry (i:=0)]
   exact VJ fun j c h0 hj hc=>if_pos (by simp;omega)
  rw[h1]
  simp only[BZ]
  have h2:¬((0:Int)+m.length+1<((m++[k]).length:Int)):=by simp
  rw[if_neg h2]
  have:decide (1≤(m++[k]).length)=true:=by simp
  rw[this];simp [Bool.and_comm]
theorem a0E{p q:Int→Bool}{c:Int}{l:List Int}:BZ (fun i y=>if 0<i then q y else p y) (c::l) 0=(p c&&l.all q):=by
 simp only[BZ]
 have h1:¬((0:Int)<0):=by omega
 rw[if_neg h1]
 congr 1
 rw[←Ry (i:=0+1)]
 exact VJ fun j c h0 hj hc=>if_pos (by omega)
theorem a9z{k:Int}{l:List Int}(h1:1≤k)(h2:k≤22):(inn l.length (FB k).1 (FB k).2&&BZ (fun i y=>GW k l.length i y) l 0)=(decide (l.length≤12)&&Ci k l):=by
 have hk:k=1∨k=2∨k=3∨k=4∨k=5∨k=6∨k=7∨k=8∨k=9∨k=10∨k=11∨k=12∨k=13∨k=14∨k=15∨k=16∨k=17∨k=18∨k=19∨k=20∨k=21∨k=22:=by omega
 have len0:∀ {b c:Bool},l.length=0→(l=[]):=fun h=>List.length_eq_zero_iff.1 h
 rcases hk with rfl|rfl|rfl|rfl|rfl|rfl|rfl|rfl|rfl|rfl|rfl|rfl|rfl|rfl|rfl|rfl|rfl|rfl|rfl|rfl|rfl|rfl
 all_goals simp only[FB,GW,Ci,inn,Int.reduceEq,or_self,or_false,false_or,or_true,true_or,if_true,if_false,reduceIte]
 all_goals try(
  by_cases h:l.length=0
  ·have:=List.length_eq_zero_iff.1 h;subst this;rfl
  ·have e1:decide ((l.length:Int)≤0)=false:=decide_eq_false (by omega)
   have e2:decide (l.length=0)=false:=decide_eq_false h
   simp only[e1,e2,Bool.and_false,Bool.false_and];done)
 all_goals try rw[Ry]
 all_goals try(
  generalize l.all _=b
  rw[Bool.eq_iff_iff];cases b<;>simp only[Bool.and_eq_true,decide_eq_true_eq,Bool.false_eq_true,and_false,and_true]<;>omega)
 ·rw[show decide (1≤(l.length:Int))=decide (1≤l.length) from decide_eq_decide.2 (by omega),show decide ((l.length:Int)≤12)=decide (l.length≤12) from decide_eq_decide.2 (by omega),←a0D (p:=BH)]
  generalize BZ _ l 0=b
  cases decide (1≤l.length)<;>cases decide (l.length≤12)<;>cases b<;>rfl
 ·cases l with
  |nil=>rfl
  |cons c l=>
   rw[a0E]
   simp only[List.headD_cons,List.drop_succ_cons,List.drop_zero]
   generalize BH c=b;generalize l.all _=d
   rw[Bool.eq_iff_iff];cases b<;>cases d<;>simp only[Bool.and_eq_true,decide_eq_true_eq,Bool.false_eq_true,and_false,and_true]<;>omega
 ·cases l with
  |nil=>rfl
  |cons c l=>
   rw[a0E]
   simp only[List.headD_cons,List.drop_succ_cons,List.drop_zero]
   generalize BH c=b;generalize l.all _=d
   rw[Bool.eq_iff_iff];cases b<;>cases d<;>simp only[Bool.and_eq_true,decide_eq_true_eq,Bool.false_eq_true,and_false,and_true]<;>omega
 ·match l with
  |[]=>rfl
  |[c]=>rfl
  |[c,d]=>simp [BZ]
  |c::d::e::l=>
   have e1:decide (((c::d::e::l).length:Int)≤2)=false:=decide_eq_false (by simp;omega)
   have e2:decide ((c::d::e::l).length=2)=false:=decide_eq_false (by simp)
   rw[e1,e2];simp
 ·rw[show decide (1≤(l.length:Int))=decide (1≤l.length) from decide_eq_decide.2 (by omega),show decide ((l.length:Int)≤12)=decide (l.length≤12) from decide_eq_decide.2 (by omega),←a0D (p:=CR)]
  generalize BZ _ l 0=b
  cases decide (1≤l.length)<;>cases decide (l.length≤12)<;>cases b<;>rfl
theorem a9A{k:Int}{l:List Int}(h:inn k 1 22=false):Ci k l=false:=by
 have h:¬(1≤k∧k≤22):=by intro hh;simp [inn] at h;omega
 unfold Ci
 have e:∀j:Int,1≤j→j≤22→k≠j:=fun j h1 h2 e=>h (by omega)
 simp [e]
theorem a9B{ns:List Nd}{x:Nd}{i c:Int}:Ea ns x i c=(GW x.kind x.kids.length i (AS ns c)&&CV ns x i.toNat c):=by
 unfold Ea LD CV AS
 generalize hy:Aa ns c=y
 by_cases h5:y.kind=5
 ·simp only[h5,if_true,decide_true,Bool.true_and]
  cases hk:y.kids with
  |nil=>simp
  |cons h t=>
   simp only[List.length_cons,List.headD_cons]
   have e0:decide (t.length+1=0)=false:=by simp
   rw[e0]
   by_cases hx:x.kind=10∧0<i
   ·have hi:0<i.toNat:=by omega
    simp only[hx,and_self,if_true,decide_true,Bool.true_and,hi]
    generalize GW 10 _ _ _=a;generalize BK ns h=b
    by_cases hd:(Aa ns h).kind=1<;>cases a<;>cases b<;>simp [hd]
   ·rw[if_neg hx]
    have:(decide (x.kind=10)&&(decide (0<i.toNat)&& !decide ((Aa ns h).kind=1)))=false:=by
     by_cases h1:x.kind=10
     ·have:¬0<i.toNat:=by omega
      simp [this]
     ·simp [h1]
    rw[this]
    generalize GW _ _ _ _=a;generalize BK ns h=b
    cases a<;>cases b<;>rfl
 ·simp only[h5,if_false,decide_false,Bool.false_and,Bool.not_false,Bool.true_and,Bool.and_true]
  by_cases hx:x.kind=10∧0<i
  ·rw[if_pos hx]
   have:GW x.kind x.kids.length i y.kind=false:=by
    simp [GW,hx,FU,h5]
   rw[this];rfl
  ·rw[if_neg hx];simp
theorem a9C{ns:List Nd}{k:Int}{x:Nd}:GS ns k x=
 (inn x.kind 1 22&&(inn x.kids.length (FB x.kind).1 (FB x.kind).2&&(Ev x.kind x.text&&((HZ x.kind|| !x.blank)&&((DT x.kids k&&decide x.kids.Nodup)&&BZ (Ea ns x) x.kids 0))))):=by
 have e1:BZ (Ea ns x) x.kids 0=(BZ (fun i y=>GW x.kind (x.kids.map (AS ns)).length i y) (x.kids.map (AS ns)) 0&&EP ns x):=by
  have:(Ea ns x)=fun i c=>(GW x.kind x.kids.length i (AS ns c)&&CV ns x i.toNat c):=by
   funext i c;exact a9B
  rw[this,a0A,a0B,List.length_map]
  congr 1
  unfold EP
  have:(fun p:Int×Nat=>CV ns x p.2 p.1)=fun p:Int×Nat=>(fun(i c:Int)=>CV ns x i.toNat c) p.2 p.1:=by
   funext p;simp
  rw[this]
  exact(VK (f:=fun i c=>CV ns x i.toNat c) (i:=0)).symm
 unfold GS
 by_cases h:inn x.kind 1 22=true
 ·have hb:= @a9z x.kind (x.kids.map (AS ns)) (by simp [inn] at h;omega) (by simp [inn] at h;omega)
  rw[List.length_map] at hb
  rw[e1,List.length_map,h]
  generalize decide (x.kids.length≤12)=a at hb ⊢;generalize Ci x.kind _=b at hb ⊢;generalize inn _ _ _=c at hb ⊢
  generalize BZ _ _ 0=d at hb ⊢;generalize Ev _ _=e;generalize HZ _=f;generalize EP _ _=g;generalize DT _ _=h1;generalize decide x.kids.Nodup=h2
  cases a<;>cases b<;>cases c<;>cases d<;>simp at hb<;>cases e<;>cases f<;>cases g<;>cases h1<;>cases h2<;>simp
 ·simp only[Bool.not_eq_true] at h
  rw[a9A h,h];simp
end Go.My
end
