/- joined -/
import Derived.Test.YtblmpjljedglaaaGreatDoorQD
import Derived.Test.YtblmpjljedglaaaGreatDoorProg
import Derived.WalkKit
import Derived.Lib.Bytealg
import Derived.Laws.Externs
set_option linter.unusedSimpArgs false
set_option linter.unusedVariables false
section
namespace Go.My
open Go.Eng
def Bu(c:UInt8):Bool:=decide (48≤c.toNat)&&decide (c.toNat≤57)
def CE(c:UInt8):Bool:=(decide (97≤c.toNat)&&decide (c.toNat≤122))||((decide (65≤c.toNat)&&decide (c.toNat≤90))||decide (c.toNat=95))
def Cp(c:UInt8):Bool:=CE c||Bu c
def Bw(c:UInt8):Bool:=decide (32≤c.toNat)&&decide (c.toNat≤126)
def Cl(c:UInt8):Bool:=decide (c.toNat≠10)
def kw(s:List UInt8):Bool:=s==[99,108,97,115,115]||(s==[118,97,114]||(s==[105,102]||(s==[101,108,115,101]||(s==[119,104,105,108,101]||s==[114,101,116,117,114,110]))))
def mk2(s:List UInt8):Bool:=s==[38,38]||(s==[124,124]||(s==[61,61]||(s==[61,62]||s==[46,46])))
def mk1:List UInt8:=[40,41,123,125,91,93,59,44,46,61,43,45,42,60,63,58]
def DN(s:List UInt8):Bool:=mk2 s||match s with
 |[c]=>mk1.elem c
 |_=>false
def DP(p:UInt8→Bool):List UInt8→Option Nat
 |[]=>none
 |c::s=>if p c then some 0 else(DP p s).map (· +1)
def CQ(s:List UInt8):List UInt8:=(s.reverse.dropWhile (fun c=>decide (c.toNat=32))).reverse
def En(s:List UInt8):List UInt8×Bool:=match DP (fun c=>decide (c.toNat=39)) (s.drop 1) with
 |none=>([],false)
 |some i=>(s.take (i+2),(s.take (i+2)).all Bw)
structure SgR where
 kind:Int
 text:List UInt8
 size:Int
 ok:Bool
def Cm(s:List UInt8):SgR:=match s with
 |[]=>⟨0,[],0,false⟩
 |b::_=>
  if CE b then⟨1,s.takeWhile Cp,(s.takeWhile Cp).length,decide ((s.takeWhile Cp).length≤30)⟩
  else if Bu b then⟨2,s.takeWhile Bu,(s.takeWhile Bu).length,decide ((s.takeWhile Bu).length≤12)⟩
  else if b.toNat=39 then⟨3,(En s).1,(En s).1.length,(En s).2⟩
  else if s.take 2=[47,47] then⟨5,CQ (s.takeWhile Cl),(s.takeWhile Cl).length,(s.takeWhile Cl).all Bw⟩
  else if DN (s.take 2) then⟨4,s.take 2,(s.take 2).length,true⟩
  else if DN (s.take 1) then⟨4,s.take 1,1,true⟩
  else⟨0,[],0,false⟩
def BV(s:List UInt8)(k:Int):Bool:= !(s==[])&&((Cm s).ok&&(decide ((Cm s).kind=k)&&((Cm s).text==s&&decide ((Cm s).size=s.length))))
def CX(s:List UInt8):Bool:=BV s 1&& !kw s
def HU(s:List UInt8):Bool:=s==[38,38]||(s==[124,124]||(s==[61,61]||(s==[60]||(s==[43]||(s==[45]||s==[42])))))
def Dv(k:Int)(s:List UInt8):Bool:=
 if k=1∨k=6∨k=12∨k=13∨k=20∨k=21 then CX s
 else if k=2 then BV s 2
 else if k=3 then BV s 3
 else if k=19 then BV s 5
 else if k=7 then HU s
 else s==[]
theorem IW{p:UInt8→Bool}:∀ {s:List UInt8} {n:Nat},(∀e∈s.take n,p e=true)→(s.length≤n∨∃e,s[n]? =some e∧p e=false)→s.take n=s.takeWhile p
 |[],n,_,_=>by simp
 |c::s,0,_,h=>by
  rcases h with h|⟨e,he,hp⟩
  ·simp at h
  ·simp at he;subst he;simp [List.takeWhile,hp]
 |c::s,n+1,ha,h=>by
  have hc:p c=true:=ha c (by simp)
  rw[List.take_succ_cons,List.takeWhile_cons,if_pos hc,IW (fun e he=>ha e (by simp [he]))]
  rcases h with h|⟨e,he,hp⟩
  ·exact .inl (by simpa using h)
  ·exact .inr ⟨e,by simpa using he,hp⟩
theorem NP{p:UInt8→Bool}{s:List UInt8}{n:Nat}{e:UInt8}(h:∀e∈s.take n,p e=true)(he:s[n]? =some e)(hp:p e=true):∀e∈s.take (n+1),p e=true:=by
 rw[Df he];intro x hx
 rcases List.mem_append.1 hx with hx|hx
 ·exact h x hx
 ·simp at hx;subst hx;exact hp
theorem UP{p:UInt8→Bool}{s:List UInt8}{n:Nat}(h:∀e∈s.take n,p e=true)(hn:s.length≤n):s.all p=true:=by
 rw[List.take_of_length_le hn] at h;exact List.all_eq_true.2 h
theorem PU{p:UInt8→Bool}{s:List UInt8}{n:Nat}{e:UInt8}(he:s[n]? =some e)(hp:p e=false):s.all p=false:=by
 rw[Bool.eq_false_iff];intro h
 rw[List.all_eq_true.1 h e (List.mem_of_getElem? he)] at hp;cases hp
theorem PV{p:UInt8→Bool}{s:List UInt8}:s.takeWhile p=s↔s.all p=true:=by
 constructor
 ·intro h;rw[←h];exact List.all_takeWhile
 ·intro h;induction s with
  |nil=>rfl
  |cons c s ih=>
   simp only[List.all_cons,Bool.and_eq_true] at h
   rw[List.takeWhile_cons,if_pos h.1,ih h.2]
theorem UQ{p:UInt8→Bool}:∀ {s:List UInt8},DP p s=none↔∀e∈s,p e=false
 |[]=>by simp [DP]
 |c::s=>by
  unfold DP
  by_cases h:p c=true
  ·simp [h]
  ·simp [h,UQ (s:=s)]
theorem JZ{p:UInt8→Bool}:∀ {s:List UInt8} {i:Nat},DP p s=some i↔(∀e∈s.take i,p e=false)∧∃e,s[i]? =some e∧p e=true
 |[],i=>by simp [DP]
 |c::s,i=>by
  unfold DP
  by_cases h:p c=true
  ·cases i with
   |zero=>simp [h]
   |succ i=>simp [h]
  ·cases i with
   |zero=>simp [h]
   |succ i=>
    simp only[h,Bool.false_eq_true,if_false,Option.map_eq_some_iff]
    constructor
    ·rintro⟨j,hj,e⟩
     obtain rfl:j=i:=by omega
     obtain⟨h1,h2⟩:=JZ.1 hj
     refine⟨?_,by simpa using h2⟩
     intro e he;simp at he
     rcases he with rfl|he
     ·simpa using h
     ·exact h1 e he
    ·rintro⟨h1,h2⟩
     exact⟨i,JZ.2 ⟨fun e he=>h1 e (by simp [he]),by simpa using h2⟩,rfl⟩
def inn(x a b:Int):Bool:=decide (a≤x)&&decide (x≤b)
def Bf(l:List Nd)(k:Int):Bool:=decide (0≤k)&&decide (k<l.length)
def AX(k:Int):Bool:=inn k 1 11
def Gm(k:Int):Bool:=inn k 12 17
def CF(k:Int):Bool:=decide (k=12)||(decide (k=20)||decide (k=19))
def CY(k:Int):Bool:=decide (k=18)
def Dw(k:Int):Bool:=decide (k=1)
def Ez(k:Int):Bool:=decide (k=5)
def CM(k:Int):Bool:=Gm k||decide (k=19)
def Gn(k:Int):Bool:=CF k||decide (k=21)
def EA(p:Int→Bool)(ks:List Int):Bool:=match ks.getLast? with
 |some k=>p k&&ks.dropLast.all Dw
 |none=>false
def CR(k:Int)(ks:List Int):Bool:=
 if k=1∨k=2∨k=3∨k=19 then decide (ks.length=0)
 else if k=4 then ks.all AX
 else if k=5 then decide (1≤ks.length)&&ks.all AX
 else if k=7 then decide (2≤ks.length)&&ks.all AX
 else if k=8 then decide (ks.length=3)&&ks.all AX
 else if k=6∨k=11∨k=13∨k=14 then decide (ks.length=1)&&ks.all AX
 else if k=12∨k=15 then decide (ks.length≤1)&&ks.all AX
 else if k=9 then EA AX ks
 else if k=10 then decide (2≤ks.length)&&(AX (ks.headD 0)&&(ks.drop 1).all Ez)
 else if k=16 then(decide (2≤ks.length)&&decide (ks.length≤3))&&(AX (ks.headD 0)&&(ks.drop 1).all CY)
 else if k=17 then decide (ks.length=2)&&(AX (ks.headD 0)&&CY (ks.getD 1 0))
 else if k=18 then ks.all CM
 else if k=20 then EA CY ks
 else if k=21 then ks.all CF
 else if k=22 then ks.all Gn
 else false
def Aa(ns:List Nd)(c:Int):Nd:=ns.getD c.toNat ⟨0,[],[],false⟩
def Al(ns:List Nd)(c:Int):Int:=(Aa ns c).kind
def CK(ns:List Nd)(x:Nd)(i:Nat)(c:Int):Bool:=
 let y:=Aa ns c
 if y.kind=5 then match y.kids with
  |[]=>false
  |h::_=>Bf ns h&& !(decide (x.kind=10)&&(decide (0<i)&& !decide (Al ns h=1)))
 else true
def EO(ns:List Nd)(x:Nd):Bool:=(x.kids.zipIdx).all fun p=>CK ns x p.2 p.1
def DG(l:List Int)(k:Int):Bool:=l.all fun c=>decide (0≤c)&&decide (c<k)
def GL(k:Int):Bool:=Gm k||(CF k||decide (k=21))
def Ho(ns:List Nd)(k:Int)(x:Nd):Bool:=
 decide (x.kids.length≤12)&&(Dv x.kind x.text&&((DG x.kids k&&decide x.kids.Nodup)&&(CR x.kind (x.kids.map (Al ns))&&(EO ns x&&(GL x.kind|| !x.blank)))))
def Cc(ns:List Nd)(k:Int):Bool:=Bf ns k&&Ho ns k (Aa ns k)
def mx(ds:List Int):List Int→Int→Int
 |[],d=>d
 |c::l,d=>mx ds l (max d (ds.getD c.toNat 0))
def BW(ns:List Nd):Nat→Option (List Int)
 |0=>some []
 |n+1=>match BW ns n with
  |none=>none
  |some ds=>if Cc ns n then(if 14≤mx ds (Aa ns n).kids 0 then none else some (ds++[mx ds (Aa ns n).kids 0+1])) else none
def BM(ns:List Nd)(k:Int):Int:=if Bf ns k then match BW ns (k.toNat+1) with
    |none=>0
    |some ds=>ds.getD k.toNat 0
 else 0
def ZT(ns:List Nd):List Int:=ns.flatMap (·.kids)
def a8K(ns:List Nd):Bool:=
 (decide (1≤ns.length)&&decide (ns.length≤300))&&(decide (Al ns (ns.length-1)=22)&&(!decide (BM ns (ns.length-1)=0)&&((List.range (ns.length-1)).all fun i=>decide ((ZT ns).count (i:Int)=1))))
theorem Bc{l:List Nd}{k:Int}:Bf l k=true↔0≤k∧k<l.length:=by simp [Bf]
theorem Br{ns:List Nd}{c:Int}{x:Nd}(h:ns[c.toNat]? =some x):Aa ns c=x:=by
 simp [Aa,List.getD,h]
theorem PW(ds:List Int):∀(l:List Int) (d:Int),d≤mx ds l d
 |[],d=>Int.le_refl d
 |c::l,d=>by unfold mx;have:=PW ds l (max d (ds.getD c.toNat 0));omega
theorem IX{ns:List Nd}:∀ {n:Nat} {ds:List Int},BW ns n=some ds→ds.length=n
 |0,ds,h=>by cases h;rfl
 |n+1,ds,h=>by
  unfold BW at h
  split at h
  ·cases h
  ·rename_i ds' hd
   split at h
   ·split at h
    ·cases h
    ·simp at h;rw[←h];simp [IX hd]
   ·cases h
theorem LR{ns:List Nd}:∀ {n:Nat} {ds:List Int},BW ns n=some ds→∀d∈ds,1≤d∧d≤14
 |0,ds,h=>by cases h;simp
 |n+1,ds,h=>by
  unfold BW at h
  split at h
  ·cases h
  ·rename_i ds' hd
   split at h
   ·split at h
    ·cases h
    ·simp at h;rw[←h]
     intro d hdm
     rcases List.mem_append.1 hdm with hdm|hdm
     ·exact LR hd d hdm
     ·simp at hdm
      have:=PW ds' (Aa ns n).kids 0
      omega
   ·cases h
theorem UR{ns:List Nd}:∀ {n:Nat} {ds:List Int},BW ns n=some ds→∀i,i<n→Cc ns i=true
 |0,ds,h,i,hi=>by omega
 |n+1,ds,h,i,hi=>by
  unfold BW at h
  split at h
  ·cases h
  ·rename_i ds' hd
   split at h
   ·rename_i hok
    by_cases e:i=n
    ·subst e;exact hok
    ·exact UR hd i (by omega)
   ·cases h
theorem US{ns:List Nd}{n m:Nat}(h:BW ns n=none)(hm:n≤m):BW ns m=none:=by
 induction m with
 |zero=>obtain rfl:n=0:=by omega
        exact h
 |succ m ih=>
  by_cases e:n=m+1
  ·subst e;exact h
  ·unfold BW;rw[ih (by omega)]
theorem UT{ns:List Nd}{k:Int}(h:BM ns k≠0):Bf ns k=true∧(∃ds,BW ns (k.toNat+1)=some ds)∧∀i:Nat,(i:Int)≤k→Cc ns i=true:=by
 unfold BM at h
 split at h
 ·rename_i hn
  split at h
  ·exact(h rfl).elim
  ·rename_i ds hd
   exact⟨hn,⟨ds,hd⟩,fun i hi=>UR hd i (by have:=Bc.1 hn;omega)⟩
 ·exact(h rfl).elim
theorem UU{ns:List Nd}{k:Int}:0≤BM ns k:=by
 unfold BM
 split
 ·split
  ·exact Int.le_refl 0
  ·rename_i ds hd
   rw[List.getD]
   cases h:ds[k.toNat]? with
   |none=>simp
   |some d=>have:=LR hd d (List.mem_of_getElem? h);simp;omega
 ·exact Int.le_refl 0
theorem a8L{ns:List Nd}{k:Int}{ds:List Int}(hn:Bf ns k=true)(h:BW ns (k.toNat+1)=some ds):BM ns k≠0:=by
 unfold BM
 rw[if_pos hn,h]
 have hl:=IX h
 have:ds[k.toNat]? =some ds[k.toNat]:=by simp
 simp only[List.getD,this,Option.getD_some]
 have:=LR h ds[k.toNat] (by simp)
 omega
theorem Dj{ns:List Nd}{k:Int}(h:Cc ns k=true):(0≤k∧k<ns.length)∧(Aa ns k).kids.length≤12∧Dv (Aa ns k).kind (Aa ns k).text=true∧
 (∀c∈(Aa ns k).kids,0≤c∧c<k)∧(Aa ns k).kids.Nodup∧CR (Aa ns k).kind ((Aa ns k).kids.map (Al ns))=true∧EO ns (Aa ns k)=true:=by
 simp only[Cc,Ho,Bool.and_eq_true,decide_eq_true_eq,DG,List.all_eq_true] at h
 exact⟨Bc.1 h.1,h.2.1,h.2.2.1,h.2.2.2.1.1,h.2.2.2.1.2,h.2.2.2.2.1,h.2.2.2.2.2.1⟩
end Go.My
end
section
namespace Go.My
open Go.Eng Go.Proofs Go.RowKit
variable {G:GInv}
def Cq(s:List UInt8)(c:UInt8):Int:=match DP (fun d=>decide (d.toNat=c.toNat)) s with
 |none=> -1
 |some i=>i
theorem ZU:∀(s:List UInt8) (c:UInt8),Lib.indexByte s c=Cq s c
 |[],c=>rfl
 |b::s,c=>by
  unfold Lib.indexByte Cq DP
  have e:(b==c)=decide (b.toNat=c.toNat):=by
   rw[Bool.eq_iff_iff];simp [UInt8.toNat_inj]
  rw[e]
  by_cases h:b.toNat=c.toNat
  ·simp [h]
  ·have ih:=ZU s c
   unfold Cq at ih
   simp only[h,decide_false,Bool.false_eq_true,if_false]
   rw[ih]
   cases hh:DP (fun d=>decide (d.toNat=c.toNat)) s with
   |none=>simp
   |some i=>simp
set_option maxHeartbeats 1000000 in
set_option maxRecDepth 100000 in
theorem a8M(s:ByteArray)(c:Int)(w:World):
 Calls Tryz.prog 235 #[.string s,.int .u8 c] w fun e w'=>e= .returned (.int .i64 (Lib.indexByte s.data.toList c.toNat.toUInt8))∧w'=w:=by
 go_enter Tryz.func235,Tryz.ntmps235
 go_wp2
 rw[run_callFunc_extern Tryz.func245 (by kernel_rfl) (by kernel_rfl) (by kernel_rfl) (e:=Extern.BytealgIndexByte.indexByte) (by kernel_rfl),Lib.run_indexByteString]
 simp only[Result.andThen]
 rw[Oper.upon_value]
 go_wp2
 go_ret
 exact⟨rfl,rfl⟩
def LT:Sig:= {X:=List UInt8×UInt8,args:=fun x=>[.str x.1,.int .u8 x.2.toNat],pre:=fun _=>True,Y:=Unit,post:=fun _ _=>True,res:=fun x _=> .int .i64 (Cq x.1 x.2),outs:=fun _ _=>[.top,.top],keep:=false}
theorem UV:Ah G Tryz.prog 235 LT:=by
 refine⟨⟨⟨_,Tryz.func235,by kernel_rfl,by kernel_rfl⟩,fun x y _ _=>⟨trivial,trivial,trivial,trivial⟩⟩,?_⟩
 rintro⟨l,c⟩ _ Z w vals A _ h hA _
 simp only[LT,AS,Ai] at h
 obtain⟨v,cs,A1,A2,rfl,_,⟨rfl,_⟩,v',cs',A3,A4,rfl,_,⟨rfl,_⟩,rfl,_⟩:=h
 refine(a8M ⟨l.toArray⟩ c.toNat w).mono ?_
 rintro e w' ⟨rfl,rfl⟩
 refine⟨(),_,Z,(fun _=>False),trivial,rfl,?_,⟨rfl,rfl,rfl,Nat.le_refl _,fun _ _ _=>⟨rfl,Iff.rfl⟩,fun _ h=>h.elim⟩⟩
 simp only[LT,AS,Ai]
 refine⟨_,_,_,_,rfl,BD _,⟨?_,AO⟩,_,_,_,_,rfl,BD _,AO,_,_,_,_,rfl,BD _,AO,rfl,AO⟩
 rw[ZU];simp
def PX:Sig:= {X:=List UInt8,args:=fun x=>[.str x,.int .u8 39],pre:=fun _=>True,Y:=Unit,post:=fun _ _=>True,res:=fun x _=> .int .i64 (Cq x 39),outs:=fun _ _=>[.top,.top],keep:=false}
theorem a8N:Ah G Tryz.prog 235 PX:=⟨⟨(UV (G:=G)).1.1,fun x y _ _=>⟨trivial,trivial,trivial,trivial⟩⟩,fun x hx=>(UV (G:=G)).2 (x,39) trivial⟩
def LU:Sig:= {X:=List UInt8,args:=fun x=>[.str x,.int .u8 39],pre:=fun x=>True,Y:=Unit,post:=fun x y=>True,res:=fun x y=> .int .i64 (Cq x 39),outs:=fun x y=>[.top,.top],keep:=false}
theorem a8O:Ah G Tryz.prog 223 LU:=
 vcFun_okP [(235,0,PX)] [] false (fun x=>[]) Tryz.func223 rfl (by decide) ⟨a8N,trivial⟩ (fun(x:List UInt8)=>(∀(y:Unit),True→True∧True∧True∧True)∧cA PX [.str x,AV.int IntKind.u8 (39:Int)] fun x_1 y=>rA LU x [.int .i64 (Cq x_1 (39:UInt8)),.top,.top]) (fun x=>by kernel_rfl) fun(x:List UInt8) (hx:True)=>(by
 dsimp only[cA,rA,PX,LU,Aq,Aw,mvL,lnL,mvE,lnE,mvG,mvH,lnG,lnH]
 (repeat' first|(with_reducible first|rfl|exact True.intro|apply AG|apply And.intro|((first|apply Au|apply AE|apply Av|apply AF)<;>intro _))|(apply As<;>intro _)|apply AD|refine Af () ?_ ?_|((first|apply AK|apply AJ|apply AI|apply AH|apply AC|apply AB|apply AA|apply Az|apply Ax)<;>try dsimp only)|apply Af|(refine Prod.forall.2 ?_;intro _;try dsimp only)|(intro _;try dsimp only))<;>(try dsimp only at*)<;>(try simp only[Aj,List.length_cons,List.length_nil])<;>(try omega))
def HV:Sig:= {X:=List UInt8×List UInt8,args:=fun x=>[.str x.1,.str x.2],pre:=fun x=>x.2.length=1,Y:=Unit,post:=fun x y=>True,res:=fun x y=> .int .i64 (Cq x.1 (x.2.headD 0)),outs:=fun x y=>[.top,.top],keep:=false}
theorem a8P:Ah G Tryz.prog 249 HV:=
 vcFun_okP [(235,0,LT)] [] false (fun x=>[]) Tryz.func249 rfl (by decide) ⟨UV,trivial⟩ (fun(x:List UInt8×List UInt8)=>(∀(y:Unit),True→True∧True∧True∧True)∧Ab ((↑(List.length x.2):Int)==(0:Int)) (rA HV x [.int .i64 (0:Int),.top,.top]) (Ab (x.2==x.1) (rA HV x [.int .i64 (0:Int),.top,.top]) (Ab ((↑(List.length x.2):Int)==(1:Int)) (((0:Int)≤(0:Int)∧(0:Int)<(↑(List.length x.2):Int))∧∀(c:UInt8),x.2[(0:Nat)]? =some c→cA LT [.str x.1,AV.int IntKind.u8 (↑(UInt8.toNat c):Int)] fun x_1 y=>rA HV x [.int .i64 (Cq x_1.1 x_1.2),.top,.top]) (Ab (decide ((↑(List.length x.2):Int)≥(↑(List.length x.1):Int))) (rA HV x [.int .i64 (-1:Int),.top,.top]) False)))) (fun x=>by kernel_rfl) fun(x:List UInt8×List UInt8) (hx:x.2.length=1)=>(by
 dsimp only[cA,rA,LT,HV,Aq,Aw,mvL,lnL,mvE,lnE,mvG,mvH,lnG,lnH]
 (repeat' first|(with_reducible first|rfl|exact True.intro|apply AG|apply And.intro|((first|apply Au|apply AE|apply Av|apply AF)<;>intro _))|(apply As<;>intro _)|apply AD|refine Af () ?_ ?_|((first|apply AK|apply AJ|apply AI|apply AH|apply AC|apply AB|apply AA|apply Az|apply Ax)<;>try dsimp only)|apply Af|(refine Prod.forall.2 ?_;intro _;try dsimp only)|(intro _;try dsimp only))<;>(try dsimp only at*)<;>(try simp only[Aj,List.length_cons,List.length_nil])<;>(try omega)
 ·rename_i _ h;rw[←h];match x.2,hx with
  |[c],_=>simp [Cq,DP]
 ·rename_i c hc _ _
  match x.2,hx,hc with
  |[d],_,hc=>simp at hc;rw[←hc];rfl)
def LV:Sig:= {X:=List UInt8×List UInt8,args:=fun x=>[.str x.1,.str x.2],pre:=fun x=>x.2.length=1,Y:=Unit,post:=fun x y=>True,res:=fun x y=> .int .i64 (Cq x.1 (x.2.headD 0)),outs:=fun x y=>[.top,.top],keep:=false}
theorem a8Q:Ah G Tryz.prog 240 LV:=
 vcFun_okP [(249,0,HV)] [] false (fun x=>[]) Tryz.func240 rfl (by decide) ⟨a8P,trivial⟩ (fun(x:List UInt8×List UInt8)=>(∀(y:Unit),True→True∧True∧True∧True)∧cA HV [.str x.1,.str x.2] fun x_1 y=>rA LV x [.int .i64 (Cq x_1.1 (List.headD x_1.2 (0:UInt8))),.top,.top]) (fun x=>by kernel_rfl) fun(x:List UInt8×List UInt8) (hx:x.2.length=1)=>(by
 dsimp only[cA,rA,LV,HV,Aq,Aw,mvL,lnL,mvE,lnE,mvG,mvH,lnG,lnH]
 (repeat' first|(with_reducible first|rfl|exact True.intro|apply AG|apply And.intro|((first|apply Au|apply AE|apply Av|apply AF)<;>intro _))|(apply As<;>intro _)|apply AD|refine Af () ?_ ?_|((first|apply AK|apply AJ|apply AI|apply AH|apply AC|apply AB|apply AA|apply Az|apply Ax)<;>try dsimp only)|apply Af|(refine Prod.forall.2 ?_;intro _;try dsimp only)|(intro _;try dsimp only))<;>(try dsimp only at*)<;>(try simp only[Aj,List.length_cons,List.length_nil])<;>(try omega))
def LW:Sig:= {X:=List UInt8×List UInt8,args:=fun x=>[.str x.1,.str x.2],pre:=fun x=>x.2.length=1,Y:=Unit,post:=fun x y=>True,res:=fun x y=> .bool (decide (Cq x.1 (x.2.headD 0)≥0)),outs:=fun x y=>[.top,.top],keep:=false}
theorem a8R:Ah G Tryz.prog 225 LW:=
 vcFun_okP [(240,0,LV)] [] false (fun x=>[]) Tryz.func225 rfl (by decide) ⟨a8Q,trivial⟩ (fun(x:List UInt8×List UInt8)=>(∀(y:Unit),True→True∧True∧True∧True)∧cA LV [.str x.1,.str x.2] fun x_1 y=>rA LW x [.bool (decide (Cq x_1.1 (List.headD x_1.2 (0:UInt8))≥(0:Int))),.top,.top]) (fun x=>by kernel_rfl) fun(x:List UInt8×List UInt8) (hx:x.2.length=1)=>(by
 dsimp only[cA,rA,LW,LV,Aq,Aw,mvL,lnL,mvE,lnE,mvG,mvH,lnG,lnH]
 (repeat' first|(with_reducible first|rfl|exact True.intro|apply AG|apply And.intro|((first|apply Au|apply AE|apply Av|apply AF)<;>intro _))|(apply As<;>intro _)|apply AD|refine Af () ?_ ?_|((first|apply AK|apply AJ|apply AI|apply AH|apply AC|apply AB|apply AA|apply Az|apply Ax)<;>try dsimp only)|apply Af|(refine Prod.forall.2 ?_;intro _;try dsimp only)|(intro _;try dsimp only))<;>(try dsimp only at*)<;>(try simp only[Aj,List.length_cons,List.length_nil])<;>(try omega))
def Ka:Sig:= {X:=List UInt8×List UInt8,args:=fun x=>[.str x.1,.str x.2],pre:=fun x=>x.2.length<2^62∧x.1.length<2^63,Y:=Unit,post:=fun x y=>True,res:=fun x y=> .bool (x.1.take x.2.length==x.2),outs:=fun x y=>[.top,.top],keep:=false}
theorem a8S:Ah G Tryz.prog 214 Ka:=
 vcFun_okP [] [] false (fun x=>[]) Tryz.func214 rfl (by decide) trivial (fun(x:List UInt8×List UInt8)=>(∀(y:Unit),True→True∧True∧True∧True)∧Ab (decide ((↑(List.length x.1):Int)≥(↑(List.length x.2):Int))) (((0:Int)≤(0:Int)∧(0:Int)≤(↑(List.length x.2):Int)∧(↑(List.length x.2):Int)≤(↑(List.length x.1):Int))∧rA Ka x [.bool (List.take (Int.toNat (↑(List.length x.2):Int)) x.1==x.2),.top,.top]) (rA Ka x [.bool false,.top,.top])) (fun x=>by kernel_rfl) fun(x:List UInt8×List UInt8) (hx:x.2.length<2^62∧x.1.length<2^63)=>(by
 dsimp only[rA,Ka,Aq,Aw]
 obtain⟨h1,h2⟩:=hx
 (repeat' first|(with_reducible first|rfl|exact True.intro|apply AG|apply And.intro|((first|apply Au|apply AE|apply Av|apply AF)<;>intro _))|(apply As<;>intro _)|apply AD|refine Af () ?_ ?_|((first|apply AK|apply AJ|apply AI|apply AH|apply AC|apply AB|apply AA|apply Az|apply Ax)<;>try dsimp only)|apply Af|(refine Prod.forall.2 ?_;intro _;try dsimp only)|(intro _;try dsimp only))<;>(try dsimp only at*)<;>(try simp only[Aj,List.length_cons,List.length_nil])<;>(try omega)
 ·simp
 ·rename_i h;rw[eq_comm,beq_eq_false_iff_ne];intro e;have:=congrArg List.length e;simp at this;omega)
def LX:Sig:= {X:=List UInt8×List UInt8,args:=fun x=>[.str x.1,.str x.2],pre:=fun x=>x.2.length<2^62∧x.1.length<2^63,Y:=Unit,post:=fun x y=>True,res:=fun x y=> .bool (x.1.take x.2.length==x.2),outs:=fun x y=>[.top,.top],keep:=false}
theorem a8T:Ah G Tryz.prog 193 LX:=
 vcFun_okP [(214,0,Ka)] [] false (fun x=>[]) Tryz.func193 rfl (by decide) ⟨a8S,trivial⟩ (fun(x:List UInt8×List UInt8)=>(∀(y:Unit),True→True∧True∧True∧True)∧cA Ka [.str x.1,.str x.2] fun x_1 y=>rA LX x [.bool (List.take (List.length x_1.2) x_1.1==x_1.2),.top,.top]) (fun x=>by kernel_rfl) fun(x:List UInt8×List UInt8) (hx:x.2.length<2^62∧x.1.length<2^63)=>(by
 dsimp only[cA,rA,LX,Ka,Aq,Aw,mvL,lnL,mvE,lnE,mvG,mvH,lnG,lnH]
 obtain⟨h1,h2⟩:=hx
 (repeat' first|(with_reducible first|rfl|exact True.intro|apply AG|apply And.intro|((first|apply Au|apply AE|apply Av|apply AF)<;>intro _))|(apply As<;>intro _)|apply AD|refine Af () ?_ ?_|((first|apply AK|apply AJ|apply AI|apply AH|apply AC|apply AB|apply AA|apply Az|apply Ax)<;>try dsimp only)|apply Af|(refine Prod.forall.2 ?_;intro _;try dsimp only)|(intro _;try dsimp only))<;>(try dsimp only at*)<;>(try simp only[Aj,List.length_cons,List.length_nil])<;>(try omega))
end Go.My
end
section
namespace Go.My
open Go.Eng Go.Proofs
variable {G:GInv}
def BN:Sig:= {X:=Int×Int×Int,args:=fun x=>[.int .i64 x.1,.int .i64 x.2.1,.int .i64 x.2.2],pre:=fun x=>True,Y:=Unit,post:=fun x y=>True,res:=fun x y=> .bool (inn x.1 x.2.1 x.2.2),outs:=fun x y=>[.top,.top,.top],keep:=false}
theorem GM:Ah G Tryz.prog 36 BN:=
 vcFun_okP [] [] false (fun x=>[]) Tryz.func36 rfl (by decide) trivial (fun(x:Int×Int×Int)=>(∀(y:Unit),True→True∧True∧True∧True∧True)∧Ab (decide (x.1≥x.2.1)) (rA BN x [.bool (decide (x.1≤x.2.2)),.top,.top,.top]) (rA BN x [.bool false,.top,.top,.top])) (fun x=>by kernel_rfl) fun(x:Int×Int×Int) (hx:True)=>(by
 dsimp only[rA,BN,Aq,Aw]
 (repeat' first|(with_reducible first|rfl|exact True.intro|apply AG|apply And.intro|((first|apply Au|apply AE|apply Av|apply AF)<;>intro _))|(apply As<;>intro _)|apply AD|refine Af () ?_ ?_|((first|apply AK|apply AJ|apply AI|apply AH|apply AC|apply AB|apply AA|apply Az|apply Ax)<;>try dsimp only)|apply Af|(refine Prod.forall.2 ?_;intro _;try dsimp only)|(intro _;try dsimp only))<;>(try dsimp only at*)<;>(try simp only[Aj,List.length_cons,List.length_nil])<;>(try omega)
 all_goals simp [inn, *])
def Bz:Sig:= {X:=Int×Int×Int,args:=fun x=>[.int .i64 x.1,.int .i64 x.2.1,.int .i64 x.2.2],pre:=fun x=>True,Y:=Unit,post:=fun x y=>True,res:=fun x y=> .bool (inn x.1 x.2.1 x.2.2),outs:=fun x y=>[.top,.top,.top],keep:=false}
theorem GN:Ah G Tryz.prog 45 Bz:=
 vcFun_okP [] [] false (fun x=>[]) Tryz.func45 rfl (by decide) trivial (fun(x:Int×Int×Int)=>(∀(y:Unit),True→True∧True∧True∧True∧True)∧Ab (decide (x.1≥x.2.1)) (rA Bz x [.bool (decide (x.1≤x.2.2)),.top,.top,.top]) (rA Bz x [.bool false,.top,.top,.top])) (fun x=>by kernel_rfl) fun(x:Int×Int×Int) (hx:True)=>(by
 dsimp only[rA,Bz,Aq,Aw]
 (repeat' first|(with_reducible first|rfl|exact True.intro|apply AG|apply And.intro|((first|apply Au|apply AE|apply Av|apply AF)<;>intro _))|(apply As<;>intro _)|apply AD|refine Af () ?_ ?_|((first|apply AK|apply AJ|apply AI|apply AH|apply AC|apply AB|apply AA|apply Az|apply Ax)<;>try dsimp only)|apply Af|(refine Prod.forall.2 ?_;intro _;try dsimp only)|(intro _;try dsimp only))<;>(try dsimp only at*)<;>(try simp only[Aj,List.length_cons,List.length_nil])<;>(try omega)
 all_goals simp [inn, *])
def FG:Sig:= {X:=UInt8,args:=fun x=>[.int .u8 x.toNat],pre:=fun x=>True,Y:=Unit,post:=fun x y=>True,res:=fun x y=> .bool (Bu x),outs:=fun x y=>[.top],keep:=false}
theorem UW:Ah G Tryz.prog 207 FG:=
 vcFun_okP [] [] false (fun x=>[]) Tryz.func207 rfl (by decide) trivial (fun(x:UInt8)=>(∀(y:Unit),True→True∧True∧True)∧Ab (decide ((↑(UInt8.toNat x):Int)≥(48:Int))) (rA FG x [.bool (decide ((↑(UInt8.toNat x):Int)≤(57:Int))),.top]) (rA FG x [.bool false,.top])) (fun x=>by kernel_rfl) fun(x:UInt8) (hx:True)=>(by
 dsimp only[rA,FG,Aq,Aw]
 (repeat' first|(with_reducible first|rfl|exact True.intro|apply AG|apply And.intro|((first|apply Au|apply AE|apply Av|apply AF)<;>intro _))|(apply As<;>intro _)|apply AD|refine Af () ?_ ?_|((first|apply AK|apply AJ|apply AI|apply AH|apply AC|apply AB|apply AA|apply Az|apply Ax)<;>try dsimp only)|apply Af|(refine Prod.forall.2 ?_;intro _;try dsimp only)|(intro _;try dsimp only))<;>(try dsimp only at*)<;>(try simp only[Aj,List.length_cons,List.length_nil])<;>(try omega)
 all_goals(rw[Bool.eq_iff_iff];simp only[Bu,Bool.and_eq_true,Bool.or_eq_true,decide_eq_true_eq,Bool.not_eq_true',decide_eq_false_iff_not,bne_iff_ne,ne_eq,beq_iff_eq,Bool.not_not,reduceCtorEq,Bool.false_eq_true,true_iff,false_iff,iff_true,iff_false,not_true,not_false_eq_true]<;>omega))
def Hp:Sig:= {X:=UInt8,args:=fun x=>[.int .u8 x.toNat],pre:=fun x=>True,Y:=Unit,post:=fun x y=>True,res:=fun x y=> .bool (Bu x),outs:=fun x y=>[.top],keep:=false}
theorem ZV:Ah G Tryz.prog 172 Hp:=
 vcFun_okP [] [] false (fun x=>[]) Tryz.func172 rfl (by decide) trivial (fun(x:UInt8)=>(∀(y:Unit),True→True∧True∧True)∧Ab (decide ((↑(UInt8.toNat x):Int)≥(48:Int))) (rA Hp x [.bool (decide ((↑(UInt8.toNat x):Int)≤(57:Int))),.top]) (rA Hp x [.bool false,.top])) (fun x=>by kernel_rfl) fun(x:UInt8) (hx:True)=>(by
 dsimp only[rA,Hp,Aq,Aw]
 (repeat' first|(with_reducible first|rfl|exact True.intro|apply AG|apply And.intro|((first|apply Au|apply AE|apply Av|apply AF)<;>intro _))|(apply As<;>intro _)|apply AD|refine Af () ?_ ?_|((first|apply AK|apply AJ|apply AI|apply AH|apply AC|apply AB|apply AA|apply Az|apply Ax)<;>try dsimp only)|apply Af|(refine Prod.forall.2 ?_;intro _;try dsimp only)|(intro _;try dsimp only))<;>(try dsimp only at*)<;>(try simp only[Aj,List.length_cons,List.length_nil])<;>(try omega)
 all_goals(rw[Bool.eq_iff_iff];simp only[Bu,Bool.and_eq_true,Bool.or_eq_true,decide_eq_true_eq,Bool.not_eq_true',decide_eq_false_iff_not,bne_iff_ne,ne_eq,beq_iff_eq,Bool.not_not,reduceCtorEq,Bool.false_eq_true,true_iff,false_iff,iff_true,iff_false,not_true,not_false_eq_true]<;>omega))
def Fb:Sig:= {X:=UInt8,args:=fun x=>[.int .u8 x.toNat],pre:=fun x=>True,Y:=Unit,post:=fun x y=>True,res:=fun x y=> .bool (CE x),outs:=fun x y=>[.top],keep:=false}
theorem ZW:Ah G Tryz.prog 204 Fb:=
 vcFun_okP [] [] false (fun x=>[]) Tryz.func204 rfl (by decide) trivial (fun(x:UInt8)=>(∀(y:Unit),True→True∧True∧True)∧Ab (decide ((↑(UInt8.toNat x):Int)≥(97:Int))) (Ab (decide ((↑(UInt8.toNat x):Int)≤(122:Int))) (rA Fb x [.bool true,.top]) (Ab (decide ((↑(UInt8.toNat x):Int)≥(65:Int))) (Ab (decide ((↑(UInt8.toNat x):Int)≤(90:Int))) (rA Fb x [.bool true,.top]) (rA Fb x [.bool ((↑(UInt8.toNat x):Int)==(95:Int)),.top])) (rA Fb x [.bool ((↑(UInt8.toNat x):Int)==(95:Int)),.top]))) (Ab (decide ((↑(UInt8.toNat x):Int)≥(65:Int))) (Ab (decide ((↑(UInt8.toNat x):Int)≤(90:Int))) (rA Fb x [.bool true,.top]) (rA Fb x [.bool ((↑(UInt8.toNat x):Int)==(95:Int)),.top])) (rA Fb x [.bool ((↑(UInt8.toNat x):Int)==(95:Int)),.top]))) (fun x=>by kernel_rfl) fun(x:UInt8) (hx:True)=>(by
 dsimp only[rA,Fb,Aq,Aw]
 (repeat' first|(with_reducible first|rfl|exact True.intro|apply AG|apply And.intro|((first|apply Au|apply AE|apply Av|apply AF)<;>intro _))|(apply As<;>intro _)|apply AD|refine Af () ?_ ?_|((first|apply AK|apply AJ|apply AI|apply AH|apply AC|apply AB|apply AA|apply Az|apply Ax)<;>try dsimp only)|apply Af|(refine Prod.forall.2 ?_;intro _;try dsimp only)|(intro _;try dsimp only))<;>(try dsimp only at*)<;>(try simp only[Aj,List.length_cons,List.length_nil])<;>(try omega)
 all_goals(rw[Bool.eq_iff_iff];simp only[CE,Bool.and_eq_true,Bool.or_eq_true,decide_eq_true_eq,Bool.not_eq_true',decide_eq_false_iff_not,bne_iff_ne,ne_eq,beq_iff_eq,Bool.not_not,reduceCtorEq,Bool.false_eq_true,true_iff,false_iff,iff_true,iff_false,not_true,not_false_eq_true]<;>omega))
def FH:Sig:= {X:=UInt8,args:=fun x=>[.int .u8 x.toNat],pre:=fun x=>True,Y:=Unit,post:=fun x y=>True,res:=fun x y=> .bool (CE x),outs:=fun x y=>[.top],keep:=false}
theorem a8U:Ah G Tryz.prog 171 FH:=
 vcFun_okP [] [] false (fun x=>[]) Tryz.func171 rfl (by decide) trivial (fun(x:UInt8)=>(∀(y:Unit),True→True∧True∧True)∧Ab (decide ((↑(UInt8.toNat x):Int)≥(97:Int))) (Ab (decide ((↑(UInt8.toNat x):Int)≤(122:Int))) (rA FH x [.bool true,.top]) (Ab (decide ((↑(UInt8.toNat x):Int)≥(65:Int))) (Ab (decide ((↑(UInt8.toNat x):Int)≤(90:Int))) (rA FH x [.bool true,.top]) (rA FH x [.bool ((↑(UInt8.toNat x):Int)==(95:Int)),.top])) (rA FH x [.bool ((↑(UInt8.toNat x):Int)==(95:Int)),.top]))) (Ab (decide ((↑(UInt8.toNat x):Int)≥(65:Int))) (Ab (decide ((↑(UInt8.toNat x):Int)≤(90:Int))) (rA FH x [.bool true,.top]) (rA FH x [.bool ((↑(UInt8.toNat x):Int)==(95:Int)),.top])) (rA FH x [.bool ((↑(UInt8.toNat x):Int)==(95:Int)),.top]))) (fun x=>by kernel_rfl) fun(x:UInt8) (hx:True)=>(by
 dsimp only[rA,FH,Aq,Aw]
 (repeat' first|(with_reducible first|rfl|exact True.intro|apply AG|apply And.intro|((first|apply Au|apply AE|apply Av|apply AF)<;>intro _))|(apply As<;>intro _)|apply AD|refine Af () ?_ ?_|((first|apply AK|apply AJ|apply AI|apply AH|apply AC|apply AB|apply AA|apply Az|apply Ax)<;>try dsimp only)|apply Af|(refine Prod.forall.2 ?_;intro _;try dsimp only)|(intro _;try dsimp only))<;>(try dsimp only at*)<;>(try simp only[Aj,List.length_cons,List.length_nil])<;>(try omega)
 all_goals(rw[Bool.eq_iff_iff];simp only[CE,Bool.and_eq_true,Bool.or_eq_true,decide_eq_true_eq,Bool.not_eq_true',decide_eq_false_iff_not,bne_iff_ne,ne_eq,beq_iff_eq,Bool.not_not,reduceCtorEq,Bool.false_eq_true,true_iff,false_iff,iff_true,iff_false,not_true,not_false_eq_true]<;>omega))
def Kb:Sig:= {X:=UInt8,args:=fun x=>[.int .u8 x.toNat],pre:=fun x=>True,Y:=Unit,post:=fun x y=>True,res:=fun x y=> .bool (Cp x),outs:=fun x y=>[.top],keep:=false}
theorem a8V:Ah G Tryz.prog 206 Kb:=
 vcFun_okP [(204,0,Fb),(207,0,FG)] [] false (fun x=>[]) Tryz.func206 rfl (by decide) ⟨ZW,UW,trivial⟩ (fun(x:UInt8)=>(∀(y:Unit),True→True∧True∧True)∧cA Fb [AV.int IntKind.u8 (↑(UInt8.toNat x):Int)] fun x_1 y=>Ab (CE x_1) (rA Kb x [.bool true,.top]) (cA FG [AV.int IntKind.u8 (↑(UInt8.toNat x):Int)] fun x_2 y=>rA Kb x [.bool (Bu x_2),.top])) (fun x=>by kernel_rfl) fun(x:UInt8) (hx:True)=>(by
 dsimp only[cA,rA,FG,Fb,Kb,Aq,Aw,mvL,lnL,mvE,lnE,mvG,mvH,lnG,lnH]
 (repeat' first|(with_reducible first|rfl|exact True.intro|apply AG|apply And.intro|((first|apply Au|apply AE|apply Av|apply AF)<;>intro _))|(apply As<;>intro _)|apply AD|refine Af () ?_ ?_|((first|apply AK|apply AJ|apply AI|apply AH|apply AC|apply AB|apply AA|apply Az|apply Ax)<;>try dsimp only)|apply Af|(refine Prod.forall.2 ?_;intro _;try dsimp only)|(intro _;try dsimp only))<;>(try dsimp only at*)<;>(try simp only[Aj,List.length_cons,List.length_nil])<;>(try omega)
 all_goals simp [Cp, *])
def FI:Sig:= {X:=UInt8,args:=fun x=>[.int .u8 x.toNat],pre:=fun x=>True,Y:=Unit,post:=fun x y=>True,res:=fun x y=> .bool (Bw x),outs:=fun x y=>[.top],keep:=false}
theorem UX:Ah G Tryz.prog 85 FI:=
 vcFun_okP [] [] false (fun x=>[]) Tryz.func85 rfl (by decide) trivial (fun(x:UInt8)=>(∀(y:Unit),True→True∧True∧True)∧Ab (decide ((↑(UInt8.toNat x):Int)≥(32:Int))) (rA FI x [.bool (decide ((↑(UInt8.toNat x):Int)≤(126:Int))),.top]) (rA FI x [.bool false,.top])) (fun x=>by kernel_rfl) fun(x:UInt8) (hx:True)=>(by
 dsimp only[rA,FI,Aq,Aw]
 (repeat' first|(with_reducible first|rfl|exact True.intro|apply AG|apply And.intro|((first|apply Au|apply AE|apply Av|apply AF)<;>intro _))|(apply As<;>intro _)|apply AD|refine Af () ?_ ?_|((first|apply AK|apply AJ|apply AI|apply AH|apply AC|apply AB|apply AA|apply Az|apply Ax)<;>try dsimp only)|apply Af|(refine Prod.forall.2 ?_;intro _;try dsimp only)|(intro _;try dsimp only))<;>(try dsimp only at*)<;>(try simp only[Aj,List.length_cons,List.length_nil])<;>(try omega)
 all_goals(rw[Bool.eq_iff_iff];simp only[Bw,Bool.and_eq_true,Bool.or_eq_true,decide_eq_true_eq,Bool.not_eq_true',decide_eq_false_iff_not,bne_iff_ne,ne_eq,beq_iff_eq,Bool.not_not,reduceCtorEq,Bool.false_eq_true,true_iff,false_iff,iff_true,iff_false,not_true,not_false_eq_true]<;>omega))
def LY:Sig:= {X:=UInt8,args:=fun x=>[.int .u8 x.toNat],pre:=fun x=>True,Y:=Unit,post:=fun x y=>True,res:=fun x y=> .bool (Cl x),outs:=fun x y=>[.top],keep:=false}
theorem a8W:Ah G Tryz.prog 209 LY:=
 vcFun_okP [] [] false (fun x=>[]) Tryz.func209 rfl (by decide) trivial (fun(x:UInt8)=>(∀(y:Unit),True→True∧True∧True)∧rA LY x [.bool ((↑(UInt8.toNat x):Int) != (10:Int)),.top]) (fun x=>by kernel_rfl) fun(x:UInt8) (hx:True)=>(by
 dsimp only[rA,LY,Aq,Aw]
 (repeat' first|(with_reducible first|rfl|exact True.intro|apply AG|apply And.intro|((first|apply Au|apply AE|apply Av|apply AF)<;>intro _))|(apply As<;>intro _)|apply AD|refine Af () ?_ ?_|((first|apply AK|apply AJ|apply AI|apply AH|apply AC|apply AB|apply AA|apply Az|apply Ax)<;>try dsimp only)|apply Af|(refine Prod.forall.2 ?_;intro _;try dsimp only)|(intro _;try dsimp only))<;>(try dsimp only at*)<;>(try simp only[Aj,List.length_cons,List.length_nil])<;>(try omega)
 all_goals(rw[Bool.eq_iff_iff];simp only[Cl,Bool.and_eq_true,Bool.or_eq_true,decide_eq_true_eq,Bool.not_eq_true',decide_eq_false_iff_not,bne_iff_ne,ne_eq,beq_iff_eq,Bool.not_not,reduceCtorEq,Bool.false_eq_true,true_iff,false_iff,iff_true,iff_false,not_true,not_false_eq_true]<;>omega))
def DQ(p:UInt8→Bool)(x:List UInt8)(rs:Int→List (Nat×AV)):LS:= {
 ι:=Int,inv:=fun i=>0≤i∧i≤x.length∧∀e∈x.take i.toNat,p e=true,regs:=rs,als:=[],meas:=fun i=>x.length-i.toNat}
def EB:Sig:= {X:=List UInt8,args:=fun x=>[.str x],pre:=fun x=>x.length<2^63,Y:=Unit,post:=fun x y=>True,res:=fun x y=> .bool (x.all Bw),outs:=fun x y=>[.top],keep:=false}
theorem PY:Ah G Tryz.prog 77 EB:=
 vcFun_okP [] [] false (fun x=>[(2,DQ Bw x fun i=>[(0,.str x),(3,.int .i64 i)])]) Tryz.func77 rfl (by decide) trivial (fun(x:List UInt8)=>(∀(y:Unit),True→True∧True∧True)∧eA (DQ Bw x fun(i:Int)=>[((0:Nat),.str x),((3:Nat),.int .i64 i)]) [.str x,.int .i64 (0:Int)]∧∀(i:Int),((0:Int)≤i∧i≤(↑(List.length x):Int)∧∀(e:UInt8),e∈List.take (Int.toNat i) x→Bw e=true)→Ab (decide (i<(↑(List.length x):Int))) (((0:Int)≤i∧i<(↑(List.length x):Int))∧∀(c:UInt8),x[Int.toNat i]? =some c→Ab (decide ((↑(UInt8.toNat c):Int)<(32:Int))) (rA EB x [.bool false,.top]) (((0:Int)≤i∧i<(↑(List.length x):Int))∧∀(c:UInt8),x[Int.toNat i]? =some c→Ab (decide ((↑(UInt8.toNat c):Int)>(126:Int))) (rA EB x [.bool false,.top]) (inR IntKind.i64 (i+(1:Int))∧eN (DQ Bw x fun(i:Int)=>[((0:Nat),.str x),((3:Nat),.int .i64 i)]) i [.str x,.int .i64 (i+(1:Int))]))) (rA EB x [.bool true,.top])) (fun x=>by kernel_rfl) fun(x:List UInt8) (hx:x.length<2^63)=>(by
 dsimp only[eA,eN,DQ,rA,EB,Aq,Aw,Ba]
 (repeat' first|(with_reducible first|rfl|exact True.intro|apply AG|apply And.intro|((first|apply Au|apply AE|apply Av|apply AF)<;>intro _))|(apply As<;>intro _)|apply AD|refine Af () ?_ ?_|((first|apply AK|apply AJ|apply AI|apply AH|apply AC|apply AB|apply AA|apply Az|apply Ax)<;>try dsimp only)|apply Af|(refine Prod.forall.2 ?_;intro _;try dsimp only)|(intro _;try dsimp only))<;>(try dsimp only at*)<;>(try simp only[Aj,List.length_cons,List.length_nil])<;>(try omega)
 ·rename_i h;simp at h
 ·rename_i i hi hl c hc h;exact(PU hc (by(rw[Bool.eq_iff_iff];simp only[Bw,Bool.and_eq_true,Bool.or_eq_true,decide_eq_true_eq,Bool.not_eq_true',decide_eq_false_iff_not,bne_iff_ne,ne_eq,beq_iff_eq,Bool.not_not,reduceCtorEq,Bool.false_eq_true,true_iff,false_iff,iff_true,iff_false,not_true,not_false_eq_true]<;>omega))).symm
 ·rename_i i hi hl c hc h d hd h2;exact(PU hd (by(rw[Bool.eq_iff_iff];simp only[Bw,Bool.and_eq_true,Bool.or_eq_true,decide_eq_true_eq,Bool.not_eq_true',decide_eq_false_iff_not,bne_iff_ne,ne_eq,beq_iff_eq,Bool.not_not,reduceCtorEq,Bool.false_eq_true,true_iff,false_iff,iff_true,iff_false,not_true,not_false_eq_true]<;>omega))).symm
 ·rename_i i hi hl c hc h d hd h2 e he
  rw[hc] at hd;cases hd
  rw[BG hi.1] at he;exact NP hi.2.2 hc (by(rw[Bool.eq_iff_iff];simp only[Bw,Bool.and_eq_true,Bool.or_eq_true,decide_eq_true_eq,Bool.not_eq_true',decide_eq_false_iff_not,bne_iff_ne,ne_eq,beq_iff_eq,Bool.not_not,reduceCtorEq,Bool.false_eq_true,true_iff,false_iff,iff_true,iff_false,not_true,not_false_eq_true]<;>omega)) e he
 ·rename_i i hi hl;exact(UP hi.2.2 (by omega)).symm)
def Kc:Sig:= {X:=List UInt8,args:=fun x=>[.str x,.clo (.func 206) []],pre:=fun x=>x.length<2^63,Y:=Unit,post:=fun x y=>True,res:=fun x y=> .str (x.takeWhile Cp),outs:=fun x y=>[.top,.top],keep:=false}
theorem a8X:Ah G Tryz.prog 205 Kc:=
 vcFun_okP [(206,0,Kb)] [] false (fun x=>[(2,DQ Cp x fun i=>[(0,.str x),(1,.clo (.func 206) []),(5,.int .i64 i)])]) Tryz.func205 rfl (by decide) ⟨a8V,trivial⟩ (fun(x:List UInt8)=>(∀(y:Unit),True→True∧True∧True∧True)∧eA (DQ Cp x fun(i:Int)=>[((0:Nat),.str x),((1:Nat),AV.clo (Fn.func (84:FuncId)) []),((5:Nat),.int .i64 i)]) [.str x,AV.clo (Fn.func (84:FuncId)) [],.int .i64 (0:Int)]∧∀(i:Int),((0:Int)≤i∧i≤(↑(List.length x):Int)∧∀(e:UInt8),e∈List.take (Int.toNat i) x→Cp e=true)→Ab (decide (i<(↑(List.length x):Int))) (((0:Int)≤i∧i<(↑(List.length x):Int))∧∀(c:UInt8),x[Int.toNat i]? =some c→cA Kb [AV.int IntKind.u8 (↑(UInt8.toNat c):Int)] fun x_1 y=>Ab (Cp x_1) (inR IntKind.i64 (i+(1:Int))∧eN (DQ Cp x fun(i:Int)=>[((0:Nat),.str x),((1:Nat),AV.clo (Fn.func (84:FuncId)) []),((5:Nat),.int .i64 i)]) i [.str x,AV.clo (Fn.func (84:FuncId)) [],.int .i64 (i+(1:Int))]) (((0:Int)≤(0:Int)∧(0:Int)≤i∧i≤(↑(List.length x):Int))∧rA Kc x [.str (List.take (Int.toNat i) x),.top,.top])) (((0:Int)≤(0:Int)∧(0:Int)≤i∧i≤(↑(List.length x):Int))∧rA Kc x [.str (List.take (Int.toNat i) x),.top,.top])) (fun x=>by kernel_rfl) fun(x:List UInt8) (hx:x.length<2^63)=>(by
 dsimp only[cA,eA,eN,DQ,rA,Kb,Kc,Aq,Aw,mvL,lnL,mvE,lnE,mvG,mvH,lnG,lnH,Ba]
 (repeat' first|(with_reducible first|rfl|exact True.intro|apply AG|apply And.intro|((first|apply Au|apply AE|apply Av|apply AF)<;>intro _))|(apply As<;>intro _)|apply AD|refine Af () ?_ ?_|((first|apply AK|apply AJ|apply AI|apply AH|apply AC|apply AB|apply AA|apply Az|apply Ax)<;>try dsimp only)|apply Af|(refine Prod.forall.2 ?_;intro _;try dsimp only)|(intro _;try dsimp only))<;>(try dsimp only at*)<;>(try simp only[Aj,List.length_cons,List.length_nil])<;>(try omega)
 ·rename_i h;simp at h
 ·rename_i i hi hl c hc y _ hp e he
  rw[BG hi.1] at he;exact NP hi.2.2 hc hp e he
 ·rename_i i hi hl c hc y _ hp
  exact IW hi.2.2 (.inr ⟨c,hc,hp⟩)
 ·rename_i i hi hl
  exact IW hi.2.2 (.inl (by omega)))
def Kd:Sig:= {X:=List UInt8,args:=fun x=>[.str x,.clo (.func 207) []],pre:=fun x=>x.length<2^63,Y:=Unit,post:=fun x y=>True,res:=fun x y=> .str (x.takeWhile Bu),outs:=fun x y=>[.top,.top],keep:=false}
theorem a8Y:Ah G Tryz.prog 205 Kd:=
 vcFun_okP [(207,0,FG)] [] false (fun x=>[(2,DQ Bu x fun i=>[(0,.str x),(1,.clo (.func 207) []),(5,.int .i64 i)])]) Tryz.func205 rfl (by decide) ⟨UW,trivial⟩ (fun(x:List UInt8)=>(∀(y:Unit),True→True∧True∧True∧True)∧eA (DQ Bu x fun(i:Int)=>[((0:Nat),.str x),((1:Nat),AV.clo (Fn.func (85:FuncId)) []),((5:Nat),.int .i64 i)]) [.str x,AV.clo (Fn.func (85:FuncId)) [],.int .i64 (0:Int)]∧∀(i:Int),((0:Int)≤i∧i≤(↑(List.length x):Int)∧∀(e:UInt8),e∈List.take (Int.toNat i) x→Bu e=true)→Ab (decide (i<(↑(List.length x):Int))) (((0:Int)≤i∧i<(↑(List.length x):Int))∧∀(c:UInt8),x[Int.toNat i]? =some c→cA FG [AV.int IntKind.u8 (↑(UInt8.toNat c):Int)] fun x_1 y=>Ab (Bu x_1) (inR IntKind.i64 (i+(1:Int))∧eN (DQ Bu x fun(i:Int)=>[((0:Nat),.str x),((1:Nat),AV.clo (Fn.func (85:FuncId)) []),((5:Nat),.int .i64 i)]) i [.str x,AV.clo (Fn.func (85:FuncId)) [],.int .i64 (i+(1:Int))]) (((0:Int)≤(0:Int)∧(0:Int)≤i∧i≤(↑(List.length x):Int))∧rA Kd x [.str (List.take (Int.toNat i) x),.top,.top])) (((0:Int)≤(0:Int)∧(0:Int)≤i∧i≤(↑(List.length x):Int))∧rA Kd x [.str (List.take (Int.toNat i) x),.top,.top])) (fun x=>by kernel_rfl) fun(x:List UInt8) (hx:x.length<2^63)=>(by
 dsimp only[cA,eA,eN,DQ,rA,FG,Kd,Aq,Aw,mvL,lnL,mvE,lnE,mvG,mvH,lnG,lnH,Ba]
 (repeat' first|(with_reducible first|rfl|exact True.intro|apply AG|apply And.intro|((first|apply Au|apply AE|apply Av|apply AF)<;>intro _))|(apply As<;>intro _)|apply AD|refine Af () ?_ ?_|((first|apply AK|apply AJ|apply AI|apply AH|apply AC|apply AB|apply AA|apply Az|apply Ax)<;>try dsimp only)|apply Af|(refine Prod.forall.2 ?_;intro _;try dsimp only)|(intro _;try dsimp only))<;>(try dsimp only at*)<;>(try simp only[Aj,List.length_cons,List.length_nil])<;>(try omega)
 ·rename_i h;simp at h
 ·rename_i i hi hl c hc y _ hp e he
  rw[BG hi.1] at he;exact NP hi.2.2 hc hp e he
 ·rename_i i hi hl c hc y _ hp
  exact IW hi.2.2 (.inr ⟨c,hc,hp⟩)
 ·rename_i i hi hl
  exact IW hi.2.2 (.inl (by omega)))
def Ke:Sig:= {X:=List UInt8,args:=fun x=>[.str x,.clo (.func 209) []],pre:=fun x=>x.length<2^63,Y:=Unit,post:=fun x y=>True,res:=fun x y=> .str (x.takeWhile Cl),outs:=fun x y=>[.top,.top],keep:=false}
theorem a8Z:Ah G Tryz.prog 205 Ke:=
 vcFun_okP [(209,0,LY)] [] false (fun x=>[(2,DQ Cl x fun i=>[(0,.str x),(1,.clo (.func 209) []),(5,.int .i64 i)])]) Tryz.func205 rfl (by decide) ⟨a8W,trivial⟩ (fun(x:List UInt8)=>(∀(y:Unit),True→True∧True∧True∧True)∧eA (DQ Cl x fun(i:Int)=>[((0:Nat),.str x),((1:Nat),AV.clo (Fn.func (88:FuncId)) []),((5:Nat),.int .i64 i)]) [.str x,AV.clo (Fn.func (88:FuncId)) [],.int .i64 (0:Int)]∧∀(i:Int),((0:Int)≤i∧i≤(↑(List.length x):Int)∧∀(e:UInt8),e∈List.take (Int.toNat i) x→Cl e=true)→Ab (decide (i<(↑(List.length x):Int))) (((0:Int)≤i∧i<(↑(List.length x):Int))∧∀(c:UInt8),x[Int.toNat i]? =some c→cA LY [AV.int IntKind.u8 (↑(UInt8.toNat c):Int)] fun x_1 y=>Ab (Cl x_1) (inR IntKind.i64 (i+(1:Int))∧eN (DQ Cl x fun(i:Int)=>[((0:Nat),.str x),((1:Nat),AV.clo (Fn.func (88:FuncId)) []),((5:Nat),.int .i64 i)]) i [.str x,AV.clo (Fn.func (88:FuncId)) [],.int .i64 (i+(1:Int))]) (((0:Int)≤(0:Int)∧(0:Int)≤i∧i≤(↑(List.length x):Int))∧rA Ke x [.str (List.take (Int.toNat i) x),.top,.top])) (((0:Int)≤(0:Int)∧(0:Int)≤i∧i≤(↑(List.length x):Int))∧rA Ke x [.str (List.take (Int.toNat i) x),.top,.top])) (fun x=>by kernel_rfl) fun(x:List UInt8) (hx:x.length<2^63)=>(by
 dsimp only[cA,eA,eN,DQ,rA,Ke,LY,Aq,Aw,mvL,lnL,mvE,lnE,mvG,mvH,lnG,lnH,Ba]
 (repeat' first|(with_reducible first|rfl|exact True.intro|apply AG|apply And.intro|((first|apply Au|apply AE|apply Av|apply AF)<;>intro _))|(apply As<;>intro _)|apply AD|refine Af () ?_ ?_|((first|apply AK|apply AJ|apply AI|apply AH|apply AC|apply AB|apply AA|apply Az|apply Ax)<;>try dsimp only)|apply Af|(refine Prod.forall.2 ?_;intro _;try dsimp only)|(intro _;try dsimp only))<;>(try dsimp only at*)<;>(try simp only[Aj,List.length_cons,List.length_nil])<;>(try omega)
 ·rename_i h;simp at h
 ·rename_i i hi hl c hc y _ hp e he
  rw[BG hi.1] at he;exact NP hi.2.2 hc hp e he
 ·rename_i i hi hl c hc y _ hp
  exact IW hi.2.2 (.inr ⟨c,hc,hp⟩)
 ·rename_i i hi hl
  exact IW hi.2.2 (.inl (by omega)))
end Go.My
end
section
namespace Go.My
open Go.Eng
def LZ(x:List UInt8):SgR:=if DN (x.take 2) then⟨4,x.take 2,(x.take 2).length,true⟩ else if DN (x.take 1) then⟨4,x.take 1,1,true⟩ else⟨0,[],0,false⟩
def GP(x:List UInt8)(i:Int):Prop:=(0≤i∧i≤2∧i≤x.length)∧Cm x=LZ x∧∀j:Nat,i<j→j≤2→j≤x.length→DN (x.take j)=false
theorem a9a{x:List UInt8}{i:Int}(h:GP x i)(hx:1≤x.length)(h0:i>0)(hm:DN (x.take i.toNat)=true):Cm x=⟨4,x.take i.toNat,i,true⟩:=by
 obtain⟨⟨h1,h2,h3⟩,h4,h5⟩:=h
 rw[h4]
 have hi:i=1∨i=2:=by omega
 rcases hi with rfl|rfl
 ·by_cases hl:x.length=1
  ·have e:x.take 2=x.take 1:=by rw[List.take_of_length_le (by omega),List.take_of_length_le (by omega)]
   have hm':DN (x.take 1)=true:=hm
   simp only[LZ,e,hm',if_true]
   have:(x.take 1).length=1:=by simp;omega
   rw[this];rfl
  ·have:=h5 2 (by omega) (by omega) (by omega)
   have hm':DN (x.take 1)=true:=hm
   simp only[LZ,this,hm',Bool.false_eq_true,if_false,if_true];rfl
 ·have hm':DN (x.take 2)=true:=hm
  simp only[LZ,hm',if_true]
  have:(x.take 2).length=2:=by simp;omega
  rw[this];rfl
theorem a9b{x:List UInt8}{i:Int}(h:GP x i)(hx:1≤x.length)(h0:¬i>0):Cm x=⟨0,[],0,false⟩:=by
 obtain⟨⟨h1,h2,h3⟩,h4,h5⟩:=h
 rw[h4]
 have a1:=h5 1 (by omega) (by omega) hx
 have a2:DN (x.take 2)=false:=by
  by_cases hl:x.length=1
  ·have e:x.take 2=x.take 1:=by rw[List.take_of_length_le (by omega),List.take_of_length_le (by omega)]
   rw[e];exact a1
  ·exact h5 2 (by omega) (by omega) (by omega)
 simp only[LZ,a1,a2,Bool.false_eq_true,if_false]
theorem a9c{x:List UInt8}{i:Int}(h:GP x i)(h0:i>0)(hm:DN (x.take i.toNat)=false):GP x (i-1):=by
 obtain⟨⟨h1,h2,h3⟩,h4,h5⟩:=h
 refine⟨⟨by omega,by omega,by omega⟩,h4,fun j a b c=> ?_⟩
 by_cases e:(j:Int)=i
 ·have:j=i.toNat:=by omega
  rw[this];exact hm
 ·exact h5 j (by omega) b c
theorem a9d{b:UInt8}{t:List UInt8}(h1:CE b=false)(h2:Bu b=false)(h3:¬b.toNat=39)(h4:(b::t).take 2≠[47,47]):GP (b::t) (min 2 ((b::t).length:Int)):=by
 refine⟨⟨by omega,by omega,by omega⟩,?_,fun j a b c=>by omega⟩
 simp only[Cm,h1,h2,h3,h4,Bool.false_eq_true,if_false,LZ]
theorem a9e{b:UInt8}{t:List UInt8}(h:CE b=true):Cm (b::t)=⟨1,(b::t).takeWhile Cp,((b::t).takeWhile Cp).length,decide ((((b::t).takeWhile Cp).length:Int)≤30)⟩:=by
 have:decide ((((b::t).takeWhile Cp).length:Int)≤30)=decide (((b::t).takeWhile Cp).length≤30):=decide_eq_decide.2 (by omega)
 rw[this];simp [Cm,h]
theorem a9f{b:UInt8}{t:List UInt8}(h0:CE b=false)(h:Bu b=true):Cm (b::t)=⟨2,(b::t).takeWhile Bu,((b::t).takeWhile Bu).length,decide ((((b::t).takeWhile Bu).length:Int)≤12)⟩:=by
 have:decide ((((b::t).takeWhile Bu).length:Int)≤12)=decide (((b::t).takeWhile Bu).length≤12):=decide_eq_decide.2 (by omega)
 rw[this];simp [Cm,h,h0]
theorem a9g{b:UInt8}{t:List UInt8}(h0:CE b=false)(h1:Bu b=false)(h:(b.toNat:Int)=39):Cm (b::t)=⟨3,(En (b::t)).1,(En (b::t)).1.length,(En (b::t)).2⟩:=by
 have h:b.toNat=39:=by omega
 simp [Cm,h0,h1,h]
theorem a9h{b:UInt8}{t:List UInt8}(h0:CE b=false)(h1:Bu b=false)(h2:(b.toNat:Int)≠39)(h:(b::t).take 2=[47,47]):
 Cm (b::t)=⟨5,CQ ((b::t).takeWhile Cl),((b::t).takeWhile Cl).length,((b::t).takeWhile Cl).all Bw⟩:=by
 have h2:¬b.toNat=39:=by omega
 simp only[Cm,h0,h1,h2,h,Bool.false_eq_true,if_false,if_true]
theorem ZX(s:List UInt8)(c:UInt8):CQ (s++[c])=if c.toNat=32 then CQ s else s++[c]:=by
 unfold CQ
 rw[List.reverse_append]
 simp only[List.reverse_cons,List.reverse_nil,List.nil_append,List.singleton_append,List.dropWhile_cons]
 by_cases h:c.toNat=32
 ·simp [h]
 ·simp [h]
theorem a9i{s:List UInt8}{c:UInt8}(h:s[s.length-1]? =some c):s=s.take (s.length-1)++[c]:=by
 have h1:=Df h
 have:s.length-1+1=s.length:=by
  have:=(List.getElem?_eq_some_iff.1 h).1;omega
 rw[this,List.take_length] at h1
 exact h1
theorem ZY{s:List UInt8}{c:UInt8}(h:s[s.length-1]? =some c):CQ s=if c.toNat=32 then CQ (s.take (s.length-1)) else s:=by
 have h1:=a9i h
 rw[h1,ZX]
 split
 ·rw[List.length_append];simp
 ·rfl
theorem ZZ{s:List UInt8}{n:Nat}{c:UInt8}(h:s[n]? =some c):CQ (s.take (n+1))=if c.toNat=32 then CQ (s.take n) else s.take (n+1):=by
 rw[Df h,ZX]
def isQ(c:UInt8):Bool:=decide (c.toNat=39)
def Dx(s:List UInt8):Nat:=match DP isQ (s.drop 1) with
 |none=>0
 |some i=>if((s.drop 1).take i).all Bw then i+2 else 0
def DH(s:List UInt8):Nat:=if s.take 2=[47,47] then(if(s.takeWhile Cl).all Bw then(s.takeWhile Cl).length else 0) else 0
theorem a0a(s:List UInt8):En s=match DP isQ (s.drop 1) with
 |none=>([],false)
 |some i=>(s.take (i+2),(s.take (i+2)).all Bw):=rfl
theorem a0b{c:UInt8}(h:isQ c=true):Bw c=true:=by
 simp [isQ] at h;simp [Bw,h]
theorem a0c{p:UInt8→Bool}{s:List UInt8}{i:Nat}(h:DP p s=some i):i<s.length:=by
 obtain⟨_,e,he,_⟩:=JZ.1 h
 exact(List.getElem?_eq_some_iff.1 he).1
theorem a0d{c:UInt8}{s:List UInt8}(hc:isQ c=true):(En (c::s)).2=true↔Dx (c::s)≠0:=by
 rw[a0a];unfold Dx
 simp only[List.drop_succ_cons,List.drop_zero]
 cases h:DP isQ s with
 |none=>simp
 |some i=>
  simp only[List.take_succ_cons,List.all_cons,a0b hc,Bool.true_and]
  obtain⟨h1,e,he,hq⟩:=JZ.1 h
  rw[Df he,List.all_append]
  simp [a0b hq]
theorem a9j{c:UInt8}{s:List UInt8}(hc:isQ c=true)(h:Dx (c::s)≠0):(En (c::s)).1=(c::s).take (Dx (c::s))∧Dx (c::s)≤(c::s).length:=by
 rw[a0a];unfold Dx at h ⊢
 simp only[List.drop_succ_cons,List.drop_zero] at h ⊢
 cases hi:DP isQ s with
 |none=>rw[hi] at h;simp at h
 |some i=>
  rw[hi] at h
  simp only at h ⊢
  split at h
  ·rename_i hp
   have:=a0c hi
   rw[if_pos hp]
   exact⟨rfl,by simp;omega⟩
  ·exact(h rfl).elim
theorem a9k{c:UInt8}(h:CE c=true):Bu c=false:=by
 simp [CE,Bu] at h ⊢;omega
theorem UY(s:List UInt8):BV s 1=match s with
 |[]=>false
 |c::_=>CE c&&(s.all Cp&&decide (s.length≤30)):=by
 cases s with
 |nil=>rfl
 |cons c t=>
  by_cases hc:CE c=true
  ·simp only[BV,Cm,hc,if_true,Bool.true_and]
   by_cases ha:(c::t).all Cp=true
   ·have:=PV.2 ha
    rw[this,ha];simp
   ·have hn:¬(c::t).takeWhile Cp=c::t:=fun e=>ha (PV.1 e)
    simp only[Bool.not_eq_true] at ha
    rw[ha]
    have:((c::t).takeWhile Cp==c::t)=false:=by rw[beq_eq_false_iff_ne];exact hn
    rw[this];simp
  ·simp only[Bool.not_eq_true] at hc
   simp only[hc,Bool.false_and]
   rw[Bool.eq_false_iff]
   intro h
   simp only[BV,Cm,hc,Bool.false_eq_true,if_false,Bool.and_eq_true,decide_eq_true_eq] at h
   have h1:=h.2.2.1
   repeat' split at h1
   all_goals simp at h1
theorem UZ(s:List UInt8):BV s 2=(s.all Bu&&(decide (1≤s.length)&&decide (s.length≤12))):=by
 cases s with
 |nil=>rfl
 |cons c t=>
  by_cases hc:CE c=true
  ·have hf:=a9k hc
   simp only[List.all_cons,hf,Bool.false_and]
   simp [BV,Cm,hc]
  ·simp only[Bool.not_eq_true] at hc
   by_cases hf:Bu c=true
   ·simp only[BV,Cm,hc,hf,Bool.false_eq_true,if_false,if_true]
    by_cases ha:(c::t).all Bu=true
    ·have:=PV.2 ha
     rw[this,ha];simp
    ·have hn:¬(c::t).takeWhile Bu=c::t:=fun e=>ha (PV.1 e)
     simp only[Bool.not_eq_true] at ha
     rw[ha]
     have:((c::t).takeWhile Bu==c::t)=false:=by rw[beq_eq_false_iff_ne];exact hn
     rw[this];simp
   ·simp only[Bool.not_eq_true] at hf
    simp only[List.all_cons,hf,Bool.false_and]
    rw[Bool.eq_false_iff]
    intro h
    simp only[BV,Cm,hc,hf,Bool.false_eq_true,if_false,Bool.and_eq_true,decide_eq_true_eq] at h
    have h1:=h.2.2.1
    repeat' split at h1
    all_goals simp at h1
theorem PZ(s:List UInt8):BV s 3=match s with
 |[]=>false
 |c::_=>isQ c&&(decide (1<s.length)&&decide (Dx s=s.length)):=by
 cases s with
 |nil=>rfl
 |cons c t=>
  by_cases hq:isQ c=true
  ·have h39:c.toNat=39:=by simpa [isQ] using hq
   have hc:CE c=false:=by simp [CE];omega
   have hf:Bu c=false:=by simp [Bu];omega
   simp only[hq,Bool.true_and]
   simp only[BV,Cm,hc,hf,h39,Bool.false_eq_true,if_false,if_true]
   by_cases h0:Dx (c::t)=0
   ·have h2:(En (c::t)).2=false:=by
     rw[Bool.eq_false_iff];intro h;exact(a0d hq).1 h h0
    rw[h2,h0];simp
   ·have h2:=(a0d hq).2 h0
    obtain⟨h3,h4⟩:=a9j hq h0
    have h5:1<Dx (c::t):=by
     unfold Dx at h0 ⊢
     split at h0
     ·exact(h0 rfl).elim
     ·split at h0
      ·rename_i hp;rw[if_pos hp];omega
      ·exact(h0 rfl).elim
    rw[h2,h3]
    rw[Bool.eq_iff_iff]
    simp only[Bool.and_eq_true,Bool.not_eq_true',decide_eq_true_eq,beq_iff_eq,List.length_take]
    constructor
    ·rintro⟨_,_,_,e,hl⟩
     have:=congrArg List.length e
     simp only[List.length_take] at this
     constructor<;>omega
    ·rintro⟨h6,h7⟩
     refine⟨by simp,trivial,trivial,?_,?_⟩
     ·rw[h7,List.take_length]
     ·omega
  ·simp only[Bool.not_eq_true] at hq
   have h39:¬c.toNat=39:=by simpa [isQ] using hq
   simp only[hq,Bool.false_and]
   rw[Bool.eq_false_iff]
   intro h
   simp only[BV,Cm,h39,if_false,Bool.and_eq_true,decide_eq_true_eq] at h
   have h1:=h.2.2.1
   repeat' split at h1
   all_goals simp at h1
theorem Va(s:List UInt8):BV s 5=(decide (1<s.length)&&(decide (DH s=s.length)&&(CQ s==s))):=by
 cases s with
 |nil=>rfl
 |cons c t=>
  by_cases hp:(c::t).take 2=[47,47]
  ·have h47:c=47:=by
    have:=congrArg (fun l:List UInt8=>l.head?) hp
    simpa using this
   subst h47
   have hl:1<(47::t).length:=by
    have:=congrArg List.length hp
    simp only[List.length_take,List.length_cons,List.length_nil] at this ⊢;omega
   have hc:CE 47=false:=by decide
   have hf:Bu 47=false:=by decide
   have hq:¬(47:UInt8).toNat=39:=by decide
   simp only[BV,Cm,hc,hf,hq,hp,Bool.false_eq_true,if_false,if_true,DH]
   rw[Bool.eq_iff_iff]
   simp only[Bool.and_eq_true,Bool.not_eq_true',decide_eq_true_eq,beq_iff_eq,beq_eq_false_iff_ne]
   constructor
   ·rintro⟨_,h1,_,h2,h3⟩
    rw[if_pos h1]
    have h3:((47::t).takeWhile Cl).length=(47::t).length:=by omega
    refine⟨hl,h3,?_⟩
    have e:(47::t).takeWhile Cl=47::t:=by
     have:=List.takeWhile_prefix (p:=Cl) (l:=47::t)
     exact List.IsPrefix.eq_of_length this h3
    rw[e] at h2;exact h2
   ·rintro⟨_,h1,h2⟩
    split at h1
    ·rename_i h3
     have e:(47::t).takeWhile Cl=47::t:=by
      have:=List.takeWhile_prefix (p:=Cl) (l:=47::t)
      exact List.IsPrefix.eq_of_length this h1
     rw[e] at h3 ⊢
     exact⟨by simp,h3,trivial,h2,rfl⟩
    ·simp at h1
  ·have h0:DH (c::t)=0:=by simp only[DH,if_neg hp]
   rw[h0]
   have:decide (0=(c::t).length)=false:=by simp
   rw[this]
   simp only[Bool.false_and,Bool.and_false]
   rw[Bool.eq_false_iff]
   intro h
   simp only[BV,Cm,hp,if_false,Bool.and_eq_true,decide_eq_true_eq] at h
   have h1:=h.2.2.1
   repeat' split at h1
   all_goals simp at h1
theorem a9l{s:List UInt8}{m:Nat}{e:UInt8}(h:∀e∈(s.drop 1).take m,isQ e=false∧Bw e=true)(he:(s.drop 1)[m]? =some e)(hq:isQ e=true):Dx s=m+2:=by
 unfold Dx
 rw[JZ.2 ⟨fun e he=>(h e he).1,e,he,hq⟩]
 simp only
 rw[if_pos (List.all_eq_true.2 fun e he=>(h e he).2)]
theorem a9m{s:List UInt8}{m:Nat}{e:UInt8}(h:∀e∈(s.drop 1).take m,isQ e=false∧Bw e=true)(he:(s.drop 1)[m]? =some e)(hq:isQ e=false)(hp:Bw e=false):Dx s=0:=by
 unfold Dx
 cases hi:DP isQ (s.drop 1) with
 |none=>rfl
 |some i=>
  simp only
  obtain⟨h1,d,hd,hdq⟩:=JZ.1 hi
  rw[if_neg]
  intro hall
  have hmi:m<i:=by
   rcases Nat.lt_trichotomy m i with h'|h'|h'
   ·exact h'
   ·subst h';rw[he] at hd;cases hd;rw[hq] at hdq;cases hdq
   ·have:d∈(s.drop 1).take m:=by
     rw[List.mem_take_iff_getElem]
     obtain⟨a,b⟩:=List.getElem?_eq_some_iff.1 hd
     exact⟨i,by omega,b⟩
    rw[(h d this).1] at hdq;cases hdq
  have:e∈(s.drop 1).take i:=by
   rw[List.mem_take_iff_getElem]
   obtain⟨a,b⟩:=List.getElem?_eq_some_iff.1 he
   exact⟨m,by omega,b⟩
  rw[List.all_eq_true.1 hall e this] at hp;cases hp
theorem a9n{s:List UInt8}{m:Nat}(h:∀e∈(s.drop 1).take m,isQ e=false∧Bw e=true)(hl:(s.drop 1).length≤m):Dx s=0:=by
 unfold Dx
 rw[List.take_of_length_le hl] at h
 rw[UQ.2 fun e he=>(h e he).1]
theorem a0e{s:List UInt8}{m:Nat}(hp:s.take 2=[47,47])(h:∀e∈s.take m,Cl e=true∧Bw e=true)(he:s.length≤m∨∃e,s[m]? =some e∧Cl e=false)(hm:m≤s.length):DH s=m:=by
 have h1:=IW (fun e he=>(h e he).1) he
 unfold DH
 rw[if_pos hp,←h1,if_pos (List.all_eq_true.2 fun e he=>(h e he).2),List.length_take];omega
theorem a9o{s:List UInt8}{m:Nat}{e:UInt8}(hp:s.take 2=[47,47])(h:∀e∈s.take m,Cl e=true∧Bw e=true)(he:s[m]? =some e)(hn:Cl e=true)(hq:Bw e=false):DH s=0:=by
 unfold DH
 rw[if_pos hp,if_neg]
 intro hall
 have:e∈s.takeWhile Cl:=by
  have h2:s=s.take m++e::s.drop (m+1):=by rw[←Dm he,List.take_append_drop]
  rw[h2,List.takeWhile_append_of_pos (fun e he=>(h e he).1),List.takeWhile_cons,if_pos hn]
  simp
 rw[List.all_eq_true.1 hall e this] at hq;cases hq
theorem a0f{s:List UInt8}(hp:s.take 2≠[47,47]):DH s=0:=by
 unfold DH;rw[if_neg hp]
theorem Vb{s:List UInt8}{a n:Int}(h0:0≤a)(h:a+1≤n):((s.drop a.toNat).drop 1)[(n-a-1).toNat]? =s[n.toNat]? :=by
 rw[List.getElem?_drop,List.getElem?_drop];congr 1;omega
theorem Vc{s:List UInt8}{a n:Int}(h0:0≤a)(h:a≤n):(s.drop a.toNat)[(n-a).toNat]? =s[n.toNat]? :=by
 rw[List.getElem?_drop];congr 1;omega
theorem Vd{p:UInt8→Prop}{s:List UInt8}{m k:Nat}{e:UInt8}(h:∀e∈s.take m,p e)(he:s[m]? =some e)(hp:p e)(hk:k=m+1):∀e∈s.take k,p e:=by
 subst hk
 rw[Df he];intro x hx
 rcases List.mem_append.1 hx with hx|hx
 ·exact h x hx
 ·simp at hx;subst hx;exact hp
def qI(x:List UInt8×Int)(i:Int):Prop:=x.2+1≤i∧(i≤x.1.length∨i=x.2+1)∧∀e∈((x.1.drop x.2.toNat).drop 1).take (i-x.2-1).toNat,isQ e=false∧Bw e=true
theorem a9p{x:List UInt8×Int}:qI x (x.2+1):=by
 refine⟨by omega,.inr rfl,fun e he=> ?_⟩
 rw[show(x.2+1-x.2-1).toNat=0 by omega] at he;simp at he
theorem a9q{x:List UInt8×Int}{i:Int}(h:qI x i):x.2+1≤i∧(i≤x.1.length∨i=x.2+1):=⟨h.1,h.2.1⟩
theorem a9r{x:List UInt8×Int}{i:Int}{c:UInt8}(h0:0≤x.2)(h:qI x i)(hq:(c.toNat:Int)=39)(hc:x.1[i.toNat]? =some c):i+1-x.2=Dx (x.1.drop x.2.toNat):=by
 have:=h.1
 rw[a9l h.2.2 (by rw[Vb h0 h.1];exact hc) (by simp [isQ];omega)];omega
theorem a9s{x:List UInt8×Int}{i:Int}{c d:UInt8}(h0:0≤x.2)(h:qI x i)(hq:(c.toNat:Int)≠39)(hc:x.1[i.toNat]? =some c)(hp:Bw d=false)(hd:x.1[i.toNat]? =some d):0=(Dx (x.1.drop x.2.toNat):Int):=by
 rw[hc] at hd;cases hd
 rw[a9m h.2.2 (by rw[Vb h0 h.1];exact hc) (by simp [isQ];omega) hp];rfl
theorem a9t{x:List UInt8×Int}{i:Int}{c d:UInt8}(h0:0≤x.2)(h:qI x i)(hl:i<x.1.length)(hq:(c.toNat:Int)≠39)(hc:x.1[i.toNat]? =some c)(hp:Bw d=true)(hd:x.1[i.toNat]? =some d):qI x (i+1):=by
 rw[hc] at hd;cases hd
 have:=h.1
 exact⟨by omega,.inl (by omega),Vd (p:=fun e=>isQ e=false∧Bw e=true) h.2.2 (by rw[Vb h0 h.1];exact hc) ⟨by simp [isQ];omega,hp⟩ (by omega)⟩
theorem a9u{x:List UInt8×Int}{i:Int}(h0:0≤x.2)(h:qI x i)(hl:¬i<x.1.length):0=(Dx (x.1.drop x.2.toNat):Int):=by
 rw[a9n h.2.2 (by simp;omega)];rfl
def nI(x:List UInt8×Int)(i:Int):Prop:=(x.2≤i∧i≤x.1.length)∧(x.1.drop x.2.toNat).take 2=[47,47]∧∀e∈(x.1.drop x.2.toNat).take (i-x.2).toNat,Cl e=true∧Bw e=true
theorem a0g{x:List UInt8×Int}(h0:0≤x.2):List.drop x.2.toNat (List.take (x.2+2).toNat x.1)=(x.1.drop x.2.toNat).take 2:=by
 rw[List.drop_take];congr 1;omega
theorem a9v{x:List UInt8×Int}(h0:0≤x.2)(hl:x.2≤x.1.length)(h:(List.drop x.2.toNat (List.take (x.2+2).toNat x.1)==[47,47])=true):nI x x.2:=by
 rw[a0g h0] at h
 refine⟨⟨by omega,hl⟩,by simpa using h,fun e he=> ?_⟩
 rw[show(x.2-x.2).toNat=0 by omega] at he;simp at he
theorem a9w{x:List UInt8×Int}(h0:0≤x.2)(h:(List.drop x.2.toNat (List.take (x.2+2).toNat x.1)==[47,47])=false):0=(DH (x.1.drop x.2.toNat):Int):=by
 rw[a0g h0] at h
 rw[a0f (by simpa using h)];rfl
theorem a9x{x:List UInt8×Int}(h0:0≤x.2)(h:x.2+2>x.1.length):0=(DH (x.1.drop x.2.toNat):Int):=by
 rw[a0f]
 ·rfl
 ·intro e;have:=congrArg List.length e;simp at this;omega
theorem a9y{x:List UInt8×Int}{i:Int}{c d:UInt8}(h0:0≤x.2)(h:nI x i)(hn:(c.toNat:Int)≠10)(hc:x.1[i.toNat]? =some c)(hp:Bw d=false)(hd:x.1[i.toNat]? =some d):0=(DH (x.1.drop x.2.toNat):Int):=by
 rw[hc] at hd;cases hd
 rw[a9o h.2.1 h.2.2 (by rw[Vc h0 h.1.1];exact hc) (by simp [Cl];omega) hp];rfl
theorem a9z{x:List UInt8×Int}{i:Int}{c d:UInt8}(h0:0≤x.2)(h:nI x i)(hl:i<x.1.length)(hn:(c.toNat:Int)≠10)(hc:x.1[i.toNat]? =some c)(hp:Bw d=true)(hd:x.1[i.toNat]? =some d):nI x (i+1):=by
 rw[hc] at hd;cases hd
 have:=h.1
 exact⟨by omega,h.2.1,Vd (p:=fun e=>Cl e=true∧Bw e=true) h.2.2 (by rw[Vc h0 h.1.1];exact hc) ⟨by simp [Cl];omega,hp⟩ (by omega)⟩
theorem a9A{x:List UInt8×Int}{i:Int}{c:UInt8}(h0:0≤x.2)(h:nI x i)(hn:(c.toNat:Int)=10)(hc:x.1[i.toNat]? =some c):i-x.2=(DH (x.1.drop x.2.toNat):Int):=by
 have:=h.1
 have hl:=(List.getElem?_eq_some_iff.1 hc).1
 rw[a0e h.2.1 h.2.2 (.inr ⟨c,by rw[Vc h0 h.1.1];exact hc,by simp [Cl];omega⟩) (by simp;omega)];omega
theorem a9B{x:List UInt8×Int}{i:Int}(h0:0≤x.2)(h:nI x i)(hl:¬i<x.1.length):i-x.2=(DH (x.1.drop x.2.toNat):Int):=by
 have:=h.1
 rw[a0e h.2.1 h.2.2 (.inl (by simp;omega)) (by simp;omega)];omega
def nmI(x:List UInt8)(i:Int):Prop:=(0≤i∧i≤x.length)∧(inn x.length 1 30=true∧CE (x.headD 0)=true∧kw x=false)∧∀e∈x.take i.toNat,Cp e=true
theorem Ve{x:List UInt8}:CX x=true↔(inn x.length 1 30=true∧CE (x.headD 0)=true∧kw x=false)∧x.all Cp=true:=by
 unfold CX
 rw[UY]
 cases x with
 |nil=>simp [inn]
 |cons c t=>
  simp only[inn,Bool.and_eq_true,decide_eq_true_eq,Bool.not_eq_true',List.headD_cons,List.length_cons]
  constructor
  ·rintro⟨⟨h1,h2,h3⟩,h4⟩;exact⟨⟨⟨by omega,by omega⟩,h1,h4⟩,h2⟩
  ·rintro⟨⟨⟨h1,h2⟩,h3,h4⟩,h5⟩;exact⟨⟨h3,h5,by omega⟩,h4⟩
theorem a0h{x:List UInt8}{c:UInt8}(h:x[0]? =some c):x.headD 0=c:=by cases x<;>simp_all
theorem Vf{x:List UInt8}(h:¬(inn x.length 1 30=true∧CE (x.headD 0)=true∧kw x=false)):false=CX x:=by
 symm;rw[Bool.eq_false_iff];intro hn;exact h (Ve.1 hn).1
theorem a9C{x:List UInt8}(h:inn x.length 1 30=true)(h1:CE (x.headD 0)=true)(h2:kw x=false):nmI x 0:=⟨by omega,⟨h,h1,h2⟩,fun e he=>by simp at he⟩
theorem a0i{x:List UInt8}{i:Int}{c:UInt8}(h:nmI x i)(hc:x[i.toNat]? =some c)(hl:i<x.length)(hp:Cp c=true):nmI x (i+1):=by
 have:=h.1
 exact⟨by omega,h.2.1,Vd (p:=fun e=>Cp e=true) h.2.2 hc hp (by omega)⟩
theorem a9D{x:List UInt8}{i:Int}{c:UInt8}(h:nmI x i)(hc:x[i.toNat]? =some c)(hp:Cp c=false):false=CX x:=by
 symm;rw[Bool.eq_false_iff];intro hn
 have:=(Ve.1 hn).2
 rw[PU hc hp] at this;cases this
theorem a9E{x:List UInt8}{i:Int}(h:nmI x i)(hl:¬i<x.length):true=CX x:=by
 symm;rw[Ve];exact⟨h.2.1,UP h.2.2 (by omega)⟩
theorem a9F{x:List UInt8}{c:UInt8}(h1:(x.length:Int)>1)(hq:(c.toNat:Int)=39)(h:x[0]? =some c):((Dx x:Int)==(x.length:Int))=BV x 3:=by
 cases x with
 |nil=>cases h
 |cons d t=>
  have:d=c:=by simpa using h
  subst this
  have e:isQ d=true:=by simp [isQ];omega
  rw[PZ,Bool.eq_iff_iff]
  simp [e] at h1 ⊢;omega
theorem a9G{x:List UInt8}{c:UInt8}(hq:(c.toNat:Int)≠39)(h:x[0]? =some c):false=BV x 3:=by
 cases x with
 |nil=>cases h
 |cons d t=>
  have:d=c:=by simpa using h
  subst this
  have e:isQ d=false:=by simp [isQ];omega
  rw[PZ];simp [e]
theorem a9H{x:List UInt8}(h1:¬(x.length:Int)>1):false=BV x 3:=by
 rw[PZ]
 cases x with
 |nil=>rfl
 |cons d t=>
  have:decide (1<(d::t).length)=false:=decide_eq_false (by omega)
  simp only[this,Bool.false_and,Bool.and_false]
theorem a9I{x:List UInt8}(h1:(x.length:Int)>1)(h2:(DH x:Int)=x.length):(CQ x==x)=BV x 5:=by
 rw[Va]
 have e1:decide (1<x.length)=true:=decide_eq_true (by omega)
 have e2:decide (DH x=x.length)=true:=decide_eq_true (by omega)
 simp [e1,e2]
theorem a9J{x:List UInt8}(h2:(DH x:Int)≠x.length):false=BV x 5:=by
 rw[Va]
 have e2:decide (DH x=x.length)=false:=decide_eq_false (by omega)
 simp only[e2,Bool.false_and,Bool.and_false]
theorem a9K{x:List UInt8}(h1:¬(x.length:Int)>1):false=BV x 5:=by
 rw[Va]
 have e2:decide (1<x.length)=false:=decide_eq_false (by omega)
 simp only[e2,Bool.false_and]
end Go.My
end
section
namespace Go.My
open Go.Eng Go.Proofs
variable {G:GInv}
def Gp:Sig:= {X:=List UInt8,args:=fun x=>[.str x],pre:=fun x=>True,Y:=Unit,post:=fun x y=>True,res:=fun x y=> .bool (kw x),outs:=fun x y=>[.top],keep:=false}
theorem a9L:Ah G Tryz.prog 189 Gp:=
 vcFun_okP [] [] false (fun x=>[]) Tryz.func189 rfl (by decide) trivial (fun(x:List UInt8)=>(∀(y:Unit),True→True∧True∧True)∧Ab (x== #[(99:UInt8),(108:UInt8),(97:UInt8),(115:UInt8),(115:UInt8)].toList) (rA Gp x [.bool true,.top]) (Ab (x== #[(118:UInt8),(97:UInt8),(114:UInt8)].toList) (rA Gp x [.bool true,.top]) (Ab (x== #[(105:UInt8),(102:UInt8)].toList) (rA Gp x [.bool true,.top]) (Ab (x== #[(101:UInt8),(108:UInt8),(115:UInt8),(101:UInt8)].toList) (rA Gp x [.bool true,.top]) (Ab (x== #[(119:UInt8),(104:UInt8),(105:UInt8),(108:UInt8),(101:UInt8)].toList) (rA Gp x [.bool true,.top]) (Ab (x== #[(114:UInt8),(101:UInt8),(116:UInt8),(117:UInt8),(114:UInt8),(110:UInt8)].toList) (rA Gp x [.bool true,.top]) (rA Gp x [.bool false,.top]))))))) (fun x=>by kernel_rfl) fun(x:List UInt8) (hx:True)=>(by
 dsimp only[rA,Gp,Aq,Aw]
 (repeat' first|(with_reducible first|rfl|exact True.intro|apply AG|apply And.intro|((first|apply Au|apply AE|apply Av|apply AF)<;>intro _))|(apply As<;>intro _)|apply AD|refine Af () ?_ ?_|((first|apply AK|apply AJ|apply AI|apply AH|apply AC|apply AB|apply AA|apply Az|apply Ax)<;>try dsimp only)|apply Af|(refine Prod.forall.2 ?_;intro _;try dsimp only)|(intro _;try dsimp only))<;>(try dsimp only at*)<;>(try simp only[Aj,List.length_cons,List.length_nil])<;>(try omega)
 all_goals simp [kw, *])
def Gq:Sig:= {X:=List UInt8,args:=fun x=>[.str x],pre:=fun x=>True,Y:=Unit,post:=fun x y=>True,res:=fun x y=> .bool (kw x),outs:=fun x y=>[.top],keep:=false}
theorem a9M:Ah G Tryz.prog 175 Gq:=
 vcFun_okP [] [] false (fun x=>[]) Tryz.func175 rfl (by decide) trivial (fun(x:List UInt8)=>(∀(y:Unit),True→True∧True∧True)∧Ab (x== #[(99:UInt8),(108:UInt8),(97:UInt8),(115:UInt8),(115:UInt8)].toList) (rA Gq x [.bool true,.top]) (Ab (x== #[(118:UInt8),(97:UInt8),(114:UInt8)].toList) (rA Gq x [.bool true,.top]) (Ab (x== #[(105:UInt8),(102:UInt8)].toList) (rA Gq x [.bool true,.top]) (Ab (x== #[(101:UInt8),(108:UInt8),(115:UInt8),(101:UInt8)].toList) (rA Gq x [.bool true,.top]) (Ab (x== #[(119:UInt8),(104:UInt8),(105:UInt8),(108:UInt8),(101:UInt8)].toList) (rA Gq x [.bool true,.top]) (Ab (x== #[(114:UInt8),(101:UInt8),(116:UInt8),(117:UInt8),(114:UInt8),(110:UInt8)].toList) (rA Gq x [.bool true,.top]) (rA Gq x [.bool false,.top]))))))) (fun x=>by kernel_rfl) fun(x:List UInt8) (hx:True)=>(by
 dsimp only[rA,Gq,Aq,Aw]
 (repeat' first|(with_reducible first|rfl|exact True.intro|apply AG|apply And.intro|((first|apply Au|apply AE|apply Av|apply AF)<;>intro _))|(apply As<;>intro _)|apply AD|refine Af () ?_ ?_|((first|apply AK|apply AJ|apply AI|apply AH|apply AC|apply AB|apply AA|apply Az|apply Ax)<;>try dsimp only)|apply Af|(refine Prod.forall.2 ?_;intro _;try dsimp only)|(intro _;try dsimp only))<;>(try dsimp only at*)<;>(try simp only[Aj,List.length_cons,List.length_nil])<;>(try omega)
 all_goals simp [kw, *])
theorem a9N{c:UInt8}:decide (Cq mk1 c≥0)=mk1.elem c:=by
 unfold Cq
 cases h:DP (fun d=>decide (d.toNat=c.toNat)) mk1 with
 |none=>
  have:=UQ.1 h
  symm
  simp only[Int.reduceNeg,ge_iff_le,Int.reduceLE,decide_false]
  rw[Bool.eq_false_iff]
  intro h2
  have h3:=this c (by simpa using h2)
  simp at h3
 |some i=>
  obtain⟨_,e,he,hq⟩:=JZ.1 h
  have h3:e=c:=by simpa [UInt8.toNat_inj] using hq
  subst h3
  have:=List.mem_of_getElem? he
  simp [this]
def Gs:Sig:= {X:=List UInt8,args:=fun x=>[.str x],pre:=fun x=>x.length<2^63,Y:=Unit,post:=fun x y=>True,res:=fun x y=> .bool (DN x),outs:=fun x y=>[.top],keep:=false}
theorem a9O:Ah G Tryz.prog 211 Gs:=
 vcFun_okP [(225,0,LW)] [] false (fun x=>[]) Tryz.func211 rfl (by decide) ⟨a8R,trivial⟩ (fun(x:List UInt8)=>(∀(y:Unit),True→True∧True∧True)∧Ab (x== #[(38:UInt8),(38:UInt8)].toList) (rA Gs x [.bool true,.top]) (Ab (x== #[(124:UInt8),(124:UInt8)].toList) (rA Gs x [.bool true,.top]) (Ab (x== #[(61:UInt8),(61:UInt8)].toList) (rA Gs x [.bool true,.top]) (Ab (x== #[(61:UInt8),(62:UInt8)].toList) (rA Gs x [.bool true,.top]) (Ab (x== #[(46:UInt8),(46:UInt8)].toList) (rA Gs x [.bool true,.top]) (Ab ((↑(List.length x):Int)==(1:Int)) (cA LW [.str #[(40:UInt8),(41:UInt8),(123:UInt8),(125:UInt8),(91:UInt8),(93:UInt8),(59:UInt8),(44:UInt8),(46:UInt8),(61:UInt8),(43:UInt8),(45:UInt8),(42:UInt8),(60:UInt8),(63:UInt8),(58:UInt8)].toList,.str x] fun x_1 y=>rA Gs x [.bool (decide (Cq x_1.1 (List.headD x_1.2 (0:UInt8))≥(0:Int))),.top]) (rA Gs x [.bool false,.top]))))))) (fun x=>by kernel_rfl) fun(x:List UInt8) (hx:x.length<2^63)=>(by
 dsimp only[cA,rA,Gs,LW,Aq,Aw,mvL,lnL,mvE,lnE,mvG,mvH,lnG,lnH]
 (repeat' first|(with_reducible first|rfl|exact True.intro|apply AG|apply And.intro|((first|apply Au|apply AE|apply Av|apply AF)<;>intro _))|(apply As<;>intro _)|apply AD|refine Af () ?_ ?_|((first|apply AK|apply AJ|apply AI|apply AH|apply AC|apply AB|apply AA|apply Az|apply Ax)<;>try dsimp only)|apply Af|(refine Prod.forall.2 ?_;intro _;try dsimp only)|(intro _;try dsimp only))<;>(try dsimp only at*)<;>(try simp only[Aj,List.length_cons,List.length_nil])<;>(try omega)
 ·rename_i h;simp [DN,mk2,h]
 ·rename_i h;simp [DN,mk2,h]
 ·rename_i h;simp [DN,mk2,h]
 ·rename_i h;simp [DN,mk2,h]
 ·rename_i h;simp [DN,mk2,h]
 ·rename_i h1 h2 h3 h4 h5 h _ _
  have h:x.length=1:=by omega
  match x,h with
  |[c],_=>exact a9N.trans (by simp [DN,mk2])
 ·rename_i h1 h2 h3 h4 h5 h
  symm;simp only[DN,mk2,Bool.or_eq_false_iff,beq_eq_false_iff_ne]
  refine⟨⟨h1,h2,h3,h4,h5⟩,?_⟩
  split
  ·simp at h
  ·rfl)
def Kf:Sig:= {X:=List UInt8,args:=fun x=>[.str x,.int .u8 32],pre:=fun x=>x.length<2^63,Y:=Unit,post:=fun x y=>True,res:=fun x y=> .str (CQ x),outs:=fun x y=>[.top,.top],keep:=false}
def Qa(x:List UInt8):LS:= {ι:=List UInt8,inv:=fun s=>s.length≤x.length∧CQ s=CQ x,regs:=fun s=>[(0,.str s),(1,.int .u8 32)],als:=[],meas:=fun s=>s.length}
theorem a9P:Ah G Tryz.prog 236 Kf:=
 vcFun_okP [] [] false (fun x=>[(1,Qa x)]) Tryz.func236 rfl (by decide) trivial (fun(x:List UInt8)=>(∀(y:Unit),True→True∧True∧True∧True)∧eA (Qa x) [.str x,AV.int IntKind.u8 (32:Int)]∧∀(i:List UInt8),List.length i≤List.length x∧CQ i=CQ x→Ab (decide ((↑(List.length i):Int)>(0:Int))) (inR IntKind.i64 ((↑(List.length i):Int)-(1:Int))∧((0:Int)≤(↑(List.length i):Int)-(1:Int)∧(↑(List.length i):Int)-(1:Int)<(↑(List.length i):Int))∧∀(c:UInt8),i[Int.toNat ((↑(List.length i):Int)-(1:Int))]? =some c→Ab ((↑(UInt8.toNat c):Int)==(32:Int)) (inR IntKind.i64 ((↑(List.length i):Int)-(1:Int))∧((0:Int)≤(0:Int)∧(0:Int)≤(↑(List.length i):Int)-(1:Int)∧(↑(List.length i):Int)-(1:Int)≤(↑(List.length i):Int))∧eN (Qa x) i [.str (List.take (Int.toNat ((↑(List.length i):Int)-(1:Int))) i),AV.int IntKind.u8 (32:Int)]) (rA Kf x [.str i,.top,.top])) (rA Kf x [.str i,.top,.top])) (fun x=>by kernel_rfl) fun(x:List UInt8) (hx:x.length<2^63)=>(by
 dsimp only[eA,eN,Qa,rA,Kf,Aq,Aw,Ba]
 (repeat' first|(with_reducible first|rfl|exact True.intro|apply AG|apply And.intro|((first|apply Au|apply AE|apply Av|apply AF)<;>intro _))|(apply As<;>intro _)|apply AD|refine Af () ?_ ?_|((first|apply AK|apply AJ|apply AI|apply AH|apply AC|apply AB|apply AA|apply Az|apply Ax)<;>try dsimp only)|apply Af|(refine Prod.forall.2 ?_;intro _;try dsimp only)|(intro _;try dsimp only))<;>(try dsimp only at*)<;>(try simp only[Aj,List.length_cons,List.length_nil])<;>(try omega)
 ·rename_i s hs h c hc h2;simp;omega
 ·rename_i s hs h c hc h2;simp;omega
 ·rename_i s hs h c hc h2
  have e:((s.length:Int)-1).toNat=s.length-1:=by omega
  rw[e] at hc ⊢
  rw[←hs.2,ZY hc,if_pos (by omega)]
 ·rename_i s hs h c hc h2
  have e:((s.length:Int)-1).toNat=s.length-1:=by omega
  rw[e] at hc
  rw[←hs.2,ZY hc,if_neg (by omega)]
 ·rename_i s hs h
  have:s=[]:=List.length_eq_zero_iff.1 (by omega)
  rw[←hs.2,this];rfl)
def Kg:Sig:= {X:=List UInt8,args:=fun x=>[.str x,.str [32]],pre:=fun x=>x.length<2^63,Y:=Unit,post:=fun x y=>True,res:=fun x y=> .str (CQ x),outs:=fun x y=>[.top,.top],keep:=false}
theorem a9Q:Ah G Tryz.prog 224 Kg:=
 vcFun_okP [(236,0,Kf)] [] false (fun x=>[]) Tryz.func224 rfl (by decide) ⟨a9P,trivial⟩ (fun(x:List UInt8)=>(∀(y:Unit),True→True∧True∧True∧True)∧Ab (x== #[].toList) (rA Kg x [.str x,.top,.top]) (((0:Int)≤(0:Int)∧(0:Int)<(↑(1:Nat):Int))∧∀(c:UInt8),[(32:UInt8)][(0:Nat)]? =some c→Ab (decide ((↑(UInt8.toNat c):Int)<(128:Int))) (((0:Int)≤(0:Int)∧(0:Int)<(↑(1:Nat):Int))∧∀(c:UInt8),[(32:UInt8)][(0:Nat)]? =some c→cA Kf [.str x,AV.int IntKind.u8 (↑(UInt8.toNat c):Int)] fun x_1 y=>rA Kg x [.str (CQ x_1),.top,.top]) False)) (fun x=>by kernel_rfl) fun(x:List UInt8) (hx:x.length<2^63)=>(by
 dsimp only[cA,rA,Kf,Kg,Aq,Aw,mvL,lnL,mvE,lnE,mvG,mvH,lnG,lnH]
 refine⟨fun _ _=>⟨trivial,trivial,trivial,trivial⟩,Av (fun h=>⟨(),trivial,by rw[h];rfl,trivial⟩) (fun h=>⟨by omega,fun c hc=> ?_⟩)⟩
 have hc:32=c:=by simpa using hc
 subst hc
 refine Au (fun _=>⟨by omega,fun c hc=> ?_⟩) (fun h=>(h (by decide)).elim)
 have hc:32=c:=by simpa using hc
 subst hc
 exact⟨x,hx,rfl,rfl,fun _ _=>⟨(),trivial,rfl,trivial⟩⟩)
def Ma:Sig:= {X:=List UInt8,args:=fun x=>[.str x],pre:=fun x=>x.length<2^63,Y:=Unit,post:=fun x y=>True,res:=fun x y=> .str (CQ x),outs:=fun x y=>[.top],keep:=false}
theorem a9R:Ah G Tryz.prog 210 Ma:=
 vcFun_okP [(224,0,Kg)] [] false (fun x=>[]) Tryz.func210 rfl (by decide) ⟨a9Q,trivial⟩ (fun(x:List UInt8)=>(∀(y:Unit),True→True∧True∧True)∧cA Kg [.str x,.str #[(32:UInt8)].toList] fun x_1 y=>rA Ma x [.str (CQ x_1),.top]) (fun x=>by kernel_rfl) fun(x:List UInt8) (hx:x.length<2^63)=>(by
 dsimp only[cA,rA,Ma,Kg,Aq,Aw,mvL,lnL,mvE,lnE,mvG,mvH,lnG,lnH]
 (repeat' first|(with_reducible first|rfl|exact True.intro|apply AG|apply And.intro|((first|apply Au|apply AE|apply Av|apply AF)<;>intro _))|(apply As<;>intro _)|apply AD|refine Af () ?_ ?_|((first|apply AK|apply AJ|apply AI|apply AH|apply AC|apply AB|apply AA|apply Az|apply Ax)<;>try dsimp only)|apply Af|(refine Prod.forall.2 ?_;intro _;try dsimp only)|(intro _;try dsimp only))<;>(try dsimp only at*)<;>(try simp only[Aj,List.length_cons,List.length_nil])<;>(try omega))
def Kh:Sig:= {X:=List UInt8,args:=fun x=>[.str x],pre:=fun x=>x.length<2^63,Y:=Unit,post:=fun x y=>True,res:=fun x y=> .str (CQ x),outs:=fun x y=>[.top],keep:=false}
def Qb(x:List UInt8):LS:= {ι:=Int,inv:=fun i=>0≤i∧i≤x.length∧CQ (x.take i.toNat)=CQ x,regs:=fun i=>[(0,.str x),(3,.int .i64 i)],als:=[],meas:=fun i=>i.toNat}
theorem a9S:Ah G Tryz.prog 170 Kh:=
 vcFun_okP [] [] false (fun x=>[(2,Qb x)]) Tryz.func170 rfl (by decide) trivial (fun(x:List UInt8)=>(∀(y:Unit),True→True∧True∧True)∧eA (Qb x) [.str x,.int .i64 (↑(List.length x):Int)]∧∀(i:Int),(0:Int)≤i∧i≤(↑(List.length x):Int)∧CQ (List.take (Int.toNat i) x)=CQ x→Ab (decide (i>(0:Int))) (inR IntKind.i64 (i-(1:Int))∧((0:Int)≤i-(1:Int)∧i-(1:Int)<(↑(List.length x):Int))∧∀(c:UInt8),x[Int.toNat (i-(1:Int))]? =some c→Ab ((↑(UInt8.toNat c):Int)==(32:Int)) (inR IntKind.i64 (i-(1:Int))∧eN (Qb x) i [.str x,.int .i64 (i-(1:Int))]) (((0:Int)≤(0:Int)∧(0:Int)≤i∧i≤(↑(List.length x):Int))∧rA Kh x [.str (List.take (Int.toNat i) x),.top])) (((0:Int)≤(0:Int)∧(0:Int)≤i∧i≤(↑(List.length x):Int))∧rA Kh x [.str (List.take (Int.toNat i) x),.top])) (fun x=>by kernel_rfl) fun(x:List UInt8) (hx:x.length<2^63)=>(by
 dsimp only[eA,eN,Qb,rA,Kh,Aq,Aw,Ba]
 (repeat' first|(with_reducible first|rfl|exact True.intro|apply AG|apply And.intro|((first|apply Au|apply AE|apply Av|apply AF)<;>intro _))|(apply As<;>intro _)|apply AD|refine Af () ?_ ?_|((first|apply AK|apply AJ|apply AI|apply AH|apply AC|apply AB|apply AA|apply Az|apply Ax)<;>try dsimp only)|apply Af|(refine Prod.forall.2 ?_;intro _;try dsimp only)|(intro _;try dsimp only))<;>(try dsimp only at*)<;>(try simp only[Aj,List.length_cons,List.length_nil])<;>(try omega)
 ·simp
 ·rename_i i hi h c hc h2
  rw[←hi.2.2,show i.toNat=(i-1).toNat+1 by omega,ZZ hc,if_pos (by omega)]
 ·rename_i i hi h c hc h2
  have:=hi.2.2
  rw[show i.toNat=(i-1).toNat+1 by omega,ZZ hc,if_neg (by omega)] at this
  rw[←this,show i.toNat=(i-1).toNat+1 by omega]
 ·rename_i i hi h
  rw[←hi.2.2,show i.toNat=0 by omega];rfl)
theorem a9T(s:List UInt8)(c:UInt8):Cq s c= -1∨(0≤Cq s c∧Cq s c<s.length):=by
 unfold Cq
 split
 ·exact .inl rfl
 ·rename_i i h;have:=a0c h;omega
theorem a0j{s:List UInt8}:En s=if Cq (s.drop 1) 39<0 then([],false) else(s.take (Cq (s.drop 1) 39+2).toNat,(s.take (Cq (s.drop 1) 39+2).toNat).all Bw):=by
 unfold En Cq
 have e:(fun c:UInt8=>decide (c.toNat=39))=fun d:UInt8=>decide (d.toNat=(39:UInt8).toNat):=rfl
 rw[e]
 cases DP (fun d:UInt8=>decide (d.toNat=(39:UInt8).toNat)) (s.drop 1) with
 |none=>simp
 |some i=>
  have h1:¬(i:Int)<0:=by omega
  have h2:((i:Int)+2).toNat=i+2:=by omega
  simp only[if_neg h1,h2]
def Ki:Sig:= {X:=List UInt8,args:=fun x=>[.str x],pre:=fun x=>1≤x.length∧x.length<2^62,Y:=Unit,post:=fun x y=>True,res:=fun x y=> .tup [.str (En x).1,.bool (En x).2],outs:=fun x y=>[.top],keep:=false}
theorem a9U:Ah G Tryz.prog 208 Ki:=
 vcFun_okP [(223,0,LU),(77,0,EB)] [] false (fun x=>[]) Tryz.func208 rfl (by decide) ⟨a8O,PY,trivial⟩ (fun(x:List UInt8)=>(∀(y:Unit),True→(True∧True∧True)∧True∧True)∧((0:Int)≤(1:Int)∧(1:Int)≤(↑(List.length x):Int)∧(↑(List.length x):Int)≤(↑(List.length x):Int))∧cA LU [.str (List.drop (1:Nat) x),AV.int IntKind.u8 (39:Int)] fun x_1 y=>Ab (decide (Cq x_1 (39:UInt8)<(0:Int))) (rA Ki x [.tup [.str #[].toList,.bool false],.top]) (inR IntKind.i64 (Cq x_1 (39:UInt8)+(2:Int))∧((0:Int)≤(0:Int)∧(0:Int)≤Cq x_1 (39:UInt8)+(2:Int)∧Cq x_1 (39:UInt8)+(2:Int)≤(↑(List.length x):Int))∧cA EB [.str (List.take (Int.toNat (Cq x_1 (39:UInt8)+(2:Int))) x)] fun x_2 y=>rA Ki x [.tup [.str (List.take (Int.toNat (Cq x_1 (39:UInt8)+(2:Int))) x),.bool (List.all x_2 Bw)],.top])) (fun x=>by kernel_rfl) fun(x:List UInt8) (hx:1≤x.length∧x.length<2^62)=>(by
 dsimp only[cA,rA,EB,Ki,LU,Aq,Aw,mvL,lnL,mvE,lnE,mvG,mvH,lnG,lnH]
 obtain⟨h1,h2⟩:=hx
 have hq:=a9T (x.drop 1) 39;have hl:(x.drop 1).length=x.length-1:=by simp
 (repeat' first|(with_reducible first|rfl|exact True.intro|apply AG|apply And.intro|((first|apply Au|apply AE|apply Av|apply AF)<;>intro _))|(apply As<;>intro _)|apply AD|refine Af () ?_ ?_|((first|apply AK|apply AJ|apply AI|apply AH|apply AC|apply AB|apply AA|apply Az|apply Ax)<;>try dsimp only)|apply Af|(refine Prod.forall.2 ?_;intro _;try dsimp only)|(intro _;try dsimp only))<;>(try dsimp only at*)<;>(try simp only[Aj,List.length_cons,List.length_nil])<;>(try omega)
 all_goals first
  |omega
  |(rw[a0j,if_neg ‹¬Cq _ 39<0›];done)
  |(rw[a0j,if_pos ‹Cq _ 39<0›];done)
  |(simp;omega))
def GQ:Sig:= {X:=List UInt8,args:=fun x=>[.str x],pre:=fun x=>1≤x.length∧x.length<2^62,Y:=Unit,post:=fun x y=>True,res:=fun x y=> .tup [.int .i64 (Cm x).kind,.str (Cm x).text,.int .i64 (Cm x).size,.bool (Cm x).ok],outs:=fun x y=>[.top],keep:=false}
def Qc(x:List UInt8):LS:= {ι:=Int,inv:=fun i=>GP x i,regs:=fun i=>[(0,.str x),(12,.int .i64 i)],als:=[],meas:=fun i=>i.toNat}
theorem a9V:Ah G Tryz.prog 190 GQ:=
 vcFun_okP [(204,0,Fb),(205,206+1,Kc),(207,0,FG),(205,207+1,Kd),(208,0,Ki),(193,0,LX),(205,209+1,Ke),(210,0,Ma),(77,0,EB),(211,0,Gs)] [] false (fun x=>[(15,Qc x)]) Tryz.func190 rfl (by decide) ⟨ZW,a8X,UW,a8Y,a9U,a8T,a8Z,a9R,PY,a9O,trivial⟩ (fun(x:List UInt8)=>(∀(y:Unit),True→(True∧True∧True∧True∧True)∧True∧True)∧((0:Int)≤(0:Int)∧(0:Int)<(↑(List.length x):Int))∧∀(c:UInt8),x[(0:Nat)]? =some c→cA Fb [AV.int IntKind.u8 (↑(UInt8.toNat c):Int)] fun x_1 y=>Ab (CE x_1) (cA Kc [.str x,AV.clo (Fn.func (84:Nat)) []] fun x_2 y=>rA GQ x [.tup [.int .i64 (1:Int),.str (List.takeWhile Cp x_2),.int .i64 (↑(List.length (List.takeWhile Cp x_2)):Int),.bool (decide ((↑(List.length (List.takeWhile Cp x_2)):Int)≤(30:Int)))],.top]) (cA FG [AV.int IntKind.u8 (↑(UInt8.toNat c):Int)] fun x_2 y=>Ab (Bu x_2) (cA Kd [.str x,AV.clo (Fn.func (85:Nat)) []] fun x_3 y=>rA GQ x [.tup [.int .i64 (2:Int),.str (List.takeWhile Bu x_3),.int .i64 (↑(List.length (List.takeWhile Bu x_3)):Int),.bool (decide ((↑(List.length (List.takeWhile Bu x_3)):Int)≤(12:Int)))],.top]) (Ab ((↑(UInt8.toNat c):Int)==(39:Int)) (cA Ki [.str x] fun x_3 y=>rA GQ x [.tup [.int .i64 (3:Int),.str (En x_3).1,.int .i64 (↑(List.length (En x_3).1):Int),.bool (En x_3).2],.top]) (cA LX [.str x,.str #[(47:UInt8),(47:UInt8)].toList] fun x_3 y=>Ab (List.take (List.length x_3.2) x_3.1==x_3.2) (cA Ke [.str x,AV.clo (Fn.func (88:Nat)) []] fun x_4 y=>cA Ma [.str (List.takeWhile Cl x_4)] fun x_5 y=>cA EB [.str (List.takeWhile Cl x_4)] fun x_6 y=>rA GQ x [.tup [.int .i64 (5:Int),.str (CQ x_5),.int .i64 (↑(List.length (List.takeWhile Cl x_4)):Int),.bool (List.all x_6 Bw)],.top]) (eA (Qc x) [.str x,.int .i64 (min (2:Int) (↑(List.length x):Int))]∧∀(i:Int),GP x i→Ab (decide (i>(0:Int))) (((0:Int)≤(0:Int)∧(0:Int)≤i∧i≤(↑(List.length x):Int))∧cA Gs [.str (List.take (Int.toNat i) x)] fun x_4 y=>Ab (DN x_4) (true=true∧true=true∧((0:Int)≤(0:Int)∧(0:Int)≤i∧i≤(↑(List.length x):Int))∧rA GQ x [.tup [.int .i64 (4:Int),.str (List.take (Int.toNat i) x),.int .i64 i,.bool true],.top]) (inR IntKind.i64 (i-(1:Int))∧eN (Qc x) i [.str x,.int .i64 (i-(1:Int))])) (rA GQ x [.tup [.int .i64 (0:Int),.str #[].toList,.int .i64 (0:Int),.bool false],.top])))))) (fun x=>by kernel_rfl) fun(x:List UInt8) (hx:1≤x.length∧x.length<2^62)=>(by
 dsimp only[cA,eA,eN,Qc,rA,Ma,FG,Fb,EB,Gs,Ki,Kd,Kc,Ke,LX,GQ,Aq,Aw,mvL,lnL,mvE,lnE,mvG,mvH,lnG,lnH,Ba]
 obtain⟨h1,h2⟩:=hx
 have h3:x.length<9223372036854775808:=by omega
 match x,h1,h2,h3 with
 |b::t,h1,h2,h3=>
 (repeat' first|(with_reducible first|rfl|exact True.intro|apply AG|apply And.intro|((first|apply Au|apply AE|apply Av|apply AF)<;>intro _))|(apply As<;>intro _)|apply AD|refine Af () ?_ ?_|((first|apply AK|apply AJ|apply AI|apply AH|apply AC|apply AB|apply AA|apply Az|apply Ax)<;>try dsimp only)|apply Af|(refine Prod.forall.2 ?_;intro _;try dsimp only)|(intro _;try dsimp only))<;>(try dsimp only at*)<;>(try simp only[Aj,List.length_cons,List.length_nil])<;>(try omega)
 all_goals(try simp only[List.getElem?_cons_zero,Option.some.injEq] at*)
 all_goals(try subst_vars)
 all_goals first
  |exact h3
  |(rw[a9e ‹_›];done)
  |(rw[a9f ‹_› ‹_›];done)
  |(rw[a9g ‹_› ‹_› ‹_›];done)
  |(rw[a9h ‹_› ‹_› ‹_› ‹_›];done)
  |(rw[a9a ‹_› h1 ‹_› ‹_›];done)
  |(rw[a9b ‹_› h1 ‹_›];done)
  |exact a9c ‹_› ‹_› ‹_›
  |exact a9d ‹_› ‹_› (by omega) ‹_›
  |exact Nat.lt_of_le_of_lt (List.takeWhile_prefix _).length_le h3
  |(have hI:=(‹GP _ _› :GP _ _).1;rw[List.length_cons] at hI;omega)
  |(have hI:=(‹GP _ _› :GP _ _).1;rw[List.length_take];omega)
  |trace_state)
def Fc:Sig:= {X:=List UInt8×Int,args:=fun x=>[.str x.1,.int .i64 x.2],pre:=fun x=>x.1.length<2^62,Y:=Unit,post:=fun x y=>True,res:=fun x y=> .bool (BV x.1 x.2),outs:=fun x y=>[.top,.top],keep:=false}
theorem a0k:Ah G Tryz.prog 155 Fc:=
 vcFun_okP [(190,0,GQ)] [] false (fun x=>[]) Tryz.func155 rfl (by decide) ⟨a9V,trivial⟩ (fun(x:List UInt8×Int)=>(∀(y:Unit),True→True∧True∧True∧True)∧Ab (x.1== #[].toList) (rA Fc x [.bool false,.top,.top]) (cA GQ [.str x.1] fun x_1 y=>Ab (Cm x_1).ok (Ab ((Cm x_1).kind==x.2) (Ab ((Cm x_1).text==x.1) (rA Fc x [.bool ((Cm x_1).size==(↑(List.length x.1):Int)),.top,.top]) (rA Fc x [.bool false,.top,.top])) (rA Fc x [.bool false,.top,.top])) (rA Fc x [.bool false,.top,.top]))) (fun x=>by kernel_rfl) fun(x:List UInt8×Int) (hx:x.1.length<2^62)=>(by
 dsimp only[cA,rA,Fc,GQ,Aq,Aw,mvL,lnL,mvE,lnE,mvG,mvH,lnG,lnH]
 (repeat' first|(with_reducible first|rfl|exact True.intro|apply AG|apply And.intro|((first|apply Au|apply AE|apply Av|apply AF)<;>intro _))|(apply As<;>intro _)|apply AD|refine Af () ?_ ?_|((first|apply AK|apply AJ|apply AI|apply AH|apply AC|apply AB|apply AA|apply Az|apply Ax)<;>try dsimp only)|apply Af|(refine Prod.forall.2 ?_;intro _;try dsimp only)|(intro _;try dsimp only))<;>(try dsimp only at*)<;>(try simp only[Aj,List.length_cons,List.length_nil])<;>(try omega)
 all_goals first
  |exact List.length_pos_iff.2 ‹_›
  |(simp [BV, *];done)
  |(rw[Bool.eq_iff_iff];simp [BV, *];done))
def Gt:Sig:= {X:=List UInt8,args:=fun x=>[.str x],pre:=fun x=>x.length<2^62,Y:=Unit,post:=fun x y=>True,res:=fun x y=> .bool (CX x),outs:=fun x y=>[.top],keep:=false}
theorem a9W:Ah G Tryz.prog 154 Gt:=
 vcFun_okP [(155,0,Fc),(189,0,Gp)] [] false (fun x=>[]) Tryz.func154 rfl (by decide) ⟨a0k,a9L,trivial⟩ (fun(x:List UInt8)=>(∀(y:Unit),True→True∧True∧True)∧cA Fc [.str x,.int .i64 (1:Int)] fun x_1 y=>Ab (BV x_1.1 x_1.2) (cA Gp [.str x] fun x_2 y=>rA Gt x [.bool !kw x_2,.top]) (rA Gt x [.bool false,.top])) (fun x=>by kernel_rfl) fun(x:List UInt8) (hx:x.length<2^62)=>(by
 dsimp only[cA,rA,Gp,Gt,Fc,Aq,Aw,mvL,lnL,mvE,lnE,mvG,mvH,lnG,lnH]
 (repeat' first|(with_reducible first|rfl|exact True.intro|apply AG|apply And.intro|((first|apply Au|apply AE|apply Av|apply AF)<;>intro _))|(apply As<;>intro _)|apply AD|refine Af () ?_ ?_|((first|apply AK|apply AJ|apply AI|apply AH|apply AC|apply AB|apply AA|apply Az|apply Ax)<;>try dsimp only)|apply Af|(refine Prod.forall.2 ?_;intro _;try dsimp only)|(intro _;try dsimp only))<;>(try dsimp only at*)<;>(try simp only[Aj,List.length_cons,List.length_nil])<;>(try omega)
 all_goals simp [CX, *])
def Dn:Sig:= {X:=Nd,args:=fun x=>[.agg (ndA false x)],pre:=fun x=>x.text.length<2^62,Y:=Unit,post:=fun x y=>True,res:=fun x y=> .bool (Dv x.kind x.text),outs:=fun x y=>[.top],keep:=false}
theorem a9X:Ah G Tryz.prog 122 Dn:=
 vcFun_okP [(155,0,Fc),(154,0,Gt)] [] false (fun x=>[]) Tryz.func122 rfl (by decide) ⟨a0k,a9W,trivial⟩ (fun(x:Nd)=>(∀(y:Unit),True→True∧True∧True)∧Ab (x.kind==(1:Int)) (cA Gt [.str x.text] fun x_1 y=>rA Dn x [.bool (CX x_1),.top]) (Ab (x.kind==(6:Int)) (cA Gt [.str x.text] fun x_1 y=>rA Dn x [.bool (CX x_1),.top]) (Ab (x.kind==(12:Int)) (cA Gt [.str x.text] fun x_1 y=>rA Dn x [.bool (CX x_1),.top]) (Ab (x.kind==(13:Int)) (cA Gt [.str x.text] fun x_1 y=>rA Dn x [.bool (CX x_1),.top]) (Ab (x.kind==(20:Int)) (cA Gt [.str x.text] fun x_1 y=>rA Dn x [.bool (CX x_1),.top]) (Ab (x.kind==(21:Int)) (cA Gt [.str x.text] fun x_1 y=>rA Dn x [.bool (CX x_1),.top]) (Ab (x.kind==(2:Int)) (cA Fc [.str x.text,.int .i64 (2:Int)] fun x_1 y=>rA Dn x [.bool (BV x_1.1 x_1.2),.top]) (Ab (x.kind==(3:Int)) (cA Fc [.str x.text,.int .i64 (3:Int)] fun x_1 y=>rA Dn x [.bool (BV x_1.1 x_1.2),.top]) (Ab (x.kind==(19:Int)) (cA Fc [.str x.text,.int .i64 (5:Int)] fun x_1 y=>rA Dn x [.bool (BV x_1.1 x_1.2),.top]) (Ab (x.kind==(7:Int)) (Ab (x.text== #[(38:UInt8),(38:UInt8)].toList) (rA Dn x [.bool true,.top]) (Ab (x.text== #[(124:UInt8),(124:UInt8)].toList) (rA Dn x [.bool true,.top]) (Ab (x.text== #[(61:UInt8),(61:UInt8)].toList) (rA Dn x [.bool true,.top]) (Ab (x.text== #[(60:UInt8)].toList) (rA Dn x [.bool true,.top]) (Ab (x.text== #[(43:UInt8)].toList) (rA Dn x [.bool true,.top]) (Ab (x.text== #[(45:UInt8)].toList) (rA Dn x [.bool true,.top]) (Ab (x.text== #[(42:UInt8)].toList) (rA Dn x [.bool true,.top]) (rA Dn x [.bool false,.top])))))))) (rA Dn x [.bool (x.text== #[].toList),.top]))))))))))) (fun x=>by kernel_rfl) fun(x:Nd) (hx:x.text.length<2^62)=>(by
 dsimp only[cA,Bi,rA,Gt,Fc,Dn,Aq,Aw,mvL,lnL,mvE,lnE,mvG,mvH,lnG,lnH]
 (repeat' first|(with_reducible first|rfl|exact True.intro|apply AG|apply And.intro|((first|apply Au|apply AE|apply Av|apply AF)<;>intro _))|(apply As<;>intro _)|apply AD|refine Af () ?_ ?_|((first|apply AK|apply AJ|apply AI|apply AH|apply AC|apply AB|apply AA|apply Az|apply Ax)<;>try dsimp only)|apply Af|(refine Prod.forall.2 ?_;intro _;try dsimp only)|(intro _;try dsimp only))<;>(try dsimp only at*)<;>(try simp only[Aj,List.length_cons,List.length_nil])<;>(try omega)
 all_goals simp [Dv,HU, *])
def IY:Sig:= {X:=List UInt8×Int,args:=fun x=>[.str x.1,.int .i64 x.2],pre:=fun x=>0≤x.2∧x.2≤x.1.length∧x.1.length<2^62,Y:=Unit,post:=fun x y=>True,res:=fun x y=> .int .i64 (Dx (x.1.drop x.2.toNat)),outs:=fun x y=>[.top,.top],keep:=false}
def Qd(x:List UInt8×Int):LS:= {ι:=Int,inv:=fun i=>qI x i,regs:=fun i=>[(0,.str x.1),(1,.int .i64 x.2),(5,.int .i64 i)],als:=[],meas:=fun i=>x.1.length-i.toNat}
theorem a9Y:Ah G Tryz.prog 173 IY:=
 vcFun_okP [(85,0,FI)] [] false (fun x=>[(2,Qd x)]) Tryz.func173 rfl (by decide) ⟨UX,trivial⟩ (fun(x:List UInt8×Int)=>(∀(y:Unit),True→True∧True∧True∧True)∧inR IntKind.i64 (x.2+(1:Int))∧eA (Qd x) [.str x.1,.int .i64 x.2,.int .i64 (x.2+(1:Int))]∧∀(i:Int),qI x i→Ab (decide (i<(↑(List.length x.1):Int))) (((0:Int)≤i∧i<(↑(List.length x.1):Int))∧∀(c:UInt8),x.1[Int.toNat i]? =some c→Ab ((↑(UInt8.toNat c):Int)==(39:Int)) (inR IntKind.i64 (i+(1:Int))∧inR IntKind.i64 (i+(1:Int)-x.2)∧rA IY x [.int .i64 (i+(1:Int)-x.2),.top,.top]) (((0:Int)≤i∧i<(↑(List.length x.1):Int))∧∀(c:UInt8),x.1[Int.toNat i]? =some c→cA FI [AV.int IntKind.u8 (↑(UInt8.toNat c):Int)] fun x_1 y=>Ab (!Bw x_1) (rA IY x [.int .i64 (0:Int),.top,.top]) (inR IntKind.i64 (i+(1:Int))∧eN (Qd x) i [.str x.1,.int .i64 x.2,.int .i64 (i+(1:Int))]))) (rA IY x [.int .i64 (0:Int),.top,.top])) (fun x=>by kernel_rfl) fun(x:List UInt8×Int) (hx:0≤x.2∧x.2≤x.1.length∧x.1.length<2^62)=>(by
 dsimp only[cA,eA,eN,Qd,rA,FI,IY,Aq,Aw,mvL,lnL,mvE,lnE,mvG,mvH,lnG,lnH,Ba]
 obtain⟨h1,h2,h3⟩:=hx
 (repeat' first|(with_reducible first|rfl|exact True.intro|apply AG|apply And.intro|((first|apply Au|apply AE|apply Av|apply AF)<;>intro _))|(apply As<;>intro _)|apply AD|refine Af () ?_ ?_|((first|apply AK|apply AJ|apply AI|apply AH|apply AC|apply AB|apply AA|apply Az|apply Ax)<;>try dsimp only)|apply Af|(refine Prod.forall.2 ?_;intro _;try dsimp only)|(intro _;try dsimp only))<;>(try dsimp only at*)<;>(try simp only[Aj,List.length_cons,List.length_nil])<;>(try omega)
 all_goals first
  |exact a9p
  |exact a9r h1 ‹_› ‹_› ‹_›
  |exact a9s h1 ‹_› ‹_› ‹_› ‹_› ‹_›
  |exact a9t h1 ‹_› ‹_› ‹_› ‹_› ‹_› ‹_›
  |exact a9u h1 ‹_› ‹_›
  |(have hI:=a9q ‹_›;omega))
def Hq:Sig:= {X:=List UInt8×Int,args:=fun x=>[.str x.1,.int .i64 x.2],pre:=fun x=>0≤x.2∧x.2≤x.1.length∧x.1.length<2^62,Y:=Unit,post:=fun x y=>True,res:=fun x y=> .int .i64 (DH (x.1.drop x.2.toNat)),outs:=fun x y=>[.top,.top],keep:=false}
def Qe(x:List UInt8×Int):LS:= {ι:=Int,inv:=fun i=>nI x i,regs:=fun i=>[(0,.str x.1),(1,.int .i64 x.2),(5,.int .i64 i)],als:=[],meas:=fun i=>x.1.length-i.toNat}
theorem a9Z:Ah G Tryz.prog 169 Hq:=
 vcFun_okP [(85,0,FI)] [] false (fun x=>[(4,Qe x)]) Tryz.func169 rfl (by decide) ⟨UX,trivial⟩ (fun(x:List UInt8×Int)=>(∀(y:Unit),True→True∧True∧True∧True)∧inR IntKind.i64 (x.2+(2:Int))∧Ab (decide (x.2+(2:Int)>(↑(List.length x.1):Int))) (rA Hq x [.int .i64 (0:Int),.top,.top]) (inR IntKind.i64 (x.2+(2:Int))∧((0:Int)≤x.2∧x.2≤x.2+(2:Int)∧x.2+(2:Int)≤(↑(List.length x.1):Int))∧Ab (!List.drop (Int.toNat x.2) (List.take (Int.toNat (x.2+(2:Int))) x.1)== #[(47:UInt8),(47:UInt8)].toList) (rA Hq x [.int .i64 (0:Int),.top,.top]) (eA (Qe x) [.str x.1,.int .i64 x.2,.int .i64 x.2]∧∀(i:Int),nI x i→Ab (decide (i<(↑(List.length x.1):Int))) (((0:Int)≤i∧i<(↑(List.length x.1):Int))∧∀(c:UInt8),x.1[Int.toNat i]? =some c→Ab ((↑(UInt8.toNat c):Int) != (10:Int)) (((0:Int)≤i∧i<(↑(List.length x.1):Int))∧∀(c:UInt8),x.1[Int.toNat i]? =some c→cA FI [AV.int IntKind.u8 (↑(UInt8.toNat c):Int)] fun x_1 y=>Ab (!Bw x_1) (rA Hq x [.int .i64 (0:Int),.top,.top]) (inR IntKind.i64 (i+(1:Int))∧eN (Qe x) i [.str x.1,.int .i64 x.2,.int .i64 (i+(1:Int))])) (inR IntKind.i64 (i-x.2)∧rA Hq x [.int .i64 (i-x.2),.top,.top])) (inR IntKind.i64 (i-x.2)∧rA Hq x [.int .i64 (i-x.2),.top,.top])))) (fun x=>by kernel_rfl) fun(x:List UInt8×Int) (hx:0≤x.2∧x.2≤x.1.length∧x.1.length<2^62)=>(by
 dsimp only[cA,eA,eN,Qe,rA,Hq,FI,Aq,Aw,mvL,lnL,mvE,lnE,mvG,mvH,lnG,lnH,Ba]
 obtain⟨h1,h2,h3⟩:=hx
 (repeat' first|(with_reducible first|rfl|exact True.intro|apply AG|apply And.intro|((first|apply Au|apply AE|apply Av|apply AF)<;>intro _))|(apply As<;>intro _)|apply AD|refine Af () ?_ ?_|((first|apply AK|apply AJ|apply AI|apply AH|apply AC|apply AB|apply AA|apply Az|apply Ax)<;>try dsimp only)|apply Af|(refine Prod.forall.2 ?_;intro _;try dsimp only)|(intro _;try dsimp only))<;>(try dsimp only at*)<;>(try simp only[Aj,List.length_cons,List.length_nil])<;>(try omega)
 all_goals first
  |exact a9x h1 ‹_›
  |exact a9w h1 ‹_›
  |exact a9v h1 h2 ‹_›
  |exact a9y h1 ‹_› ‹_› ‹_› ‹_› ‹_›
  |exact a9z h1 ‹_› ‹_› ‹_› ‹_› ‹_› ‹_›
  |exact a9A h1 ‹_› ‹_› ‹_›
  |exact a9B h1 ‹_› ‹_›
  |(have hI:=(‹nI _ _› :nI _ _).1;omega))
def Fd:Sig:= {X:=List UInt8,args:=fun x=>[.str x],pre:=fun x=>x.length<2^62,Y:=Unit,post:=fun x y=>True,res:=fun x y=> .bool (CX x),outs:=fun x y=>[.top],keep:=false}
def NQ(x:List UInt8):LS:= {ι:=Int,inv:=fun i=>nmI x i,regs:=fun i=>[(0,.str x),(3,.int .i64 i)],als:=[],meas:=fun i=>x.length-i.toNat}
theorem b0a:Ah G Tryz.prog 180 Fd:=
 vcFun_okP [(45,0,Bz),(171,0,FH),(175,0,Gq),(172,0,Hp)] [] false (fun x=>[(4,NQ x)]) Tryz.func180 rfl (by decide) ⟨GN,a8U,a9M,ZV,trivial⟩ (fun(x:List UInt8)=>(∀(y:Unit),True→True∧True∧True)∧cA Bz [.int .i64 (↑(List.length x):Int),.int .i64 (1:Int),.int .i64 (30:Int)] fun x_1 y=>Ab (!inn x_1.1 x_1.2.1 x_1.2.2) (rA Fd x [.bool false,.top]) (((0:Int)≤(0:Int)∧(0:Int)<(↑(List.length x):Int))∧∀(c:UInt8),x[(0:Nat)]? =some c→cA FH [AV.int IntKind.u8 (↑(UInt8.toNat c):Int)] fun x_2 y=>Ab (!CE x_2) (rA Fd x [.bool false,.top]) (cA Gq [.str x] fun x_3 y=>Ab (kw x_3) (rA Fd x [.bool false,.top]) (eA (NQ x) [.str x,.int .i64 (0:Int)]∧∀(i:Int),nmI x i→Ab (decide (i<(↑(List.length x):Int))) (((0:Int)≤i∧i<(↑(List.length x):Int))∧∀(c:UInt8),x[Int.toNat i]? =some c→cA FH [AV.int IntKind.u8 (↑(UInt8.toNat c):Int)] fun x_4 y=>Ab (!CE x_4) (((0:Int)≤i∧i<(↑(List.length x):Int))∧∀(c:UInt8),x[Int.toNat i]? =some c→cA Hp [AV.int IntKind.u8 (↑(UInt8.toNat c):Int)] fun x_5 y=>Ab (!Bu x_5) (rA Fd x [.bool false,.top]) (inR IntKind.i64 (i+(1:Int))∧eN (NQ x) i [.str x,.int .i64 (i+(1:Int))])) (inR IntKind.i64 (i+(1:Int))∧eN (NQ x) i [.str x,.int .i64 (i+(1:Int))])) (rA Fd x [.bool true,.top]))))) (fun x=>by kernel_rfl) fun(x:List UInt8) (hx:x.length<2^62)=>(by
 dsimp only[cA,eA,eN,NQ,rA,Bz,Hp,FH,Fd,Gq,Aq,Aw,mvL,lnL,mvE,lnE,mvG,mvH,lnG,lnH,Ba]
 have hp:∀h:inn x.length 1 30=true,1≤x.length:=fun h=>by simp [inn] at h;omega
 (repeat' first|(with_reducible first|rfl|exact True.intro|apply AG|apply And.intro|((first|apply Au|apply AE|apply Av|apply AF)<;>intro _))|(apply As<;>intro _)|apply AD|refine Af () ?_ ?_|((first|apply AK|apply AJ|apply AI|apply AH|apply AC|apply AB|apply AA|apply Az|apply Ax)<;>try dsimp only)|apply Af|(refine Prod.forall.2 ?_;intro _;try dsimp only)|(intro _;try dsimp only))<;>(try dsimp only at*)<;>(try simp only[Aj,List.length_cons,List.length_nil])<;>(try omega)
 all_goals(try(have:=hp ‹_›;omega))
 all_goals(try(have hI:=(‹nmI _ _› :nmI _ _).1;omega))
 ·rename_i h;exact Vf (fun hh=>by rw[hh.1] at h;cases h)
 ·rename_i c hc _ _ h;exact Vf (fun hh=>by rw[a0h hc,h] at hh;cases hh.2.1)
 ·rename_i h;exact Vf (fun hh=>by rw[hh.2.2] at h;cases h)
 ·rename_i h1 c hc _ _ h2 _ _ h3;exact a9C h1 (by rw[a0h hc];exact h2) h3
 ·rename_i i hi hl c hc _ _ h1 d hd _ _ h2
  rw[hc] at hd;cases hd
  exact a9D hi hc (by simp [Cp,h1,h2])
 ·rename_i i hi hl c hc _ _ h1 d hd _ _ h2
  rw[hc] at hd;cases hd
  exact a0i hi hc hl (by simp [Cp,h2])
 ·rename_i i hi hl c hc _ _ h1
  exact a0i hi hc hl (by simp [Cp,h1])
 ·exact a9E ‹_› ‹_›)
def Kj:Sig:= {X:=List UInt8,args:=fun x=>[.str x],pre:=fun x=>x.length<2^62,Y:=Unit,post:=fun x y=>True,res:=fun x y=> .bool (BV x 2),outs:=fun x y=>[.top],keep:=false}
theorem b0b:Ah G Tryz.prog 181 Kj:=
 vcFun_okP [(45,0,Bz),(172,0,Hp)] [] false (fun x=>[(2,DQ Bu x fun i=>[(0,.str x),(3,.int .i64 i)])]) Tryz.func181 rfl (by decide) ⟨GN,ZV,trivial⟩ (fun(x:List UInt8)=>(∀(y:Unit),True→True∧True∧True)∧eA (DQ Bu x fun(i:Int)=>[((0:Nat),.str x),((3:Nat),.int .i64 i)]) [.str x,.int .i64 (0:Int)]∧∀(i:Int),((0:Int)≤i∧i≤(↑(List.length x):Int)∧∀(e:UInt8),e∈List.take (Int.toNat i) x→Bu e=true)→Ab (decide (i<(↑(List.length x):Int))) (((0:Int)≤i∧i<(↑(List.length x):Int))∧∀(c:UInt8),x[Int.toNat i]? =some c→cA Hp [AV.int IntKind.u8 (↑(UInt8.toNat c):Int)] fun x_1 y=>Ab (!Bu x_1) (rA Kj x [.bool false,.top]) (inR IntKind.i64 (i+(1:Int))∧eN (DQ Bu x fun(i:Int)=>[((0:Nat),.str x),((3:Nat),.int .i64 i)]) i [.str x,.int .i64 (i+(1:Int))])) (cA Bz [.int .i64 (↑(List.length x):Int),.int .i64 (1:Int),.int .i64 (12:Int)] fun x_1 y=>rA Kj x [.bool (inn x_1.1 x_1.2.1 x_1.2.2),.top])) (fun x=>by kernel_rfl) fun(x:List UInt8) (hx:x.length<2^62)=>(by
 dsimp only[cA,eA,eN,DQ,rA,Bz,Hp,Kj,Aq,Aw,mvL,lnL,mvE,lnE,mvG,mvH,lnG,lnH,Ba]
 (repeat' first|(with_reducible first|rfl|exact True.intro|apply AG|apply And.intro|((first|apply Au|apply AE|apply Av|apply AF)<;>intro _))|(apply As<;>intro _)|apply AD|refine Af () ?_ ?_|((first|apply AK|apply AJ|apply AI|apply AH|apply AC|apply AB|apply AA|apply Az|apply Ax)<;>try dsimp only)|apply Af|(refine Prod.forall.2 ?_;intro _;try dsimp only)|(intro _;try dsimp only))<;>(try dsimp only at*)<;>(try simp only[Aj,List.length_cons,List.length_nil])<;>(try omega)
 ·rename_i h;simp at h
 ·rename_i i hi hl c hc _ _ h;rw[UZ,PU hc h];rfl
 ·rename_i i hi hl c hc _ _ h e he
  rw[BG hi.1] at he;exact NP hi.2.2 hc h e he
 ·rename_i i hi hl _ _;rw[UZ,UP hi.2.2 (by omega)];simp only[Bool.true_and,inn];rw[Bool.eq_iff_iff];simp;omega)
def IZ:Sig:= {X:=List UInt8,args:=fun x=>[.str x],pre:=fun x=>x.length<2^62,Y:=Unit,post:=fun x y=>True,res:=fun x y=> .bool (BV x 3),outs:=fun x y=>[.top],keep:=false}
theorem b0c:Ah G Tryz.prog 182 IZ:=
 vcFun_okP [(173,0,IY)] [] false (fun x=>[]) Tryz.func182 rfl (by decide) ⟨a9Y,trivial⟩ (fun(x:List UInt8)=>(∀(y:Unit),True→True∧True∧True)∧Ab (decide ((↑(List.length x):Int)>(1:Int))) (((0:Int)≤(0:Int)∧(0:Int)<(↑(List.length x):Int))∧∀(c:UInt8),x[(0:Nat)]? =some c→Ab ((↑(UInt8.toNat c):Int)==(39:Int)) (cA IY [.str x,.int .i64 (0:Int)] fun x_1 y=>rA IZ x [.bool ((↑(Dx (List.drop (Int.toNat x_1.2) x_1.1)):Int)==(↑(List.length x):Int)),.top]) (rA IZ x [.bool false,.top])) (rA IZ x [.bool false,.top])) (fun x=>by kernel_rfl) fun(x:List UInt8) (hx:x.length<2^62)=>(by
 dsimp only[cA,rA,IY,IZ,Aq,Aw,mvL,lnL,mvE,lnE,mvG,mvH,lnG,lnH]
 (repeat' first|(with_reducible first|rfl|exact True.intro|apply AG|apply And.intro|((first|apply Au|apply AE|apply Av|apply AF)<;>intro _))|(apply As<;>intro _)|apply AD|refine Af () ?_ ?_|((first|apply AK|apply AJ|apply AI|apply AH|apply AC|apply AB|apply AA|apply Az|apply Ax)<;>try dsimp only)|apply Af|(refine Prod.forall.2 ?_;intro _;try dsimp only)|(intro _;try dsimp only))<;>(try dsimp only at*)<;>(try simp only[Aj,List.length_cons,List.length_nil])<;>(try omega)
 ·exact a9F ‹_› ‹_› ‹_›
 ·exact a9G ‹_› ‹_›
 ·exact a9H ‹_›)
def Ja:Sig:= {X:=List UInt8,args:=fun x=>[.str x],pre:=fun x=>x.length<2^62,Y:=Unit,post:=fun x y=>True,res:=fun x y=> .bool (BV x 5),outs:=fun x y=>[.top],keep:=false}
theorem b0d:Ah G Tryz.prog 183 Ja:=
 vcFun_okP [(169,0,Hq),(170,0,Kh)] [] false (fun x=>[]) Tryz.func183 rfl (by decide) ⟨a9Z,a9S,trivial⟩ (fun(x:List UInt8)=>(∀(y:Unit),True→True∧True∧True)∧Ab (decide ((↑(List.length x):Int)>(1:Int))) (cA Hq [.str x,.int .i64 (0:Int)] fun x_1 y=>Ab ((↑(DH (List.drop (Int.toNat x_1.2) x_1.1)):Int)==(↑(List.length x):Int)) (cA Kh [.str x] fun x_2 y=>rA Ja x [.bool (CQ x_2==x),.top]) (rA Ja x [.bool false,.top])) (rA Ja x [.bool false,.top])) (fun x=>by kernel_rfl) fun(x:List UInt8) (hx:x.length<2^62)=>(by
 dsimp only[cA,rA,Hq,Ja,Kh,Aq,Aw,mvL,lnL,mvE,lnE,mvG,mvH,lnG,lnH]
 (repeat' first|(with_reducible first|rfl|exact True.intro|apply AG|apply And.intro|((first|apply Au|apply AE|apply Av|apply AF)<;>intro _))|(apply As<;>intro _)|apply AD|refine Af () ?_ ?_|((first|apply AK|apply AJ|apply AI|apply AH|apply AC|apply AB|apply AA|apply Az|apply Ax)<;>try dsimp only)|apply Af|(refine Prod.forall.2 ?_;intro _;try dsimp only)|(intro _;try dsimp only))<;>(try dsimp only at*)<;>(try simp only[Aj,List.length_cons,List.length_nil])<;>(try omega)
 ·exact a9I ‹_› ‹_›
 ·exact a9J ‹_›
 ·exact a9K ‹_›)
def FJ:Sig:= {X:=List UInt8,args:=fun x=>[.str x],pre:=fun x=>x.length<2^62,Y:=Unit,post:=fun x y=>True,res:=fun x y=> .bool (HU x),outs:=fun x y=>[.top],keep:=false}
theorem b0e:Ah G Tryz.prog 184 FJ:=
 vcFun_okP [] [] false (fun x=>[]) Tryz.func184 rfl (by decide) trivial (fun(x:List UInt8)=>(∀(y:Unit),True→True∧True∧True)∧Ab (x== #[(38:UInt8),(38:UInt8)].toList) (rA FJ x [.bool true,.top]) (Ab (x== #[(124:UInt8),(124:UInt8)].toList) (rA FJ x [.bool true,.top]) (Ab (x== #[(61:UInt8),(61:UInt8)].toList) (rA FJ x [.bool true,.top]) (Ab (x== #[(60:UInt8)].toList) (rA FJ x [.bool true,.top]) (Ab (x== #[(43:UInt8)].toList) (rA FJ x [.bool true,.top]) (Ab (x== #[(45:UInt8)].toList) (rA FJ x [.bool true,.top]) (Ab (x== #[(42:UInt8)].toList) (rA FJ x [.bool true,.top]) (rA FJ x [.bool false,.top])))))))) (fun x=>by kernel_rfl) fun(x:List UInt8) (hx:x.length<2^62)=>(by
 dsimp only[rA,FJ,Aq,Aw]
 (repeat' first|(with_reducible first|rfl|exact True.intro|apply AG|apply And.intro|((first|apply Au|apply AE|apply Av|apply AF)<;>intro _))|(apply As<;>intro _)|apply AD|refine Af () ?_ ?_|((first|apply AK|apply AJ|apply AI|apply AH|apply AC|apply AB|apply AA|apply Az|apply Ax)<;>try dsimp only)|apply Af|(refine Prod.forall.2 ?_;intro _;try dsimp only)|(intro _;try dsimp only))<;>(try dsimp only at*)<;>(try simp only[Aj,List.length_cons,List.length_nil])<;>(try omega)
 all_goals simp [HU, *])
def EP:Sig:= {X:=Int×List UInt8,args:=fun x=>[.int .i64 x.1,.str x.2],pre:=fun x=>x.2.length<2^62,Y:=Unit,post:=fun x y=>True,res:=fun x y=> .bool (Dv x.1 x.2),outs:=fun x y=>[.top,.top],keep:=false}
theorem b0f:Ah G Tryz.prog 144 EP:=
 vcFun_okP [(180,0,Fd),(181,0,Kj),(182,0,IZ),(183,0,Ja),(184,0,FJ)] [] false (fun x=>[]) Tryz.func144 rfl (by decide) ⟨b0a,b0b,b0c,b0d,b0e,trivial⟩ (fun(x:Int×List UInt8)=>(∀(y:Unit),True→True∧True∧True∧True)∧Ab (x.1==(1:Int)) (cA Fd [.str x.2] fun x_1 y=>rA EP x [.bool (CX x_1),.top,.top]) (Ab (x.1==(6:Int)) (cA Fd [.str x.2] fun x_1 y=>rA EP x [.bool (CX x_1),.top,.top]) (Ab (x.1==(12:Int)) (cA Fd [.str x.2] fun x_1 y=>rA EP x [.bool (CX x_1),.top,.top]) (Ab (x.1==(13:Int)) (cA Fd [.str x.2] fun x_1 y=>rA EP x [.bool (CX x_1),.top,.top]) (Ab (x.1==(20:Int)) (cA Fd [.str x.2] fun x_1 y=>rA EP x [.bool (CX x_1),.top,.top]) (Ab (x.1==(21:Int)) (cA Fd [.str x.2] fun x_1 y=>rA EP x [.bool (CX x_1),.top,.top]) (Ab (x.1==(2:Int)) (cA Kj [.str x.2] fun x_1 y=>rA EP x [.bool (BV x_1 (2:Int)),.top,.top]) (Ab (x.1==(3:Int)) (cA IZ [.str x.2] fun x_1 y=>rA EP x [.bool (BV x_1 (3:Int)),.top,.top]) (Ab (x.1==(19:Int)) (cA Ja [.str x.2] fun x_1 y=>rA EP x [.bool (BV x_1 (5:Int)),.top,.top]) (Ab (x.1==(7:Int)) (cA FJ [.str x.2] fun x_1 y=>rA EP x [.bool (HU x_1),.top,.top]) (rA EP x [.bool (x.2== #[].toList),.top,.top]))))))))))) (fun x=>by kernel_rfl) fun(x:Int×List UInt8) (hx:x.2.length<2^62)=>(by
 dsimp only[cA,rA,FJ,Fd,Ja,Kj,IZ,EP,Aq,Aw,mvL,lnL,mvE,lnE,mvG,mvH,lnG,lnH]
 (repeat' first|(with_reducible first|rfl|exact True.intro|apply AG|apply And.intro|((first|apply Au|apply AE|apply Av|apply AF)<;>intro _))|(apply As<;>intro _)|apply AD|refine Af () ?_ ?_|((first|apply AK|apply AJ|apply AI|apply AH|apply AC|apply AB|apply AA|apply Az|apply Ax)<;>try dsimp only)|apply Af|(refine Prod.forall.2 ?_;intro _;try dsimp only)|(intro _;try dsimp only))<;>(try dsimp only at*)<;>(try simp only[Aj,List.length_cons,List.length_nil])<;>(try omega)
 all_goals simp [Dv, *])
end Go.My
end
