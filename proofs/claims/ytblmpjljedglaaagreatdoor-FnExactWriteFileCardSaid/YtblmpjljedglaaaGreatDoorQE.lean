/- joined -/
import Derived.Test.YtblmpjljedglaaaGreatDoorQD
import Derived.Test.YtblmpjljedglaaaGreatDoorProg
import Derived.WalkKit
import Derived.Lib.Bytealg
import Derived.Laws.Externs
set_option linter.unusedSimpArgs false
set_option linter.unusedVariables false
section
namespace Go.My
open Go.Eng
def Bu(c:UInt8):Bool:=decide (48≤c.toNat)&&decide (c.toNat≤57)
def CF(c:UInt8):Bool:=(decide (97≤c.toNat)&&decide (c.toNat≤122))||((decide (65≤c.toNat)&&decide (c.toNat≤90))||decide (c.toNat=95))
def Cr(c:UInt8):Bool:=CF c||Bu c
def Bx(c:UInt8):Bool:=decide (32≤c.toNat)&&decide (c.toNat≤126)
def Cn(c:UInt8):Bool:=decide (c.toNat≠10)
def kw(s:List UInt8):Bool:=s==[99,108,97,115,115]||(s==[118,97,114]||(s==[105,102]||(s==[101,108,115,101]||(s==[119,104,105,108,101]||s==[114,101,116,117,114,110]))))
def mk2(s:List UInt8):Bool:=s==[38,38]||(s==[124,124]||(s==[61,61]||(s==[61,62]||s==[46,46])))
def mk1:List UInt8:=[40,41,123,125,91,93,59,44,46,61,43,45,42,60,63,58]
def DP(s:List UInt8):Bool:=mk2 s||match s with
 |[c]=>mk1.elem c
 |_=>false
def DQ(p:UInt8→Bool):List UInt8→Option Nat
 |[]=>none
 |c::s=>if p c then some 0 else(DQ p s).map (· +1)
def CU(s:List UInt8):List UInt8:=(s.reverse.dropWhile (fun c=>decide (c.toNat=32))).reverse
def Et(s:List UInt8):List UInt8×Bool:=match DQ (fun c=>decide (c.toNat=39)) (s.drop 1) with
 |none=>([],false)
 |some i=>(s.take (i+2),(s.take (i+2)).all Bx)
structure SgR where
 kind:Int
 text:List UInt8
 size:Int
 ok:Bool
def Cp(s:List UInt8):SgR:=match s with
 |[]=>⟨0,[],0,false⟩
 |b::_=>
  if CF b then⟨1,s.takeWhile Cr,(s.takeWhile Cr).length,decide ((s.takeWhile Cr).length≤30)⟩
  else if Bu b then⟨2,s.takeWhile Bu,(s.takeWhile Bu).length,decide ((s.takeWhile Bu).length≤12)⟩
  else if b.toNat=39 then⟨3,(Et s).1,(Et s).1.length,(Et s).2⟩
  else if s.take 2=[47,47] then⟨5,CU (s.takeWhile Cn),(s.takeWhile Cn).length,(s.takeWhile Cn).all Bx⟩
  else if DP (s.take 2) then⟨4,s.take 2,(s.take 2).length,true⟩
  else if DP (s.take 1) then⟨4,s.take 1,1,true⟩
  else⟨0,[],0,false⟩
def BX(s:List UInt8)(k:Int):Bool:= !(s==[])&&((Cp s).ok&&(decide ((Cp s).kind=k)&&((Cp s).text==s&&decide ((Cp s).size=s.length))))
def Da(s:List UInt8):Bool:=BX s 1&& !kw s
def Il(s:List UInt8):Bool:=s==[38,38]||(s==[124,124]||(s==[61,61]||(s==[60]||(s==[43]||(s==[45]||s==[42])))))
def Dy(k:Int)(s:List UInt8):Bool:=
 if k=1∨k=6∨k=12∨k=13∨k=20∨k=21 then Da s
 else if k=2 then BX s 2
 else if k=3 then BX s 3
 else if k=19 then BX s 5
 else if k=7 then Il s
 else s==[]
theorem Jk{p:UInt8→Bool}:∀ {s:List UInt8} {n:Nat},(∀e∈s.take n,p e=true)→(s.length≤n∨∃e,s[n]? =some e∧p e=false)→s.take n=s.takeWhile p
 |[],n,_,_=>by simp
 |c::s,0,_,h=>by
  rcases h with h|⟨e,he,hp⟩
  ·simp at h
  ·simp at he;subst he;simp [List.takeWhile,hp]
 |c::s,n+1,ha,h=>by
  have hc:p c=true:=ha c (by simp)
  rw[List.take_succ_cons,List.takeWhile_cons,if_pos hc,Jk (fun e he=>ha e (by simp [he]))]
  rcases h with h|⟨e,he,hp⟩
  ·exact .inl (by simpa using h)
  ·exact .inr ⟨e,by simpa using he,hp⟩
theorem NZ{p:UInt8→Bool}{s:List UInt8}{n:Nat}{e:UInt8}(h:∀e∈s.take n,p e=true)(he:s[n]? =some e)(hp:p e=true):∀e∈s.take (n+1),p e=true:=by
 rw[CT he];intro x hx
 rcases List.mem_append.1 hx with hx|hx
 ·exact h x hx
 ·simp at hx;subst hx;exact hp
theorem Vs{p:UInt8→Bool}{s:List UInt8}{n:Nat}(h:∀e∈s.take n,p e=true)(hn:s.length≤n):s.all p=true:=by
 rw[List.take_of_length_le hn] at h;exact List.all_eq_true.2 h
theorem Qo{p:UInt8→Bool}{s:List UInt8}{n:Nat}{e:UInt8}(he:s[n]? =some e)(hp:p e=false):s.all p=false:=by
 rw[Bool.eq_false_iff];intro h
 rw[List.all_eq_true.1 h e (List.mem_of_getElem? he)] at hp;cases hp
theorem Qp{p:UInt8→Bool}{s:List UInt8}:s.takeWhile p=s↔s.all p=true:=by
 constructor
 ·intro h;rw[←h];exact List.all_takeWhile
 ·intro h;induction s with
  |nil=>rfl
  |cons c s ih=>
   simp only[List.all_cons,Bool.and_eq_true] at h
   rw[List.takeWhile_cons,if_pos h.1,ih h.2]
theorem Vt{p:UInt8→Bool}:∀ {s:List UInt8},DQ p s=none↔∀e∈s,p e=false
 |[]=>by simp [DQ]
 |c::s=>by
  unfold DQ
  by_cases h:p c=true
  ·simp [h]
  ·simp [h,Vt (s:=s)]
theorem Ki{p:UInt8→Bool}:∀ {s:List UInt8} {i:Nat},DQ p s=some i↔(∀e∈s.take i,p e=false)∧∃e,s[i]? =some e∧p e=true
 |[],i=>by simp [DQ]
 |c::s,i=>by
  unfold DQ
  by_cases h:p c=true
  ·cases i with
   |zero=>simp [h]
   |succ i=>simp [h]
  ·cases i with
   |zero=>simp [h]
   |succ i=>
    simp only[h,Bool.false_eq_true,if_false,Option.map_eq_some_iff]
    constructor
    ·rintro⟨j,hj,e⟩
     obtain rfl:j=i:=by omega
     obtain⟨h1,h2⟩:=Ki.1 hj
     refine⟨?_,by simpa using h2⟩
     intro e he;simp at he
     rcases he with rfl|he
     ·simpa using h
     ·exact h1 e he
    ·rintro⟨h1,h2⟩
     exact⟨i,Ki.2 ⟨fun e he=>h1 e (by simp [he]),by simpa using h2⟩,rfl⟩
def inn(x a b:Int):Bool:=decide (a≤x)&&decide (x≤b)
def Bh(l:List Nd)(k:Int):Bool:=decide (0≤k)&&decide (k<l.length)
def AX(k:Int):Bool:=inn k 1 11
def Gv(k:Int):Bool:=inn k 12 17
def CG(k:Int):Bool:=decide (k=12)||(decide (k=20)||decide (k=19))
def Db(k:Int):Bool:=decide (k=18)
def Dz(k:Int):Bool:=decide (k=1)
def EC(k:Int):Bool:=decide (k=5)
def CN(k:Int):Bool:=Gv k||decide (k=19)
def EQ(k:Int):Bool:=CG k||decide (k=21)
def ED(p:Int→Bool)(ks:List Int):Bool:=match ks.getLast? with
 |some k=>p k&&ks.dropLast.all Dz
 |none=>false
def CV(k:Int)(ks:List Int):Bool:=
 if k=1∨k=2∨k=3∨k=19 then decide (ks.length=0)
 else if k=4 then ks.all AX
 else if k=5 then decide (1≤ks.length)&&ks.all AX
 else if k=7 then decide (2≤ks.length)&&ks.all AX
 else if k=8 then decide (ks.length=3)&&ks.all AX
 else if k=6∨k=11∨k=13∨k=14 then decide (ks.length=1)&&ks.all AX
 else if k=12∨k=15 then decide (ks.length≤1)&&ks.all AX
 else if k=9 then ED AX ks
 else if k=10 then decide (2≤ks.length)&&(AX (ks.headD 0)&&(ks.drop 1).all EC)
 else if k=16 then(decide (2≤ks.length)&&decide (ks.length≤3))&&(AX (ks.headD 0)&&(ks.drop 1).all Db)
 else if k=17 then decide (ks.length=2)&&(AX (ks.headD 0)&&Db (ks.getD 1 0))
 else if k=18 then ks.all CN
 else if k=20 then ED Db ks
 else if k=21 then ks.all CG
 else if k=22 then ks.all EQ
 else false
def Aa(ns:List Nd)(c:Int):Nd:=ns.getD c.toNat ⟨0,[],[],false⟩
def Al(ns:List Nd)(c:Int):Int:=(Aa ns c).kind
def CL(ns:List Nd)(x:Nd)(i:Nat)(c:Int):Bool:=
 let y:=Aa ns c
 if y.kind=5 then match y.kids with
  |[]=>false
  |h::_=>Bh ns h&& !(decide (x.kind=10)&&(decide (0<i)&& !decide (Al ns h=1)))
 else true
def ER(ns:List Nd)(x:Nd):Bool:=(x.kids.zipIdx).all fun p=>CL ns x p.2 p.1
def DI(l:List Int)(k:Int):Bool:=l.all fun c=>decide (0≤c)&&decide (c<k)
def GW(k:Int):Bool:=Gv k||(CG k||decide (k=21))
def HA(ns:List Nd)(k:Int)(x:Nd):Bool:=
 decide (x.kids.length≤12)&&(Dy x.kind x.text&&((DI x.kids k&&decide x.kids.Nodup)&&(CV x.kind (x.kids.map (Al ns))&&(ER ns x&&(GW x.kind|| !x.blank)))))
def Cc(ns:List Nd)(k:Int):Bool:=Bh ns k&&HA ns k (Aa ns k)
def mx(ds:List Int):List Int→Int→Int
 |[],d=>d
 |c::l,d=>mx ds l (max d (ds.getD c.toNat 0))
def BN(ns:List Nd):Nat→Option (List Int)
 |0=>some []
 |n+1=>match BN ns n with
  |none=>none
  |some ds=>if Cc ns n then(if 14≤mx ds (Aa ns n).kids 0 then none else some (ds++[mx ds (Aa ns n).kids 0+1])) else none
def BA(ns:List Nd)(k:Int):Int:=if Bh ns k then match BN ns (k.toNat+1) with
    |none=>0
    |some ds=>ds.getD k.toNat 0
 else 0
def Cd(ns:List Nd):List Int:=ns.flatMap (·.kids)
def DZ(ns:List Nd):Bool:=
 (decide (1≤ns.length)&&decide (ns.length≤300))&&(decide (Al ns (ns.length-1)=22)&&(!decide (BA ns (ns.length-1)=0)&&((List.range (ns.length-1)).all fun i=>decide ((Cd ns).count (i:Int)=1))))
theorem Bc{l:List Nd}{k:Int}:Bh l k=true↔0≤k∧k<l.length:=by simp [Bh]
theorem Bd{ns:List Nd}{c:Int}{x:Nd}(h:ns[c.toNat]? =some x):Aa ns c=x:=by
 simp [Aa,List.getD,h]
theorem Qq(ds:List Int):∀(l:List Int) (d:Int),d≤mx ds l d
 |[],d=>Int.le_refl d
 |c::l,d=>by unfold mx;have:=Qq ds l (max d (ds.getD c.toNat 0));omega
theorem Jl{ns:List Nd}:∀ {n:Nat} {ds:List Int},BN ns n=some ds→ds.length=n
 |0,ds,h=>by cases h;rfl
 |n+1,ds,h=>by
  unfold BN at h
  split at h
  ·cases h
  ·rename_i ds' hd
   split at h
   ·split at h
    ·cases h
    ·simp at h;rw[←h];simp [Jl hd]
   ·cases h
theorem Mc{ns:List Nd}:∀ {n:Nat} {ds:List Int},BN ns n=some ds→∀d∈ds,1≤d∧d≤14
 |0,ds,h=>by cases h;simp
 |n+1,ds,h=>by
  unfold BN at h
  split at h
  ·cases h
  ·rename_i ds' hd
   split at h
   ·split at h
    ·cases h
    ·simp at h;rw[←h]
     intro d hdm
     rcases List.mem_append.1 hdm with hdm|hdm
     ·exact Mc hd d hdm
     ·simp at hdm
      have:=Qq ds' (Aa ns n).kids 0
      omega
   ·cases h
theorem Vu{ns:List Nd}:∀ {n:Nat} {ds:List Int},BN ns n=some ds→∀i,i<n→Cc ns i=true
 |0,ds,h,i,hi=>by omega
 |n+1,ds,h,i,hi=>by
  unfold BN at h
  split at h
  ·cases h
  ·rename_i ds' hd
   split at h
   ·rename_i hok
    by_cases e:i=n
    ·subst e;exact hok
    ·exact Vu hd i (by omega)
   ·cases h
theorem Vv{ns:List Nd}{n m:Nat}(h:BN ns n=none)(hm:n≤m):BN ns m=none:=by
 induction m with
 |zero=>obtain rfl:n=0:=by omega
        exact h
 |succ m ih=>
  by_cases e:n=m+1
  ·subst e;exact h
  ·unfold BN;rw[ih (by omega)]
theorem Oa{ns:List Nd}{k:Int}(h:BA ns k≠0):Bh ns k=true∧(∃ds,BN ns (k.toNat+1)=some ds)∧∀i:Nat,(i:Int)≤k→Cc ns i=true:=by
 unfold BA at h
 split at h
 ·rename_i hn
  split at h
  ·exact(h rfl).elim
  ·rename_i ds hd
   exact⟨hn,⟨ds,hd⟩,fun i hi=>Vu hd i (by have:=Bc.1 hn;omega)⟩
 ·exact(h rfl).elim
theorem Vw{ns:List Nd}{k:Int}:0≤BA ns k:=by
 unfold BA
 split
 ·split
  ·exact Int.le_refl 0
  ·rename_i ds hd
   rw[List.getD]
   cases h:ds[k.toNat]? with
   |none=>simp
   |some d=>have:=Mc hd d (List.mem_of_getElem? h);simp;omega
 ·exact Int.le_refl 0
theorem a9V{ns:List Nd}{k:Int}{ds:List Int}(hn:Bh ns k=true)(h:BN ns (k.toNat+1)=some ds):BA ns k≠0:=by
 unfold BA
 rw[if_pos hn,h]
 have hl:=Jl h
 have:ds[k.toNat]? =some ds[k.toNat]:=by simp
 simp only[List.getD,this,Option.getD_some]
 have:=Mc h ds[k.toNat] (by simp)
 omega
theorem Dc{ns:List Nd}{k:Int}(h:Cc ns k=true):(0≤k∧k<ns.length)∧(Aa ns k).kids.length≤12∧Dy (Aa ns k).kind (Aa ns k).text=true∧
 (∀c∈(Aa ns k).kids,0≤c∧c<k)∧(Aa ns k).kids.Nodup∧CV (Aa ns k).kind ((Aa ns k).kids.map (Al ns))=true∧ER ns (Aa ns k)=true:=by
 simp only[Cc,HA,Bool.and_eq_true,decide_eq_true_eq,DI,List.all_eq_true] at h
 exact⟨Bc.1 h.1,h.2.1,h.2.2.1,h.2.2.2.1.1,h.2.2.2.1.2,h.2.2.2.2.1,h.2.2.2.2.2.1⟩
end Go.My
end
section
namespace Go.My
open Go.Eng Go.Proofs Go.RowKit
variable {G:GInv}
def Cs(s:List UInt8)(c:UInt8):Int:=match DQ (fun d=>decide (d.toNat=c.toNat)) s with
 |none=> -1
 |some i=>i
theorem a0L:∀(s:List UInt8) (c:UInt8),Lib.indexByte s c=Cs s c
 |[],c=>rfl
 |b::s,c=>by
  unfold Lib.indexByte Cs DQ
  have e:(b==c)=decide (b.toNat=c.toNat):=by
   rw[Bool.eq_iff_iff];simp [UInt8.toNat_inj]
  rw[e]
  by_cases h:b.toNat=c.toNat
  ·simp [h]
  ·have ih:=a0L s c
   unfold Cs at ih
   simp only[h,decide_false,Bool.false_eq_true,if_false]
   rw[ih]
   cases hh:DQ (fun d=>decide (d.toNat=c.toNat)) s with
   |none=>simp
   |some i=>simp
set_option maxHeartbeats 1000000 in
set_option maxRecDepth 100000 in
theorem a9W(s:ByteArray)(c:Int)(w:World):
 Calls Tryz.prog 235 #[.string s,.int .u8 c] w fun e w'=>e= .returned (.int .i64 (Lib.indexByte s.data.toList c.toNat.toUInt8))∧w'=w:=by
 go_enter Tryz.func235,Tryz.ntmps235
 go_wp2
 rw[run_callFunc_extern Tryz.func245 (by kernel_rfl) (by kernel_rfl) (by kernel_rfl) (e:=Extern.BytealgIndexByte.indexByte) (by kernel_rfl),Lib.run_indexByteString]
 simp only[Result.andThen]
 rw[Oper.upon_value]
 go_wp2
 go_ret
 exact⟨rfl,rfl⟩
def Md:Sig:= {X:=List UInt8×UInt8,args:=fun x=>[.str x.1,.int .u8 x.2.toNat],pre:=fun _=>True,Y:=Unit,post:=fun _ _=>True,res:=fun x _=> .int .i64 (Cs x.1 x.2),outs:=fun _ _=>[.top,.top],keep:=false}
theorem Vx:Ah G Tryz.prog 235 Md:=by
 refine⟨⟨⟨_,Tryz.func235,by kernel_rfl,by kernel_rfl⟩,fun x y _ _=>⟨trivial,trivial,trivial,trivial⟩⟩,?_⟩
 rintro⟨l,c⟩ _ Z w vals A _ h hA _
 simp only[Md,AS,Aj] at h
 obtain⟨v,cs,A1,A2,rfl,_,⟨rfl,_⟩,v',cs',A3,A4,rfl,_,⟨rfl,_⟩,rfl,_⟩:=h
 refine(a9W ⟨l.toArray⟩ c.toNat w).mono ?_
 rintro e w' ⟨rfl,rfl⟩
 refine⟨(),_,Z,(fun _=>False),trivial,rfl,?_,⟨rfl,rfl,rfl,Nat.le_refl _,fun _ _ _=>⟨rfl,Iff.rfl⟩,fun _ h=>h.elim⟩⟩
 simp only[Md,AS,Aj]
 refine⟨_,_,_,_,rfl,BB _,⟨?_,AO⟩,_,_,_,_,rfl,BB _,AO,_,_,_,_,rfl,BB _,AO,rfl,AO⟩
 rw[a0L];simp
def Qr:Sig:= {X:=List UInt8,args:=fun x=>[.str x,.int .u8 39],pre:=fun _=>True,Y:=Unit,post:=fun _ _=>True,res:=fun x _=> .int .i64 (Cs x 39),outs:=fun _ _=>[.top,.top],keep:=false}
theorem a9X:Ah G Tryz.prog 235 Qr:=⟨⟨(Vx (G:=G)).1.1,fun x y _ _=>⟨trivial,trivial,trivial,trivial⟩⟩,fun x hx=>(Vx (G:=G)).2 (x,39) trivial⟩
def Me:Sig:= {X:=List UInt8,args:=fun x=>[.str x,.int .u8 39],pre:=fun x=>True,Y:=Unit,post:=fun x y=>True,res:=fun x y=> .int .i64 (Cs x 39),outs:=fun x y=>[.top,.top],keep:=false}
theorem a9Y:Ah G Tryz.prog 223 Me:=
 vcFun_okP [(235,0,Qr)] [] false (fun x=>[]) Tryz.func223 rfl (by decide) ⟨a9X,trivial⟩ (fun(x:List UInt8)=>(∀(y:Unit),True→True∧True∧True∧True)∧cA Qr [.str x,AV.int IntKind.u8 (39:Int)] fun x_1 y=>rA Me x [.int .i64 (Cs x_1 (39:UInt8)),.top,.top]) (fun x=>by kernel_rfl) fun(x:List UInt8) (hx:True)=>(by
 dsimp only[cA,rA,Qr,Me,Aq,Aw,mvL,lnL,mvE,lnE,mvG,mvH,lnG,lnH]
 (repeat' first|(with_reducible first|rfl|exact True.intro|apply AG|apply And.intro|((first|apply Au|apply AE|apply Av|apply AF)<;>intro _))|(apply As<;>intro _)|apply AD|refine Af () ?_ ?_|((first|apply AK|apply AJ|apply AI|apply AH|apply AC|apply AB|apply AA|apply Az|apply Ax)<;>try dsimp only)|apply Af|(refine Prod.forall.2 ?_;intro _;try dsimp only)|(intro _;try dsimp only))<;>(try dsimp only at*)<;>(try simp only[Ai,List.length_cons,List.length_nil])<;>(try omega))
def Im:Sig:= {X:=List UInt8×List UInt8,args:=fun x=>[.str x.1,.str x.2],pre:=fun x=>x.2.length=1,Y:=Unit,post:=fun x y=>True,res:=fun x y=> .int .i64 (Cs x.1 (x.2.headD 0)),outs:=fun x y=>[.top,.top],keep:=false}
theorem a9Z:Ah G Tryz.prog 249 Im:=
 vcFun_okP [(235,0,Md)] [] false (fun x=>[]) Tryz.func249 rfl (by decide) ⟨Vx,trivial⟩ (fun(x:List UInt8×List UInt8)=>(∀(y:Unit),True→True∧True∧True∧True)∧Ab ((↑(List.length x.2):Int)==(0:Int)) (rA Im x [.int .i64 (0:Int),.top,.top]) (Ab (x.2==x.1) (rA Im x [.int .i64 (0:Int),.top,.top]) (Ab ((↑(List.length x.2):Int)==(1:Int)) (((0:Int)≤(0:Int)∧(0:Int)<(↑(List.length x.2):Int))∧∀(c:UInt8),x.2[(0:Nat)]? =some c→cA Md [.str x.1,AV.int IntKind.u8 (↑(UInt8.toNat c):Int)] fun x_1 y=>rA Im x [.int .i64 (Cs x_1.1 x_1.2),.top,.top]) (Ab (decide ((↑(List.length x.2):Int)≥(↑(List.length x.1):Int))) (rA Im x [.int .i64 (-1:Int),.top,.top]) False)))) (fun x=>by kernel_rfl) fun(x:List UInt8×List UInt8) (hx:x.2.length=1)=>(by
 dsimp only[cA,rA,Md,Im,Aq,Aw,mvL,lnL,mvE,lnE,mvG,mvH,lnG,lnH]
 (repeat' first|(with_reducible first|rfl|exact True.intro|apply AG|apply And.intro|((first|apply Au|apply AE|apply Av|apply AF)<;>intro _))|(apply As<;>intro _)|apply AD|refine Af () ?_ ?_|((first|apply AK|apply AJ|apply AI|apply AH|apply AC|apply AB|apply AA|apply Az|apply Ax)<;>try dsimp only)|apply Af|(refine Prod.forall.2 ?_;intro _;try dsimp only)|(intro _;try dsimp only))<;>(try dsimp only at*)<;>(try simp only[Ai,List.length_cons,List.length_nil])<;>(try omega)
 ·rename_i _ h;rw[←h];match x.2,hx with
  |[c],_=>simp [Cs,DQ]
 ·rename_i c hc _ _
  match x.2,hx,hc with
  |[d],_,hc=>simp at hc;rw[←hc];rfl)
def Mf:Sig:= {X:=List UInt8×List UInt8,args:=fun x=>[.str x.1,.str x.2],pre:=fun x=>x.2.length=1,Y:=Unit,post:=fun x y=>True,res:=fun x y=> .int .i64 (Cs x.1 (x.2.headD 0)),outs:=fun x y=>[.top,.top],keep:=false}
theorem b0a:Ah G Tryz.prog 240 Mf:=
 vcFun_okP [(249,0,Im)] [] false (fun x=>[]) Tryz.func240 rfl (by decide) ⟨a9Z,trivial⟩ (fun(x:List UInt8×List UInt8)=>(∀(y:Unit),True→True∧True∧True∧True)∧cA Im [.str x.1,.str x.2] fun x_1 y=>rA Mf x [.int .i64 (Cs x_1.1 (List.headD x_1.2 (0:UInt8))),.top,.top]) (fun x=>by kernel_rfl) fun(x:List UInt8×List UInt8) (hx:x.2.length=1)=>(by
 dsimp only[cA,rA,Mf,Im,Aq,Aw,mvL,lnL,mvE,lnE,mvG,mvH,lnG,lnH]
 (repeat' first|(with_reducible first|rfl|exact True.intro|apply AG|apply And.intro|((first|apply Au|apply AE|apply Av|apply AF)<;>intro _))|(apply As<;>intro _)|apply AD|refine Af () ?_ ?_|((first|apply AK|apply AJ|apply AI|apply AH|apply AC|apply AB|apply AA|apply Az|apply Ax)<;>try dsimp only)|apply Af|(refine Prod.forall.2 ?_;intro _;try dsimp only)|(intro _;try dsimp only))<;>(try dsimp only at*)<;>(try simp only[Ai,List.length_cons,List.length_nil])<;>(try omega))
def Mg:Sig:= {X:=List UInt8×List UInt8,args:=fun x=>[.str x.1,.str x.2],pre:=fun x=>x.2.length=1,Y:=Unit,post:=fun x y=>True,res:=fun x y=> .bool (decide (Cs x.1 (x.2.headD 0)≥0)),outs:=fun x y=>[.top,.top],keep:=false}
theorem b0b:Ah G Tryz.prog 225 Mg:=
 vcFun_okP [(240,0,Mf)] [] false (fun x=>[]) Tryz.func225 rfl (by decide) ⟨b0a,trivial⟩ (fun(x:List UInt8×List UInt8)=>(∀(y:Unit),True→True∧True∧True∧True)∧cA Mf [.str x.1,.str x.2] fun x_1 y=>rA Mg x [.bool (decide (Cs x_1.1 (List.headD x_1.2 (0:UInt8))≥(0:Int))),.top,.top]) (fun x=>by kernel_rfl) fun(x:List UInt8×List UInt8) (hx:x.2.length=1)=>(by
 dsimp only[cA,rA,Mg,Mf,Aq,Aw,mvL,lnL,mvE,lnE,mvG,mvH,lnG,lnH]
 (repeat' first|(with_reducible first|rfl|exact True.intro|apply AG|apply And.intro|((first|apply Au|apply AE|apply Av|apply AF)<;>intro _))|(apply As<;>intro _)|apply AD|refine Af () ?_ ?_|((first|apply AK|apply AJ|apply AI|apply AH|apply AC|apply AB|apply AA|apply Az|apply Ax)<;>try dsimp only)|apply Af|(refine Prod.forall.2 ?_;intro _;try dsimp only)|(intro _;try dsimp only))<;>(try dsimp only at*)<;>(try simp only[Ai,List.length_cons,List.length_nil])<;>(try omega))
def Kj:Sig:= {X:=List UInt8×List UInt8,args:=fun x=>[.str x.1,.str x.2],pre:=fun x=>x.2.length<2^62∧x.1.length<2^63,Y:=Unit,post:=fun x y=>True,res:=fun x y=> .bool (x.1.take x.2.length==x.2),outs:=fun x y=>[.top,.top],keep:=false}
theorem b0c:Ah G Tryz.prog 214 Kj:=
 vcFun_okP [] [] false (fun x=>[]) Tryz.func214 rfl (by decide) trivial (fun(x:List UInt8×List UInt8)=>(∀(y:Unit),True→True∧True∧True∧True)∧Ab (decide ((↑(List.length x.1):Int)≥(↑(List.length x.2):Int))) (((0:Int)≤(0:Int)∧(0:Int)≤(↑(List.length x.2):Int)∧(↑(List.length x.2):Int)≤(↑(List.length x.1):Int))∧rA Kj x [.bool (List.take (Int.toNat (↑(List.length x.2):Int)) x.1==x.2),.top,.top]) (rA Kj x [.bool false,.top,.top])) (fun x=>by kernel_rfl) fun(x:List UInt8×List UInt8) (hx:x.2.length<2^62∧x.1.length<2^63)=>(by
 dsimp only[rA,Kj,Aq,Aw]
 obtain⟨h1,h2⟩:=hx
 (repeat' first|(with_reducible first|rfl|exact True.intro|apply AG|apply And.intro|((first|apply Au|apply AE|apply Av|apply AF)<;>intro _))|(apply As<;>intro _)|apply AD|refine Af () ?_ ?_|((first|apply AK|apply AJ|apply AI|apply AH|apply AC|apply AB|apply AA|apply Az|apply Ax)<;>try dsimp only)|apply Af|(refine Prod.forall.2 ?_;intro _;try dsimp only)|(intro _;try dsimp only))<;>(try dsimp only at*)<;>(try simp only[Ai,List.length_cons,List.length_nil])<;>(try omega)
 ·simp
 ·rename_i h;rw[eq_comm,beq_eq_false_iff_ne];intro e;have:=congrArg List.length e;simp at this;omega)
def Mh:Sig:= {X:=List UInt8×List UInt8,args:=fun x=>[.str x.1,.str x.2],pre:=fun x=>x.2.length<2^62∧x.1.length<2^63,Y:=Unit,post:=fun x y=>True,res:=fun x y=> .bool (x.1.take x.2.length==x.2),outs:=fun x y=>[.top,.top],keep:=false}
theorem b0d:Ah G Tryz.prog 193 Mh:=
 vcFun_okP [(214,0,Kj)] [] false (fun x=>[]) Tryz.func193 rfl (by decide) ⟨b0c,trivial⟩ (fun(x:List UInt8×List UInt8)=>(∀(y:Unit),True→True∧True∧True∧True)∧cA Kj [.str x.1,.str x.2] fun x_1 y=>rA Mh x [.bool (List.take (List.length x_1.2) x_1.1==x_1.2),.top,.top]) (fun x=>by kernel_rfl) fun(x:List UInt8×List UInt8) (hx:x.2.length<2^62∧x.1.length<2^63)=>(by
 dsimp only[cA,rA,Mh,Kj,Aq,Aw,mvL,lnL,mvE,lnE,mvG,mvH,lnG,lnH]
 obtain⟨h1,h2⟩:=hx
 (repeat' first|(with_reducible first|rfl|exact True.intro|apply AG|apply And.intro|((first|apply Au|apply AE|apply Av|apply AF)<;>intro _))|(apply As<;>intro _)|apply AD|refine Af () ?_ ?_|((first|apply AK|apply AJ|apply AI|apply AH|apply AC|apply AB|apply AA|apply Az|apply Ax)<;>try dsimp only)|apply Af|(refine Prod.forall.2 ?_;intro _;try dsimp only)|(intro _;try dsimp only))<;>(try dsimp only at*)<;>(try simp only[Ai,List.length_cons,List.length_nil])<;>(try omega))
end Go.My
end
section
namespace Go.My
open Go.Eng Go.Proofs
variable {G:GInv}
def BG:Sig:= {X:=Int×Int×Int,args:=fun x=>[.int .i64 x.1,.int .i64 x.2.1,.int .i64 x.2.2],pre:=fun x=>True,Y:=Unit,post:=fun x y=>True,res:=fun x y=> .bool (inn x.1 x.2.1 x.2.2),outs:=fun x y=>[.top,.top,.top],keep:=false}
theorem Gw:Ah G Tryz.prog 36 BG:=
 vcFun_okP [] [] false (fun x=>[]) Tryz.func36 rfl (by decide) trivial (fun(x:Int×Int×Int)=>(∀(y:Unit),True→True∧True∧True∧True∧True)∧Ab (decide (x.1≥x.2.1)) (rA BG x [.bool (decide (x.1≤x.2.2)),.top,.top,.top]) (rA BG x [.bool false,.top,.top,.top])) (fun x=>by kernel_rfl) fun(x:Int×Int×Int) (hx:True)=>(by
 dsimp only[rA,BG,Aq,Aw]
 (repeat' first|(with_reducible first|rfl|exact True.intro|apply AG|apply And.intro|((first|apply Au|apply AE|apply Av|apply AF)<;>intro _))|(apply As<;>intro _)|apply AD|refine Af () ?_ ?_|((first|apply AK|apply AJ|apply AI|apply AH|apply AC|apply AB|apply AA|apply Az|apply Ax)<;>try dsimp only)|apply Af|(refine Prod.forall.2 ?_;intro _;try dsimp only)|(intro _;try dsimp only))<;>(try dsimp only at*)<;>(try simp only[Ai,List.length_cons,List.length_nil])<;>(try omega)
 all_goals simp [inn, *])
def Bq:Sig:= {X:=Int×Int×Int,args:=fun x=>[.int .i64 x.1,.int .i64 x.2.1,.int .i64 x.2.2],pre:=fun x=>True,Y:=Unit,post:=fun x y=>True,res:=fun x y=> .bool (inn x.1 x.2.1 x.2.2),outs:=fun x y=>[.top,.top,.top],keep:=false}
theorem Gx:Ah G Tryz.prog 45 Bq:=
 vcFun_okP [] [] false (fun x=>[]) Tryz.func45 rfl (by decide) trivial (fun(x:Int×Int×Int)=>(∀(y:Unit),True→True∧True∧True∧True∧True)∧Ab (decide (x.1≥x.2.1)) (rA Bq x [.bool (decide (x.1≤x.2.2)),.top,.top,.top]) (rA Bq x [.bool false,.top,.top,.top])) (fun x=>by kernel_rfl) fun(x:Int×Int×Int) (hx:True)=>(by
 dsimp only[rA,Bq,Aq,Aw]
 (repeat' first|(with_reducible first|rfl|exact True.intro|apply AG|apply And.intro|((first|apply Au|apply AE|apply Av|apply AF)<;>intro _))|(apply As<;>intro _)|apply AD|refine Af () ?_ ?_|((first|apply AK|apply AJ|apply AI|apply AH|apply AC|apply AB|apply AA|apply Az|apply Ax)<;>try dsimp only)|apply Af|(refine Prod.forall.2 ?_;intro _;try dsimp only)|(intro _;try dsimp only))<;>(try dsimp only at*)<;>(try simp only[Ai,List.length_cons,List.length_nil])<;>(try omega)
 all_goals simp [inn, *])
def FR:Sig:= {X:=UInt8,args:=fun x=>[.int .u8 x.toNat],pre:=fun x=>True,Y:=Unit,post:=fun x y=>True,res:=fun x y=> .bool (Bu x),outs:=fun x y=>[.top],keep:=false}
theorem Vy:Ah G Tryz.prog 207 FR:=
 vcFun_okP [] [] false (fun x=>[]) Tryz.func207 rfl (by decide) trivial (fun(x:UInt8)=>(∀(y:Unit),True→True∧True∧True)∧Ab (decide ((↑(UInt8.toNat x):Int)≥(48:Int))) (rA FR x [.bool (decide ((↑(UInt8.toNat x):Int)≤(57:Int))),.top]) (rA FR x [.bool false,.top])) (fun x=>by kernel_rfl) fun(x:UInt8) (hx:True)=>(by
 dsimp only[rA,FR,Aq,Aw]
 (repeat' first|(with_reducible first|rfl|exact True.intro|apply AG|apply And.intro|((first|apply Au|apply AE|apply Av|apply AF)<;>intro _))|(apply As<;>intro _)|apply AD|refine Af () ?_ ?_|((first|apply AK|apply AJ|apply AI|apply AH|apply AC|apply AB|apply AA|apply Az|apply Ax)<;>try dsimp only)|apply Af|(refine Prod.forall.2 ?_;intro _;try dsimp only)|(intro _;try dsimp only))<;>(try dsimp only at*)<;>(try simp only[Ai,List.length_cons,List.length_nil])<;>(try omega)
 all_goals(rw[Bool.eq_iff_iff];simp only[Bu,Bool.and_eq_true,Bool.or_eq_true,decide_eq_true_eq,Bool.not_eq_true',decide_eq_false_iff_not,bne_iff_ne,ne_eq,beq_iff_eq,Bool.not_not,reduceCtorEq,Bool.false_eq_true,true_iff,false_iff,iff_true,iff_false,not_true,not_false_eq_true]<;>omega))
def HB:Sig:= {X:=UInt8,args:=fun x=>[.int .u8 x.toNat],pre:=fun x=>True,Y:=Unit,post:=fun x y=>True,res:=fun x y=> .bool (Bu x),outs:=fun x y=>[.top],keep:=false}
theorem a0M:Ah G Tryz.prog 172 HB:=
 vcFun_okP [] [] false (fun x=>[]) Tryz.func172 rfl (by decide) trivial (fun(x:UInt8)=>(∀(y:Unit),True→True∧True∧True)∧Ab (decide ((↑(UInt8.toNat x):Int)≥(48:Int))) (rA HB x [.bool (decide ((↑(UInt8.toNat x):Int)≤(57:Int))),.top]) (rA HB x [.bool false,.top])) (fun x=>by kernel_rfl) fun(x:UInt8) (hx:True)=>(by
 dsimp only[rA,HB,Aq,Aw]
 (repeat' first|(with_reducible first|rfl|exact True.intro|apply AG|apply And.intro|((first|apply Au|apply AE|apply Av|apply AF)<;>intro _))|(apply As<;>intro _)|apply AD|refine Af () ?_ ?_|((first|apply AK|apply AJ|apply AI|apply AH|apply AC|apply AB|apply AA|apply Az|apply Ax)<;>try dsimp only)|apply Af|(refine Prod.forall.2 ?_;intro _;try dsimp only)|(intro _;try dsimp only))<;>(try dsimp only at*)<;>(try simp only[Ai,List.length_cons,List.length_nil])<;>(try omega)
 all_goals(rw[Bool.eq_iff_iff];simp only[Bu,Bool.and_eq_true,Bool.or_eq_true,decide_eq_true_eq,Bool.not_eq_true',decide_eq_false_iff_not,bne_iff_ne,ne_eq,beq_iff_eq,Bool.not_not,reduceCtorEq,Bool.false_eq_true,true_iff,false_iff,iff_true,iff_false,not_true,not_false_eq_true]<;>omega))
def Fg:Sig:= {X:=UInt8,args:=fun x=>[.int .u8 x.toNat],pre:=fun x=>True,Y:=Unit,post:=fun x y=>True,res:=fun x y=> .bool (CF x),outs:=fun x y=>[.top],keep:=false}
theorem a0N:Ah G Tryz.prog 204 Fg:=
 vcFun_okP [] [] false (fun x=>[]) Tryz.func204 rfl (by decide) trivial (fun(x:UInt8)=>(∀(y:Unit),True→True∧True∧True)∧Ab (decide ((↑(UInt8.toNat x):Int)≥(97:Int))) (Ab (decide ((↑(UInt8.toNat x):Int)≤(122:Int))) (rA Fg x [.bool true,.top]) (Ab (decide ((↑(UInt8.toNat x):Int)≥(65:Int))) (Ab (decide ((↑(UInt8.toNat x):Int)≤(90:Int))) (rA Fg x [.bool true,.top]) (rA Fg x [.bool ((↑(UInt8.toNat x):Int)==(95:Int)),.top])) (rA Fg x [.bool ((↑(UInt8.toNat x):Int)==(95:Int)),.top]))) (Ab (decide ((↑(UInt8.toNat x):Int)≥(65:Int))) (Ab (decide ((↑(UInt8.toNat x):Int)≤(90:Int))) (rA Fg x [.bool true,.top]) (rA Fg x [.bool ((↑(UInt8.toNat x):Int)==(95:Int)),.top])) (rA Fg x [.bool ((↑(UInt8.toNat x):Int)==(95:Int)),.top]))) (fun x=>by kernel_rfl) fun(x:UInt8) (hx:True)=>(by
 dsimp only[rA,Fg,Aq,Aw]
 (repeat' first|(with_reducible first|rfl|exact True.intro|apply AG|apply And.intro|((first|apply Au|apply AE|apply Av|apply AF)<;>intro _))|(apply As<;>intro _)|apply AD|refine Af () ?_ ?_|((first|apply AK|apply AJ|apply AI|apply AH|apply AC|apply AB|apply AA|apply Az|apply Ax)<;>try dsimp only)|apply Af|(refine Prod.forall.2 ?_;intro _;try dsimp only)|(intro _;try dsimp only))<;>(try dsimp only at*)<;>(try simp only[Ai,List.length_cons,List.length_nil])<;>(try omega)
 all_goals(rw[Bool.eq_iff_iff];simp only[CF,Bool.and_eq_true,Bool.or_eq_true,decide_eq_true_eq,Bool.not_eq_true',decide_eq_false_iff_not,bne_iff_ne,ne_eq,beq_iff_eq,Bool.not_not,reduceCtorEq,Bool.false_eq_true,true_iff,false_iff,iff_true,iff_false,not_true,not_false_eq_true]<;>omega))
def FS:Sig:= {X:=UInt8,args:=fun x=>[.int .u8 x.toNat],pre:=fun x=>True,Y:=Unit,post:=fun x y=>True,res:=fun x y=> .bool (CF x),outs:=fun x y=>[.top],keep:=false}
theorem b0e:Ah G Tryz.prog 171 FS:=
 vcFun_okP [] [] false (fun x=>[]) Tryz.func171 rfl (by decide) trivial (fun(x:UInt8)=>(∀(y:Unit),True→True∧True∧True)∧Ab (decide ((↑(UInt8.toNat x):Int)≥(97:Int))) (Ab (decide ((↑(UInt8.toNat x):Int)≤(122:Int))) (rA FS x [.bool true,.top]) (Ab (decide ((↑(UInt8.toNat x):Int)≥(65:Int))) (Ab (decide ((↑(UInt8.toNat x):Int)≤(90:Int))) (rA FS x [.bool true,.top]) (rA FS x [.bool ((↑(UInt8.toNat x):Int)==(95:Int)),.top])) (rA FS x [.bool ((↑(UInt8.toNat x):Int)==(95:Int)),.top]))) (Ab (decide ((↑(UInt8.toNat x):Int)≥(65:Int))) (Ab (decide ((↑(UInt8.toNat x):Int)≤(90:Int))) (rA FS x [.bool true,.top]) (rA FS x [.bool ((↑(UInt8.toNat x):Int)==(95:Int)),.top])) (rA FS x [.bool ((↑(UInt8.toNat x):Int)==(95:Int)),.top]))) (fun x=>by kernel_rfl) fun(x:UInt8) (hx:True)=>(by
 dsimp only[rA,FS,Aq,Aw]
 (repeat' first|(with_reducible first|rfl|exact True.intro|apply AG|apply And.intro|((first|apply Au|apply AE|apply Av|apply AF)<;>intro _))|(apply As<;>intro _)|apply AD|refine Af () ?_ ?_|((first|apply AK|apply AJ|apply AI|apply AH|apply AC|apply AB|apply AA|apply Az|apply Ax)<;>try dsimp only)|apply Af|(refine Prod.forall.2 ?_;intro _;try dsimp only)|(intro _;try dsimp only))<;>(try dsimp only at*)<;>(try simp only[Ai,List.length_cons,List.length_nil])<;>(try omega)
 all_goals(rw[Bool.eq_iff_iff];simp only[CF,Bool.and_eq_true,Bool.or_eq_true,decide_eq_true_eq,Bool.not_eq_true',decide_eq_false_iff_not,bne_iff_ne,ne_eq,beq_iff_eq,Bool.not_not,reduceCtorEq,Bool.false_eq_true,true_iff,false_iff,iff_true,iff_false,not_true,not_false_eq_true]<;>omega))
def Kk:Sig:= {X:=UInt8,args:=fun x=>[.int .u8 x.toNat],pre:=fun x=>True,Y:=Unit,post:=fun x y=>True,res:=fun x y=> .bool (Cr x),outs:=fun x y=>[.top],keep:=false}
theorem b0f:Ah G Tryz.prog 206 Kk:=
 vcFun_okP [(204,0,Fg),(207,0,FR)] [] false (fun x=>[]) Tryz.func206 rfl (by decide) ⟨a0N,Vy,trivial⟩ (fun(x:UInt8)=>(∀(y:Unit),True→True∧True∧True)∧cA Fg [AV.int IntKind.u8 (↑(UInt8.toNat x):Int)] fun x_1 y=>Ab (CF x_1) (rA Kk x [.bool true,.top]) (cA FR [AV.int IntKind.u8 (↑(UInt8.toNat x):Int)] fun x_2 y=>rA Kk x [.bool (Bu x_2),.top])) (fun x=>by kernel_rfl) fun(x:UInt8) (hx:True)=>(by
 dsimp only[cA,rA,FR,Fg,Kk,Aq,Aw,mvL,lnL,mvE,lnE,mvG,mvH,lnG,lnH]
 (repeat' first|(with_reducible first|rfl|exact True.intro|apply AG|apply And.intro|((first|apply Au|apply AE|apply Av|apply AF)<;>intro _))|(apply As<;>intro _)|apply AD|refine Af () ?_ ?_|((first|apply AK|apply AJ|apply AI|apply AH|apply AC|apply AB|apply AA|apply Az|apply Ax)<;>try dsimp only)|apply Af|(refine Prod.forall.2 ?_;intro _;try dsimp only)|(intro _;try dsimp only))<;>(try dsimp only at*)<;>(try simp only[Ai,List.length_cons,List.length_nil])<;>(try omega)
 all_goals simp [Cr, *])
def FT:Sig:= {X:=UInt8,args:=fun x=>[.int .u8 x.toNat],pre:=fun x=>True,Y:=Unit,post:=fun x y=>True,res:=fun x y=> .bool (Bx x),outs:=fun x y=>[.top],keep:=false}
theorem Vz:Ah G Tryz.prog 85 FT:=
 vcFun_okP [] [] false (fun x=>[]) Tryz.func85 rfl (by decide) trivial (fun(x:UInt8)=>(∀(y:Unit),True→True∧True∧True)∧Ab (decide ((↑(UInt8.toNat x):Int)≥(32:Int))) (rA FT x [.bool (decide ((↑(UInt8.toNat x):Int)≤(126:Int))),.top]) (rA FT x [.bool false,.top])) (fun x=>by kernel_rfl) fun(x:UInt8) (hx:True)=>(by
 dsimp only[rA,FT,Aq,Aw]
 (repeat' first|(with_reducible first|rfl|exact True.intro|apply AG|apply And.intro|((first|apply Au|apply AE|apply Av|apply AF)<;>intro _))|(apply As<;>intro _)|apply AD|refine Af () ?_ ?_|((first|apply AK|apply AJ|apply AI|apply AH|apply AC|apply AB|apply AA|apply Az|apply Ax)<;>try dsimp only)|apply Af|(refine Prod.forall.2 ?_;intro _;try dsimp only)|(intro _;try dsimp only))<;>(try dsimp only at*)<;>(try simp only[Ai,List.length_cons,List.length_nil])<;>(try omega)
 all_goals(rw[Bool.eq_iff_iff];simp only[Bx,Bool.and_eq_true,Bool.or_eq_true,decide_eq_true_eq,Bool.not_eq_true',decide_eq_false_iff_not,bne_iff_ne,ne_eq,beq_iff_eq,Bool.not_not,reduceCtorEq,Bool.false_eq_true,true_iff,false_iff,iff_true,iff_false,not_true,not_false_eq_true]<;>omega))
def Mi:Sig:= {X:=UInt8,args:=fun x=>[.int .u8 x.toNat],pre:=fun x=>True,Y:=Unit,post:=fun x y=>True,res:=fun x y=> .bool (Cn x),outs:=fun x y=>[.top],keep:=false}
theorem b0g:Ah G Tryz.prog 209 Mi:=
 vcFun_okP [] [] false (fun x=>[]) Tryz.func209 rfl (by decide) trivial (fun(x:UInt8)=>(∀(y:Unit),True→True∧True∧True)∧rA Mi x [.bool ((↑(UInt8.toNat x):Int) != (10:Int)),.top]) (fun x=>by kernel_rfl) fun(x:UInt8) (hx:True)=>(by
 dsimp only[rA,Mi,Aq,Aw]
 (repeat' first|(with_reducible first|rfl|exact True.intro|apply AG|apply And.intro|((first|apply Au|apply AE|apply Av|apply AF)<;>intro _))|(apply As<;>intro _)|apply AD|refine Af () ?_ ?_|((first|apply AK|apply AJ|apply AI|apply AH|apply AC|apply AB|apply AA|apply Az|apply Ax)<;>try dsimp only)|apply Af|(refine Prod.forall.2 ?_;intro _;try dsimp only)|(intro _;try dsimp only))<;>(try dsimp only at*)<;>(try simp only[Ai,List.length_cons,List.length_nil])<;>(try omega)
 all_goals(rw[Bool.eq_iff_iff];simp only[Cn,Bool.and_eq_true,Bool.or_eq_true,decide_eq_true_eq,Bool.not_eq_true',decide_eq_false_iff_not,bne_iff_ne,ne_eq,beq_iff_eq,Bool.not_not,reduceCtorEq,Bool.false_eq_true,true_iff,false_iff,iff_true,iff_false,not_true,not_false_eq_true]<;>omega))
def DR(p:UInt8→Bool)(x:List UInt8)(rs:Int→List (Nat×AV)):LS:= {
 ι:=Int,inv:=fun i=>0≤i∧i≤x.length∧∀e∈x.take i.toNat,p e=true,regs:=rs,als:=[],meas:=fun i=>x.length-i.toNat}
def EE:Sig:= {X:=List UInt8,args:=fun x=>[.str x],pre:=fun x=>x.length<2^63,Y:=Unit,post:=fun x y=>True,res:=fun x y=> .bool (x.all Bx),outs:=fun x y=>[.top],keep:=false}
theorem Qs:Ah G Tryz.prog 77 EE:=
 vcFun_okP [] [] false (fun x=>[(2,DR Bx x fun i=>[(0,.str x),(3,.int .i64 i)])]) Tryz.func77 rfl (by decide) trivial (fun(x:List UInt8)=>(∀(y:Unit),True→True∧True∧True)∧eA (DR Bx x fun(i:Int)=>[((0:Nat),.str x),((3:Nat),.int .i64 i)]) [.str x,.int .i64 (0:Int)]∧∀(i:Int),((0:Int)≤i∧i≤(↑(List.length x):Int)∧∀(e:UInt8),e∈List.take (Int.toNat i) x→Bx e=true)→Ab (decide (i<(↑(List.length x):Int))) (((0:Int)≤i∧i<(↑(List.length x):Int))∧∀(c:UInt8),x[Int.toNat i]? =some c→Ab (decide ((↑(UInt8.toNat c):Int)<(32:Int))) (rA EE x [.bool false,.top]) (((0:Int)≤i∧i<(↑(List.length x):Int))∧∀(c:UInt8),x[Int.toNat i]? =some c→Ab (decide ((↑(UInt8.toNat c):Int)>(126:Int))) (rA EE x [.bool false,.top]) (inR IntKind.i64 (i+(1:Int))∧eN (DR Bx x fun(i:Int)=>[((0:Nat),.str x),((3:Nat),.int .i64 i)]) i [.str x,.int .i64 (i+(1:Int))]))) (rA EE x [.bool true,.top])) (fun x=>by kernel_rfl) fun(x:List UInt8) (hx:x.length<2^63)=>(by
 dsimp only[eA,eN,DR,rA,EE,Aq,Aw,AZ]
 (repeat' first|(with_reducible first|rfl|exact True.intro|apply AG|apply And.intro|((first|apply Au|apply AE|apply Av|apply AF)<;>intro _))|(apply As<;>intro _)|apply AD|refine Af () ?_ ?_|((first|apply AK|apply AJ|apply AI|apply AH|apply AC|apply AB|apply AA|apply Az|apply Ax)<;>try dsimp only)|apply Af|(refine Prod.forall.2 ?_;intro _;try dsimp only)|(intro _;try dsimp only))<;>(try dsimp only at*)<;>(try simp only[Ai,List.length_cons,List.length_nil])<;>(try omega)
 ·rename_i h;simp at h
 ·rename_i i hi hl c hc h;exact(Qo hc (by(rw[Bool.eq_iff_iff];simp only[Bx,Bool.and_eq_true,Bool.or_eq_true,decide_eq_true_eq,Bool.not_eq_true',decide_eq_false_iff_not,bne_iff_ne,ne_eq,beq_iff_eq,Bool.not_not,reduceCtorEq,Bool.false_eq_true,true_iff,false_iff,iff_true,iff_false,not_true,not_false_eq_true]<;>omega))).symm
 ·rename_i i hi hl c hc h d hd h2;exact(Qo hd (by(rw[Bool.eq_iff_iff];simp only[Bx,Bool.and_eq_true,Bool.or_eq_true,decide_eq_true_eq,Bool.not_eq_true',decide_eq_false_iff_not,bne_iff_ne,ne_eq,beq_iff_eq,Bool.not_not,reduceCtorEq,Bool.false_eq_true,true_iff,false_iff,iff_true,iff_false,not_true,not_false_eq_true]<;>omega))).symm
 ·rename_i i hi hl c hc h d hd h2 e he
  rw[hc] at hd;cases hd
  rw[BD hi.1] at he;exact NZ hi.2.2 hc (by(rw[Bool.eq_iff_iff];simp only[Bx,Bool.and_eq_true,Bool.or_eq_true,decide_eq_true_eq,Bool.not_eq_true',decide_eq_false_iff_not,bne_iff_ne,ne_eq,beq_iff_eq,Bool.not_not,reduceCtorEq,Bool.false_eq_true,true_iff,false_iff,iff_true,iff_false,not_true,not_false_eq_true]<;>omega)) e he
 ·rename_i i hi hl;exact(Vs hi.2.2 (by omega)).symm)
def Kl:Sig:= {X:=List UInt8,args:=fun x=>[.str x,.clo (.func 206) []],pre:=fun x=>x.length<2^63,Y:=Unit,post:=fun x y=>True,res:=fun x y=> .str (x.takeWhile Cr),outs:=fun x y=>[.top,.top],keep:=false}
theorem b0h:Ah G Tryz.prog 205 Kl:=
 vcFun_okP [(206,0,Kk)] [] false (fun x=>[(2,DR Cr x fun i=>[(0,.str x),(1,.clo (.func 206) []),(5,.int .i64 i)])]) Tryz.func205 rfl (by decide) ⟨b0f,trivial⟩ (fun(x:List UInt8)=>(∀(y:Unit),True→True∧True∧True∧True)∧eA (DR Cr x fun(i:Int)=>[((0:Nat),.str x),((1:Nat),AV.clo (Fn.func (84:FuncId)) []),((5:Nat),.int .i64 i)]) [.str x,AV.clo (Fn.func (84:FuncId)) [],.int .i64 (0:Int)]∧∀(i:Int),((0:Int)≤i∧i≤(↑(List.length x):Int)∧∀(e:UInt8),e∈List.take (Int.toNat i) x→Cr e=true)→Ab (decide (i<(↑(List.length x):Int))) (((0:Int)≤i∧i<(↑(List.length x):Int))∧∀(c:UInt8),x[Int.toNat i]? =some c→cA Kk [AV.int IntKind.u8 (↑(UInt8.toNat c):Int)] fun x_1 y=>Ab (Cr x_1) (inR IntKind.i64 (i+(1:Int))∧eN (DR Cr x fun(i:Int)=>[((0:Nat),.str x),((1:Nat),AV.clo (Fn.func (84:FuncId)) []),((5:Nat),.int .i64 i)]) i [.str x,AV.clo (Fn.func (84:FuncId)) [],.int .i64 (i+(1:Int))]) (((0:Int)≤(0:Int)∧(0:Int)≤i∧i≤(↑(List.length x):Int))∧rA Kl x [.str (List.take (Int.toNat i) x),.top,.top])) (((0:Int)≤(0:Int)∧(0:Int)≤i∧i≤(↑(List.length x):Int))∧rA Kl x [.str (List.take (Int.toNat i) x),.top,.top])) (fun x=>by kernel_rfl) fun(x:List UInt8) (hx:x.length<2^63)=>(by
 dsimp only[cA,eA,eN,DR,rA,Kk,Kl,Aq,Aw,mvL,lnL,mvE,lnE,mvG,mvH,lnG,lnH,AZ]
 (repeat' first|(with_reducible first|rfl|exact True.intro|apply AG|apply And.intro|((first|apply Au|apply AE|apply Av|apply AF)<;>intro _))|(apply As<;>intro _)|apply AD|refine Af () ?_ ?_|((first|apply AK|apply AJ|apply AI|apply AH|apply AC|apply AB|apply AA|apply Az|apply Ax)<;>try dsimp only)|apply Af|(refine Prod.forall.2 ?_;intro _;try dsimp only)|(intro _;try dsimp only))<;>(try dsimp only at*)<;>(try simp only[Ai,List.length_cons,List.length_nil])<;>(try omega)
 ·rename_i h;simp at h
 ·rename_i i hi hl c hc y _ hp e he
  rw[BD hi.1] at he;exact NZ hi.2.2 hc hp e he
 ·rename_i i hi hl c hc y _ hp
  exact Jk hi.2.2 (.inr ⟨c,hc,hp⟩)
 ·rename_i i hi hl
  exact Jk hi.2.2 (.inl (by omega)))
def Km:Sig:= {X:=List UInt8,args:=fun x=>[.str x,.clo (.func 207) []],pre:=fun x=>x.length<2^63,Y:=Unit,post:=fun x y=>True,res:=fun x y=> .str (x.takeWhile Bu),outs:=fun x y=>[.top,.top],keep:=false}
theorem b0i:Ah G Tryz.prog 205 Km:=
 vcFun_okP [(207,0,FR)] [] false (fun x=>[(2,DR Bu x fun i=>[(0,.str x),(1,.clo (.func 207) []),(5,.int .i64 i)])]) Tryz.func205 rfl (by decide) ⟨Vy,trivial⟩ (fun(x:List UInt8)=>(∀(y:Unit),True→True∧True∧True∧True)∧eA (DR Bu x fun(i:Int)=>[((0:Nat),.str x),((1:Nat),AV.clo (Fn.func (85:FuncId)) []),((5:Nat),.int .i64 i)]) [.str x,AV.clo (Fn.func (85:FuncId)) [],.int .i64 (0:Int)]∧∀(i:Int),((0:Int)≤i∧i≤(↑(List.length x):Int)∧∀(e:UInt8),e∈List.take (Int.toNat i) x→Bu e=true)→Ab (decide (i<(↑(List.length x):Int))) (((0:Int)≤i∧i<(↑(List.length x):Int))∧∀(c:UInt8),x[Int.toNat i]? =some c→cA FR [AV.int IntKind.u8 (↑(UInt8.toNat c):Int)] fun x_1 y=>Ab (Bu x_1) (inR IntKind.i64 (i+(1:Int))∧eN (DR Bu x fun(i:Int)=>[((0:Nat),.str x),((1:Nat),AV.clo (Fn.func (85:FuncId)) []),((5:Nat),.int .i64 i)]) i [.str x,AV.clo (Fn.func (85:FuncId)) [],.int .i64 (i+(1:Int))]) (((0:Int)≤(0:Int)∧(0:Int)≤i∧i≤(↑(List.length x):Int))∧rA Km x [.str (List.take (Int.toNat i) x),.top,.top])) (((0:Int)≤(0:Int)∧(0:Int)≤i∧i≤(↑(List.length x):Int))∧rA Km x [.str (List.take (Int.toNat i) x),.top,.top])) (fun x=>by kernel_rfl) fun(x:List UInt8) (hx:x.length<2^63)=>(by
 dsimp only[cA,eA,eN,DR,rA,FR,Km,Aq,Aw,mvL,lnL,mvE,lnE,mvG,mvH,lnG,lnH,AZ]
 (repeat' first|(with_reducible first|rfl|exact True.intro|apply AG|apply And.intro|((first|apply Au|apply AE|apply Av|apply AF)<;>intro _))|(apply As<;>intro _)|apply AD|refine Af () ?_ ?_|((first|apply AK|apply AJ|apply AI|apply AH|apply AC|apply AB|apply AA|apply Az|apply Ax)<;>try dsimp only)|apply Af|(refine Prod.forall.2 ?_;intro _;try dsimp only)|(intro _;try dsimp only))<;>(try dsimp only at*)<;>(try simp only[Ai,List.length_cons,List.length_nil])<;>(try omega)
 ·rename_i h;simp at h
 ·rename_i i hi hl c hc y _ hp e he
  rw[BD hi.1] at he;exact NZ hi.2.2 hc hp e he
 ·rename_i i hi hl c hc y _ hp
  exact Jk hi.2.2 (.inr ⟨c,hc,hp⟩)
 ·rename_i i hi hl
  exact Jk hi.2.2 (.inl (by omega)))
def Kn:Sig:= {X:=List UInt8,args:=fun x=>[.str x,.clo (.func 209) []],pre:=fun x=>x.length<2^63,Y:=Unit,post:=fun x y=>True,res:=fun x y=> .str (x.takeWhile Cn),outs:=fun x y=>[.top,.top],keep:=false}
theorem b0j:Ah G Tryz.prog 205 Kn:=
 vcFun_okP [(209,0,Mi)] [] false (fun x=>[(2,DR Cn x fun i=>[(0,.str x),(1,.clo (.func 209) []),(5,.int .i64 i)])]) Tryz.func205 rfl (by decide) ⟨b0g,trivial⟩ (fun(x:List UInt8)=>(∀(y:Unit),True→True∧True∧True∧True)∧eA (DR Cn x fun(i:Int)=>[((0:Nat),.str x),((1:Nat),AV.clo (Fn.func (88:FuncId)) []),((5:Nat),.int .i64 i)]) [.str x,AV.clo (Fn.func (88:FuncId)) [],.int .i64 (0:Int)]∧∀(i:Int),((0:Int)≤i∧i≤(↑(List.length x):Int)∧∀(e:UInt8),e∈List.take (Int.toNat i) x→Cn e=true)→Ab (decide (i<(↑(List.length x):Int))) (((0:Int)≤i∧i<(↑(List.length x):Int))∧∀(c:UInt8),x[Int.toNat i]? =some c→cA Mi [AV.int IntKind.u8 (↑(UInt8.toNat c):Int)] fun x_1 y=>Ab (Cn x_1) (inR IntKind.i64 (i+(1:Int))∧eN (DR Cn x fun(i:Int)=>[((0:Nat),.str x),((1:Nat),AV.clo (Fn.func (88:FuncId)) []),((5:Nat),.int .i64 i)]) i [.str x,AV.clo (Fn.func (88:FuncId)) [],.int .i64 (i+(1:Int))]) (((0:Int)≤(0:Int)∧(0:Int)≤i∧i≤(↑(List.length x):Int))∧rA Kn x [.str (List.take (Int.toNat i) x),.top,.top])) (((0:Int)≤(0:Int)∧(0:Int)≤i∧i≤(↑(List.length x):Int))∧rA Kn x [.str (List.take (Int.toNat i) x),.top,.top])) (fun x=>by kernel_rfl) fun(x:List UInt8) (hx:x.length<2^63)=>(by
 dsimp only[cA,eA,eN,DR,rA,Kn,Mi,Aq,Aw,mvL,lnL,mvE,lnE,mvG,mvH,lnG,lnH,AZ]
 (repeat' first|(with_reducible first|rfl|exact True.intro|apply AG|apply And.intro|((first|apply Au|apply AE|apply Av|apply AF)<;>intro _))|(apply As<;>intro _)|apply AD|refine Af () ?_ ?_|((first|apply AK|apply AJ|apply AI|apply AH|apply AC|apply AB|apply AA|apply Az|apply Ax)<;>try dsimp only)|apply Af|(refine Prod.forall.2 ?_;intro _;try dsimp only)|(intro _;try dsimp only))<;>(try dsimp only at*)<;>(try simp only[Ai,List.length_cons,List.length_nil])<;>(try omega)
 ·rename_i h;simp at h
 ·rename_i i hi hl c hc y _ hp e he
  rw[BD hi.1] at he;exact NZ hi.2.2 hc hp e he
 ·rename_i i hi hl c hc y _ hp
  exact Jk hi.2.2 (.inr ⟨c,hc,hp⟩)
 ·rename_i i hi hl
  exact Jk hi.2.2 (.inl (by omega)))
end Go.My
end
section
namespace Go.My
open Go.Eng
def Mj(x:List UInt8):SgR:=if DP (x.take 2) then⟨4,x.take 2,(x.take 2).length,true⟩ else if DP (x.take 1) then⟨4,x.take 1,1,true⟩ else⟨0,[],0,false⟩
def GX(x:List UInt8)(i:Int):Prop:=(0≤i∧i≤2∧i≤x.length)∧Cp x=Mj x∧∀j:Nat,i<j→j≤2→j≤x.length→DP (x.take j)=false
theorem b0k{x:List UInt8}{i:Int}(h:GX x i)(hx:1≤x.length)(h0:i>0)(hm:DP (x.take i.toNat)=true):Cp x=⟨4,x.take i.toNat,i,true⟩:=by
 obtain⟨⟨h1,h2,h3⟩,h4,h5⟩:=h
 rw[h4]
 have hi:i=1∨i=2:=by omega
 rcases hi with rfl|rfl
 ·by_cases hl:x.length=1
  ·have e:x.take 2=x.take 1:=by rw[List.take_of_length_le (by omega),List.take_of_length_le (by omega)]
   have hm':DP (x.take 1)=true:=hm
   simp only[Mj,e,hm',if_true]
   have:(x.take 1).length=1:=by simp;omega
   rw[this];rfl
  ·have:=h5 2 (by omega) (by omega) (by omega)
   have hm':DP (x.take 1)=true:=hm
   simp only[Mj,this,hm',Bool.false_eq_true,if_false,if_true];rfl
 ·have hm':DP (x.take 2)=true:=hm
  simp only[Mj,hm',if_true]
  have:(x.take 2).length=2:=by simp;omega
  rw[this];rfl
theorem b0l{x:List UInt8}{i:Int}(h:GX x i)(hx:1≤x.length)(h0:¬i>0):Cp x=⟨0,[],0,false⟩:=by
 obtain⟨⟨h1,h2,h3⟩,h4,h5⟩:=h
 rw[h4]
 have a1:=h5 1 (by omega) (by omega) hx
 have a2:DP (x.take 2)=false:=by
  by_cases hl:x.length=1
  ·have e:x.take 2=x.take 1:=by rw[List.take_of_length_le (by omega),List.take_of_length_le (by omega)]
   rw[e];exact a1
  ·exact h5 2 (by omega) (by omega) (by omega)
 simp only[Mj,a1,a2,Bool.false_eq_true,if_false]
theorem b0m{x:List UInt8}{i:Int}(h:GX x i)(h0:i>0)(hm:DP (x.take i.toNat)=false):GX x (i-1):=by
 obtain⟨⟨h1,h2,h3⟩,h4,h5⟩:=h
 refine⟨⟨by omega,by omega,by omega⟩,h4,fun j a b c=> ?_⟩
 by_cases e:(j:Int)=i
 ·have:j=i.toNat:=by omega
  rw[this];exact hm
 ·exact h5 j (by omega) b c
theorem b0n{b:UInt8}{t:List UInt8}(h1:CF b=false)(h2:Bu b=false)(h3:¬b.toNat=39)(h4:(b::t).take 2≠[47,47]):GX (b::t) (min 2 ((b::t).length:Int)):=by
 refine⟨⟨by omega,by omega,by omega⟩,?_,fun j a b c=>by omega⟩
 simp only[Cp,h1,h2,h3,h4,Bool.false_eq_true,if_false,Mj]
theorem b0o{b:UInt8}{t:List UInt8}(h:CF b=true):Cp (b::t)=⟨1,(b::t).takeWhile Cr,((b::t).takeWhile Cr).length,decide ((((b::t).takeWhile Cr).length:Int)≤30)⟩:=by
 have:decide ((((b::t).takeWhile Cr).length:Int)≤30)=decide (((b::t).takeWhile Cr).length≤30):=decide_eq_decide.2 (by omega)
 rw[this];simp [Cp,h]
theorem b0p{b:UInt8}{t:List UInt8}(h0:CF b=false)(h:Bu b=true):Cp (b::t)=⟨2,(b::t).takeWhile Bu,((b::t).takeWhile Bu).length,decide ((((b::t).takeWhile Bu).length:Int)≤12)⟩:=by
 have:decide ((((b::t).takeWhile Bu).length:Int)≤12)=decide (((b::t).takeWhile Bu).length≤12):=decide_eq_decide.2 (by omega)
 rw[this];simp [Cp,h,h0]
theorem b0q{b:UInt8}{t:List UInt8}(h0:CF b=false)(h1:Bu b=false)(h:(b.toNat:Int)=39):Cp (b::t)=⟨3,(Et (b::t)).1,(Et (b::t)).1.length,(Et (b::t)).2⟩:=by
 have h:b.toNat=39:=by omega
 simp [Cp,h0,h1,h]
theorem b0r{b:UInt8}{t:List UInt8}(h0:CF b=false)(h1:Bu b=false)(h2:(b.toNat:Int)≠39)(h:(b::t).take 2=[47,47]):
 Cp (b::t)=⟨5,CU ((b::t).takeWhile Cn),((b::t).takeWhile Cn).length,((b::t).takeWhile Cn).all Bx⟩:=by
 have h2:¬b.toNat=39:=by omega
 simp only[Cp,h0,h1,h2,h,Bool.false_eq_true,if_false,if_true]
theorem a0O(s:List UInt8)(c:UInt8):CU (s++[c])=if c.toNat=32 then CU s else s++[c]:=by
 unfold CU
 rw[List.reverse_append]
 simp only[List.reverse_cons,List.reverse_nil,List.nil_append,List.singleton_append,List.dropWhile_cons]
 by_cases h:c.toNat=32
 ·simp [h]
 ·simp [h]
theorem b0s{s:List UInt8}{c:UInt8}(h:s[s.length-1]? =some c):s=s.take (s.length-1)++[c]:=by
 have h1:=CT h
 have:s.length-1+1=s.length:=by
  have:=(List.getElem?_eq_some_iff.1 h).1;omega
 rw[this,List.take_length] at h1
 exact h1
theorem a0P{s:List UInt8}{c:UInt8}(h:s[s.length-1]? =some c):CU s=if c.toNat=32 then CU (s.take (s.length-1)) else s:=by
 have h1:=b0s h
 rw[h1,a0O]
 split
 ·rw[List.length_append];simp
 ·rfl
theorem a0Q{s:List UInt8}{n:Nat}{c:UInt8}(h:s[n]? =some c):CU (s.take (n+1))=if c.toNat=32 then CU (s.take n) else s.take (n+1):=by
 rw[CT h,a0O]
def isQ(c:UInt8):Bool:=decide (c.toNat=39)
def DA(s:List UInt8):Nat:=match DQ isQ (s.drop 1) with
 |none=>0
 |some i=>if((s.drop 1).take i).all Bx then i+2 else 0
def DJ(s:List UInt8):Nat:=if s.take 2=[47,47] then(if(s.takeWhile Cn).all Bx then(s.takeWhile Cn).length else 0) else 0
theorem a0R(s:List UInt8):Et s=match DQ isQ (s.drop 1) with
 |none=>([],false)
 |some i=>(s.take (i+2),(s.take (i+2)).all Bx):=rfl
theorem a0S{c:UInt8}(h:isQ c=true):Bx c=true:=by
 simp [isQ] at h;simp [Bx,h]
theorem a0T{p:UInt8→Bool}{s:List UInt8}{i:Nat}(h:DQ p s=some i):i<s.length:=by
 obtain⟨_,e,he,_⟩:=Ki.1 h
 exact(List.getElem?_eq_some_iff.1 he).1
theorem a0U{c:UInt8}{s:List UInt8}(hc:isQ c=true):(Et (c::s)).2=true↔DA (c::s)≠0:=by
 rw[a0R];unfold DA
 simp only[List.drop_succ_cons,List.drop_zero]
 cases h:DQ isQ s with
 |none=>simp
 |some i=>
  simp only[List.take_succ_cons,List.all_cons,a0S hc,Bool.true_and]
  obtain⟨h1,e,he,hq⟩:=Ki.1 h
  rw[CT he,List.all_append]
  simp [a0S hq]
theorem b0t{c:UInt8}{s:List UInt8}(hc:isQ c=true)(h:DA (c::s)≠0):(Et (c::s)).1=(c::s).take (DA (c::s))∧DA (c::s)≤(c::s).length:=by
 rw[a0R];unfold DA at h ⊢
 simp only[List.drop_succ_cons,List.drop_zero] at h ⊢
 cases hi:DQ isQ s with
 |none=>rw[hi] at h;simp at h
 |some i=>
  rw[hi] at h
  simp only at h ⊢
  split at h
  ·rename_i hp
   have:=a0T hi
   rw[if_pos hp]
   exact⟨rfl,by simp;omega⟩
  ·exact(h rfl).elim
theorem b0u{c:UInt8}(h:CF c=true):Bu c=false:=by
 simp [CF,Bu] at h ⊢;omega
theorem VA(s:List UInt8):BX s 1=match s with
 |[]=>false
 |c::_=>CF c&&(s.all Cr&&decide (s.length≤30)):=by
 cases s with
 |nil=>rfl
 |cons c t=>
  by_cases hc:CF c=true
  ·simp only[BX,Cp,hc,if_true,Bool.true_and]
   by_cases ha:(c::t).all Cr=true
   ·have:=Qp.2 ha
    rw[this,ha];simp
   ·have hn:¬(c::t).takeWhile Cr=c::t:=fun e=>ha (Qp.1 e)
    simp only[Bool.not_eq_true] at ha
    rw[ha]
    have:((c::t).takeWhile Cr==c::t)=false:=by rw[beq_eq_false_iff_ne];exact hn
    rw[this];simp
  ·simp only[Bool.not_eq_true] at hc
   simp only[hc,Bool.false_and]
   rw[Bool.eq_false_iff]
   intro h
   simp only[BX,Cp,hc,Bool.false_eq_true,if_false,Bool.and_eq_true,decide_eq_true_eq] at h
   have h1:=h.2.2.1
   repeat' split at h1
   all_goals simp at h1
theorem VB(s:List UInt8):BX s 2=(s.all Bu&&(decide (1≤s.length)&&decide (s.length≤12))):=by
 cases s with
 |nil=>rfl
 |cons c t=>
  by_cases hc:CF c=true
  ·have hf:=b0u hc
   simp only[List.all_cons,hf,Bool.false_and]
   simp [BX,Cp,hc]
  ·simp only[Bool.not_eq_true] at hc
   by_cases hf:Bu c=true
   ·simp only[BX,Cp,hc,hf,Bool.false_eq_true,if_false,if_true]
    by_cases ha:(c::t).all Bu=true
    ·have:=Qp.2 ha
     rw[this,ha];simp
    ·have hn:¬(c::t).takeWhile Bu=c::t:=fun e=>ha (Qp.1 e)
     simp only[Bool.not_eq_true] at ha
     rw[ha]
     have:((c::t).takeWhile Bu==c::t)=false:=by rw[beq_eq_false_iff_ne];exact hn
     rw[this];simp
   ·simp only[Bool.not_eq_true] at hf
    simp only[List.all_cons,hf,Bool.false_and]
    rw[Bool.eq_false_iff]
    intro h
    simp only[BX,Cp,hc,hf,Bool.false_eq_true,if_false,Bool.and_eq_true,decide_eq_true_eq] at h
    have h1:=h.2.2.1
    repeat' split at h1
    all_goals simp at h1
theorem Qt(s:List UInt8):BX s 3=match s with
 |[]=>false
 |c::_=>isQ c&&(decide (1<s.length)&&decide (DA s=s.length)):=by
 cases s with
 |nil=>rfl
 |cons c t=>
  by_cases hq:isQ c=true
  ·have h39:c.toNat=39:=by simpa [isQ] using hq
   have hc:CF c=false:=by simp [CF];omega
   have hf:Bu c=false:=by simp [Bu];omega
   simp only[hq,Bool.true_and]
   simp only[BX,Cp,hc,hf,h39,Bool.false_eq_true,if_false,if_true]
   by_cases h0:DA (c::t)=0
   ·have h2:(Et (c::t)).2=false:=by
     rw[Bool.eq_false_iff];intro h;exact(a0U hq).1 h h0
    rw[h2,h0];simp
   ·have h2:=(a0U hq).2 h0
    obtain⟨h3,h4⟩:=b0t hq h0
    have h5:1<DA (c::t):=by
     unfold DA at h0 ⊢
     split at h0
     ·exact(h0 rfl).elim
     ·split at h0
      ·rename_i hp;rw[if_pos hp];omega
      ·exact(h0 rfl).elim
    rw[h2,h3]
    rw[Bool.eq_iff_iff]
    simp only[Bool.and_eq_true,Bool.not_eq_true',decide_eq_true_eq,beq_iff_eq,List.length_take]
    constructor
    ·rintro⟨_,_,_,e,hl⟩
     have:=congrArg List.length e
     simp only[List.length_take] at this
     constructor<;>omega
    ·rintro⟨h6,h7⟩
     refine⟨by simp,trivial,trivial,?_,?_⟩
     ·rw[h7,List.take_length]
     ·omega
  ·simp only[Bool.not_eq_true] at hq
   have h39:¬c.toNat=39:=by simpa [isQ] using hq
   simp only[hq,Bool.false_and]
   rw[Bool.eq_false_iff]
   intro h
   simp only[BX,Cp,h39,if_false,Bool.and_eq_true,decide_eq_true_eq] at h
   have h1:=h.2.2.1
   repeat' split at h1
   all_goals simp at h1
theorem VC(s:List UInt8):BX s 5=(decide (1<s.length)&&(decide (DJ s=s.length)&&(CU s==s))):=by
 cases s with
 |nil=>rfl
 |cons c t=>
  by_cases hp:(c::t).take 2=[47,47]
  ·have h47:c=47:=by
    have:=congrArg (fun l:List UInt8=>l.head?) hp
    simpa using this
   subst h47
   have hl:1<(47::t).length:=by
    have:=congrArg List.length hp
    simp only[List.length_take,List.length_cons,List.length_nil] at this ⊢;omega
   have hc:CF 47=false:=by decide
   have hf:Bu 47=false:=by decide
   have hq:¬(47:UInt8).toNat=39:=by decide
   simp only[BX,Cp,hc,hf,hq,hp,Bool.false_eq_true,if_false,if_true,DJ]
   rw[Bool.eq_iff_iff]
   simp only[Bool.and_eq_true,Bool.not_eq_true',decide_eq_true_eq,beq_iff_eq,beq_eq_false_iff_ne]
   constructor
   ·rintro⟨_,h1,_,h2,h3⟩
    rw[if_pos h1]
    have h3:((47::t).takeWhile Cn).length=(47::t).length:=by omega
    refine⟨hl,h3,?_⟩
    have e:(47::t).takeWhile Cn=47::t:=by
     have:=List.takeWhile_prefix (p:=Cn) (l:=47::t)
     exact List.IsPrefix.eq_of_length this h3
    rw[e] at h2;exact h2
   ·rintro⟨_,h1,h2⟩
    split at h1
    ·rename_i h3
     have e:(47::t).takeWhile Cn=47::t:=by
      have:=List.takeWhile_prefix (p:=Cn) (l:=47::t)
      exact List.IsPrefix.eq_of_length this h1
     rw[e] at h3 ⊢
     exact⟨by simp,h3,trivial,h2,rfl⟩
    ·simp at h1
  ·have h0:DJ (c::t)=0:=by simp only[DJ,if_neg hp]
   rw[h0]
   have:decide (0=(c::t).length)=false:=by simp
   rw[this]
   simp only[Bool.false_and,Bool.and_false]
   rw[Bool.eq_false_iff]
   intro h
   simp only[BX,Cp,hp,if_false,Bool.and_eq_true,decide_eq_true_eq] at h
   have h1:=h.2.2.1
   repeat' split at h1
   all_goals simp at h1
theorem b0v{s:List UInt8}{m:Nat}{e:UInt8}(h:∀e∈(s.drop 1).take m,isQ e=false∧Bx e=true)(he:(s.drop 1)[m]? =some e)(hq:isQ e=true):DA s=m+2:=by
 unfold DA
 rw[Ki.2 ⟨fun e he=>(h e he).1,e,he,hq⟩]
 simp only
 rw[if_pos (List.all_eq_true.2 fun e he=>(h e he).2)]
theorem b0w{s:List UInt8}{m:Nat}{e:UInt8}(h:∀e∈(s.drop 1).take m,isQ e=false∧Bx e=true)(he:(s.drop 1)[m]? =some e)(hq:isQ e=false)(hp:Bx e=false):DA s=0:=by
 unfold DA
 cases hi:DQ isQ (s.drop 1) with
 |none=>rfl
 |some i=>
  simp only
  obtain⟨h1,d,hd,hdq⟩:=Ki.1 hi
  rw[if_neg]
  intro hall
  have hmi:m<i:=by
   rcases Nat.lt_trichotomy m i with h'|h'|h'
   ·exact h'
   ·subst h';rw[he] at hd;cases hd;rw[hq] at hdq;cases hdq
   ·have:d∈(s.drop 1).take m:=by
     rw[List.mem_take_iff_getElem]
     obtain⟨a,b⟩:=List.getElem?_eq_some_iff.1 hd
     exact⟨i,by omega,b⟩
    rw[(h d this).1] at hdq;cases hdq
  have:e∈(s.drop 1).take i:=by
   rw[List.mem_take_iff_getElem]
   obtain⟨a,b⟩:=List.getElem?_eq_some_iff.1 he
   exact⟨m,by omega,b⟩
  rw[List.all_eq_true.1 hall e this] at hp;cases hp
theorem b0x{s:List UInt8}{m:Nat}(h:∀e∈(s.drop 1).take m,isQ e=false∧Bx e=true)(hl:(s.drop 1).length≤m):DA s=0:=by
 unfold DA
 rw[List.take_of_length_le hl] at h
 rw[Vt.2 fun e he=>(h e he).1]
theorem a0V{s:List UInt8}{m:Nat}(hp:s.take 2=[47,47])(h:∀e∈s.take m,Cn e=true∧Bx e=true)(he:s.length≤m∨∃e,s[m]? =some e∧Cn e=false)(hm:m≤s.length):DJ s=m:=by
 have h1:=Jk (fun e he=>(h e he).1) he
 unfold DJ
 rw[if_pos hp,←h1,if_pos (List.all_eq_true.2 fun e he=>(h e he).2),List.length_take];omega
theorem b0y{s:List UInt8}{m:Nat}{e:UInt8}(hp:s.take 2=[47,47])(h:∀e∈s.take m,Cn e=true∧Bx e=true)(he:s[m]? =some e)(hn:Cn e=true)(hq:Bx e=false):DJ s=0:=by
 unfold DJ
 rw[if_pos hp,if_neg]
 intro hall
 have:e∈s.takeWhile Cn:=by
  have h2:s=s.take m++e::s.drop (m+1):=by rw[←Dq he,List.take_append_drop]
  rw[h2,List.takeWhile_append_of_pos (fun e he=>(h e he).1),List.takeWhile_cons,if_pos hn]
  simp
 rw[List.all_eq_true.1 hall e this] at hq;cases hq
theorem a0W{s:List UInt8}(hp:s.take 2≠[47,47]):DJ s=0:=by
 unfold DJ;rw[if_neg hp]
theorem VD{s:List UInt8}{a n:Int}(h0:0≤a)(h:a+1≤n):((s.drop a.toNat).drop 1)[(n-a-1).toNat]? =s[n.toNat]? :=by
 rw[List.getElem?_drop,List.getElem?_drop];congr 1;omega
theorem VE{s:List UInt8}{a n:Int}(h0:0≤a)(h:a≤n):(s.drop a.toNat)[(n-a).toNat]? =s[n.toNat]? :=by
 rw[List.getElem?_drop];congr 1;omega
theorem VF{p:UInt8→Prop}{s:List UInt8}{m k:Nat}{e:UInt8}(h:∀e∈s.take m,p e)(he:s[m]? =some e)(hp:p e)(hk:k=m+1):∀e∈s.take k,p e:=by
 subst hk
 rw[CT he];intro x hx
 rcases List.mem_append.1 hx with hx|hx
 ·exact h x hx
 ·simp at hx;subst hx;exact hp
def qI(x:List UInt8×Int)(i:Int):Prop:=x.2+1≤i∧(i≤x.1.length∨i=x.2+1)∧∀e∈((x.1.drop x.2.toNat).drop 1).take (i-x.2-1).toNat,isQ e=false∧Bx e=true
theorem b0z{x:List UInt8×Int}:qI x (x.2+1):=by
 refine⟨by omega,.inr rfl,fun e he=> ?_⟩
 rw[show(x.2+1-x.2-1).toNat=0 by omega] at he;simp at he
theorem b0A{x:List UInt8×Int}{i:Int}(h:qI x i):x.2+1≤i∧(i≤x.1.length∨i=x.2+1):=⟨h.1,h.2.1⟩
theorem b0B{x:List UInt8×Int}{i:Int}{c:UInt8}(h0:0≤x.2)(h:qI x i)(hq:(c.toNat:Int)=39)(hc:x.1[i.toNat]? =some c):i+1-x.2=DA (x.1.drop x.2.toNat):=by
 have:=h.1
 rw[b0v h.2.2 (by rw[VD h0 h.1];exact hc) (by simp [isQ];omega)];omega
theorem b0C{x:List UInt8×Int}{i:Int}{c d:UInt8}(h0:0≤x.2)(h:qI x i)(hq:(c.toNat:Int)≠39)(hc:x.1[i.toNat]? =some c)(hp:Bx d=false)(hd:x.1[i.toNat]? =some d):0=(DA (x.1.drop x.2.toNat):Int):=by
 rw[hc] at hd;cases hd
 rw[b0w h.2.2 (by rw[VD h0 h.1];exact hc) (by simp [isQ];omega) hp];rfl
theorem b0D{x:List UInt8×Int}{i:Int}{c d:UInt8}(h0:0≤x.2)(h:qI x i)(hl:i<x.1.length)(hq:(c.toNat:Int)≠39)(hc:x.1[i.toNat]? =some c)(hp:Bx d=true)(hd:x.1[i.toNat]? =some d):qI x (i+1):=by
 rw[hc] at hd;cases hd
 have:=h.1
 exact⟨by omega,.inl (by omega),VF (p:=fun e=>isQ e=false∧Bx e=true) h.2.2 (by rw[VD h0 h.1];exact hc) ⟨by simp [isQ];omega,hp⟩ (by omega)⟩
theorem b0E{x:List UInt8×Int}{i:Int}(h0:0≤x.2)(h:qI x i)(hl:¬i<x.1.length):0=(DA (x.1.drop x.2.toNat):Int):=by
 rw[b0x h.2.2 (by simp;omega)];rfl
def nI(x:List UInt8×Int)(i:Int):Prop:=(x.2≤i∧i≤x.1.length)∧(x.1.drop x.2.toNat).take 2=[47,47]∧∀e∈(x.1.drop x.2.toNat).take (i-x.2).toNat,Cn e=true∧Bx e=true
theorem a0X{x:List UInt8×Int}(h0:0≤x.2):List.drop x.2.toNat (List.take (x.2+2).toNat x.1)=(x.1.drop x.2.toNat).take 2:=by
 rw[List.drop_take];congr 1;omega
theorem b0F{x:List UInt8×Int}(h0:0≤x.2)(hl:x.2≤x.1.length)(h:(List.drop x.2.toNat (List.take (x.2+2).toNat x.1)==[47,47])=true):nI x x.2:=by
 rw[a0X h0] at h
 refine⟨⟨by omega,hl⟩,by simpa using h,fun e he=> ?_⟩
 rw[show(x.2-x.2).toNat=0 by omega] at he;simp at he
theorem b0G{x:List UInt8×Int}(h0:0≤x.2)(h:(List.drop x.2.toNat (List.take (x.2+2).toNat x.1)==[47,47])=false):0=(DJ (x.1.drop x.2.toNat):Int):=by
 rw[a0X h0] at h
 rw[a0W (by simpa using h)];rfl
theorem b0H{x:List UInt8×Int}(h0:0≤x.2)(h:x.2+2>x.1.length):0=(DJ (x.1.drop x.2.toNat):Int):=by
 rw[a0W]
 ·rfl
 ·intro e;have:=congrArg List.length e;simp at this;omega
theorem b0I{x:List UInt8×Int}{i:Int}{c d:UInt8}(h0:0≤x.2)(h:nI x i)(hn:(c.toNat:Int)≠10)(hc:x.1[i.toNat]? =some c)(hp:Bx d=false)(hd:x.1[i.toNat]? =some d):0=(DJ (x.1.drop x.2.toNat):Int):=by
 rw[hc] at hd;cases hd
 rw[b0y h.2.1 h.2.2 (by rw[VE h0 h.1.1];exact hc) (by simp [Cn];omega) hp];rfl
theorem b0J{x:List UInt8×Int}{i:Int}{c d:UInt8}(h0:0≤x.2)(h:nI x i)(hl:i<x.1.length)(hn:(c.toNat:Int)≠10)(hc:x.1[i.toNat]? =some c)(hp:Bx d=true)(hd:x.1[i.toNat]? =some d):nI x (i+1):=by
 rw[hc] at hd;cases hd
 have:=h.1
 exact⟨by omega,h.2.1,VF (p:=fun e=>Cn e=true∧Bx e=true) h.2.2 (by rw[VE h0 h.1.1];exact hc) ⟨by simp [Cn];omega,hp⟩ (by omega)⟩
theorem b0K{x:List UInt8×Int}{i:Int}{c:UInt8}(h0:0≤x.2)(h:nI x i)(hn:(c.toNat:Int)=10)(hc:x.1[i.toNat]? =some c):i-x.2=(DJ (x.1.drop x.2.toNat):Int):=by
 have:=h.1
 have hl:=(List.getElem?_eq_some_iff.1 hc).1
 rw[a0V h.2.1 h.2.2 (.inr ⟨c,by rw[VE h0 h.1.1];exact hc,by simp [Cn];omega⟩) (by simp;omega)];omega
theorem b0L{x:List UInt8×Int}{i:Int}(h0:0≤x.2)(h:nI x i)(hl:¬i<x.1.length):i-x.2=(DJ (x.1.drop x.2.toNat):Int):=by
 have:=h.1
 rw[a0V h.2.1 h.2.2 (.inl (by simp;omega)) (by simp;omega)];omega
def nmI(x:List UInt8)(i:Int):Prop:=(0≤i∧i≤x.length)∧(inn x.length 1 30=true∧CF (x.headD 0)=true∧kw x=false)∧∀e∈x.take i.toNat,Cr e=true
theorem VG{x:List UInt8}:Da x=true↔(inn x.length 1 30=true∧CF (x.headD 0)=true∧kw x=false)∧x.all Cr=true:=by
 unfold Da
 rw[VA]
 cases x with
 |nil=>simp [inn]
 |cons c t=>
  simp only[inn,Bool.and_eq_true,decide_eq_true_eq,Bool.not_eq_true',List.headD_cons,List.length_cons]
  constructor
  ·rintro⟨⟨h1,h2,h3⟩,h4⟩;exact⟨⟨⟨by omega,by omega⟩,h1,h4⟩,h2⟩
  ·rintro⟨⟨⟨h1,h2⟩,h3,h4⟩,h5⟩;exact⟨⟨h3,h5,by omega⟩,h4⟩
theorem a0Y{x:List UInt8}{c:UInt8}(h:x[0]? =some c):x.headD 0=c:=by cases x<;>simp_all
theorem VH{x:List UInt8}(h:¬(inn x.length 1 30=true∧CF (x.headD 0)=true∧kw x=false)):false=Da x:=by
 symm;rw[Bool.eq_false_iff];intro hn;exact h (VG.1 hn).1
theorem b0M{x:List UInt8}(h:inn x.length 1 30=true)(h1:CF (x.headD 0)=true)(h2:kw x=false):nmI x 0:=⟨by omega,⟨h,h1,h2⟩,fun e he=>by simp at he⟩
theorem a0Z{x:List UInt8}{i:Int}{c:UInt8}(h:nmI x i)(hc:x[i.toNat]? =some c)(hl:i<x.length)(hp:Cr c=true):nmI x (i+1):=by
 have:=h.1
 exact⟨by omega,h.2.1,VF (p:=fun e=>Cr e=true) h.2.2 hc hp (by omega)⟩
theorem b0N{x:List UInt8}{i:Int}{c:UInt8}(h:nmI x i)(hc:x[i.toNat]? =some c)(hp:Cr c=false):false=Da x:=by
 symm;rw[Bool.eq_false_iff];intro hn
 have:=(VG.1 hn).2
 rw[Qo hc hp] at this;cases this
theorem b0O{x:List UInt8}{i:Int}(h:nmI x i)(hl:¬i<x.length):true=Da x:=by
 symm;rw[VG];exact⟨h.2.1,Vs h.2.2 (by omega)⟩
theorem b0P{x:List UInt8}{c:UInt8}(h1:(x.length:Int)>1)(hq:(c.toNat:Int)=39)(h:x[0]? =some c):((DA x:Int)==(x.length:Int))=BX x 3:=by
 cases x with
 |nil=>cases h
 |cons d t=>
  have:d=c:=by simpa using h
  subst this
  have e:isQ d=true:=by simp [isQ];omega
  rw[Qt,Bool.eq_iff_iff]
  simp [e] at h1 ⊢;omega
theorem b0Q{x:List UInt8}{c:UInt8}(hq:(c.toNat:Int)≠39)(h:x[0]? =some c):false=BX x 3:=by
 cases x with
 |nil=>cases h
 |cons d t=>
  have:d=c:=by simpa using h
  subst this
  have e:isQ d=false:=by simp [isQ];omega
  rw[Qt];simp [e]
theorem b0R{x:List UInt8}(h1:¬(x.length:Int)>1):false=BX x 3:=by
 rw[Qt]
 cases x with
 |nil=>rfl
 |cons d t=>
  have:decide (1<(d::t).length)=false:=decide_eq_false (by omega)
  simp only[this,Bool.false_and,Bool.and_false]
theorem b0S{x:List UInt8}(h1:(x.length:Int)>1)(h2:(DJ x:Int)=x.length):(CU x==x)=BX x 5:=by
 rw[VC]
 have e1:decide (1<x.length)=true:=decide_eq_true (by omega)
 have e2:decide (DJ x=x.length)=true:=decide_eq_true (by omega)
 simp [e1,e2]
theorem b0T{x:List UInt8}(h2:(DJ x:Int)≠x.length):false=BX x 5:=by
 rw[VC]
 have e2:decide (DJ x=x.length)=false:=decide_eq_false (by omega)
 simp only[e2,Bool.false_and,Bool.and_false]
theorem b0U{x:List UInt8}(h1:¬(x.length:Int)>1):false=BX x 5:=by
 rw[VC]
 have e2:decide (1<x.length)=false:=decide_eq_false (by omega)
 simp only[e2,Bool.false_and]
end Go.My
end
section
namespace Go.My
open Go.Eng Go.Proofs
variable {G:GInv}
def Gy:Sig:= {X:=List UInt8,args:=fun x=>[.str x],pre:=fun x=>True,Y:=Unit,post:=fun x y=>True,res:=fun x y=> .bool (kw x),outs:=fun x y=>[.top],keep:=false}
theorem b0V:Ah G Tryz.prog 189 Gy:=
 vcFun_okP [] [] false (fun x=>[]) Tryz.func189 rfl (by decide) trivial (fun(x:List UInt8)=>(∀(y:Unit),True→True∧True∧True)∧Ab (x== #[(99:UInt8),(108:UInt8),(97:UInt8),(115:UInt8),(115:UInt8)].toList) (rA Gy x [.bool true,.top]) (Ab (x== #[(118:UInt8),(97:UInt8),(114:UInt8)].toList) (rA Gy x [.bool true,.top]) (Ab (x== #[(105:UInt8),(102:UInt8)].toList) (rA Gy x [.bool true,.top]) (Ab (x== #[(101:UInt8),(108:UInt8),(115:UInt8),(101:UInt8)].toList) (rA Gy x [.bool true,.top]) (Ab (x== #[(119:UInt8),(104:UInt8),(105:UInt8),(108:UInt8),(101:UInt8)].toList) (rA Gy x [.bool true,.top]) (Ab (x== #[(114:UInt8),(101:UInt8),(116:UInt8),(117:UInt8),(114:UInt8),(110:UInt8)].toList) (rA Gy x [.bool true,.top]) (rA Gy x [.bool false,.top]))))))) (fun x=>by kernel_rfl) fun(x:List UInt8) (hx:True)=>(by
 dsimp only[rA,Gy,Aq,Aw]
 (repeat' first|(with_reducible first|rfl|exact True.intro|apply AG|apply And.intro|((first|apply Au|apply AE|apply Av|apply AF)<;>intro _))|(apply As<;>intro _)|apply AD|refine Af () ?_ ?_|((first|apply AK|apply AJ|apply AI|apply AH|apply AC|apply AB|apply AA|apply Az|apply Ax)<;>try dsimp only)|apply Af|(refine Prod.forall.2 ?_;intro _;try dsimp only)|(intro _;try dsimp only))<;>(try dsimp only at*)<;>(try simp only[Ai,List.length_cons,List.length_nil])<;>(try omega)
 all_goals simp [kw, *])
def Gz:Sig:= {X:=List UInt8,args:=fun x=>[.str x],pre:=fun x=>True,Y:=Unit,post:=fun x y=>True,res:=fun x y=> .bool (kw x),outs:=fun x y=>[.top],keep:=false}
theorem b0W:Ah G Tryz.prog 175 Gz:=
 vcFun_okP [] [] false (fun x=>[]) Tryz.func175 rfl (by decide) trivial (fun(x:List UInt8)=>(∀(y:Unit),True→True∧True∧True)∧Ab (x== #[(99:UInt8),(108:UInt8),(97:UInt8),(115:UInt8),(115:UInt8)].toList) (rA Gz x [.bool true,.top]) (Ab (x== #[(118:UInt8),(97:UInt8),(114:UInt8)].toList) (rA Gz x [.bool true,.top]) (Ab (x== #[(105:UInt8),(102:UInt8)].toList) (rA Gz x [.bool true,.top]) (Ab (x== #[(101:UInt8),(108:UInt8),(115:UInt8),(101:UInt8)].toList) (rA Gz x [.bool true,.top]) (Ab (x== #[(119:UInt8),(104:UInt8),(105:UInt8),(108:UInt8),(101:UInt8)].toList) (rA Gz x [.bool true,.top]) (Ab (x== #[(114:UInt8),(101:UInt8),(116:UInt8),(117:UInt8),(114:UInt8),(110:UInt8)].toList) (rA Gz x [.bool true,.top]) (rA Gz x [.bool false,.top]))))))) (fun x=>by kernel_rfl) fun(x:List UInt8) (hx:True)=>(by
 dsimp only[rA,Gz,Aq,Aw]
 (repeat' first|(with_reducible first|rfl|exact True.intro|apply AG|apply And.intro|((first|apply Au|apply AE|apply Av|apply AF)<;>intro _))|(apply As<;>intro _)|apply AD|refine Af () ?_ ?_|((first|apply AK|apply AJ|apply AI|apply AH|apply AC|apply AB|apply AA|apply Az|apply Ax)<;>try dsimp only)|apply Af|(refine Prod.forall.2 ?_;intro _;try dsimp only)|(intro _;try dsimp only))<;>(try dsimp only at*)<;>(try simp only[Ai,List.length_cons,List.length_nil])<;>(try omega)
 all_goals simp [kw, *])
theorem b0X{c:UInt8}:decide (Cs mk1 c≥0)=mk1.elem c:=by
 unfold Cs
 cases h:DQ (fun d=>decide (d.toNat=c.toNat)) mk1 with
 |none=>
  have:=Vt.1 h
  symm
  simp only[Int.reduceNeg,ge_iff_le,Int.reduceLE,decide_false]
  rw[Bool.eq_false_iff]
  intro h2
  have h3:=this c (by simpa using h2)
  simp at h3
 |some i=>
  obtain⟨_,e,he,hq⟩:=Ki.1 h
  have h3:e=c:=by simpa [UInt8.toNat_inj] using hq
  subst h3
  have:=List.mem_of_getElem? he
  simp [this]
def GA:Sig:= {X:=List UInt8,args:=fun x=>[.str x],pre:=fun x=>x.length<2^63,Y:=Unit,post:=fun x y=>True,res:=fun x y=> .bool (DP x),outs:=fun x y=>[.top],keep:=false}
theorem b0Y:Ah G Tryz.prog 211 GA:=
 vcFun_okP [(225,0,Mg)] [] false (fun x=>[]) Tryz.func211 rfl (by decide) ⟨b0b,trivial⟩ (fun(x:List UInt8)=>(∀(y:Unit),True→True∧True∧True)∧Ab (x== #[(38:UInt8),(38:UInt8)].toList) (rA GA x [.bool true,.top]) (Ab (x== #[(124:UInt8),(124:UInt8)].toList) (rA GA x [.bool true,.top]) (Ab (x== #[(61:UInt8),(61:UInt8)].toList) (rA GA x [.bool true,.top]) (Ab (x== #[(61:UInt8),(62:UInt8)].toList) (rA GA x [.bool true,.top]) (Ab (x== #[(46:UInt8),(46:UInt8)].toList) (rA GA x [.bool true,.top]) (Ab ((↑(List.length x):Int)==(1:Int)) (cA Mg [.str #[(40:UInt8),(41:UInt8),(123:UInt8),(125:UInt8),(91:UInt8),(93:UInt8),(59:UInt8),(44:UInt8),(46:UInt8),(61:UInt8),(43:UInt8),(45:UInt8),(42:UInt8),(60:UInt8),(63:UInt8),(58:UInt8)].toList,.str x] fun x_1 y=>rA GA x [.bool (decide (Cs x_1.1 (List.headD x_1.2 (0:UInt8))≥(0:Int))),.top]) (rA GA x [.bool false,.top]))))))) (fun x=>by kernel_rfl) fun(x:List UInt8) (hx:x.length<2^63)=>(by
 dsimp only[cA,rA,GA,Mg,Aq,Aw,mvL,lnL,mvE,lnE,mvG,mvH,lnG,lnH]
 (repeat' first|(with_reducible first|rfl|exact True.intro|apply AG|apply And.intro|((first|apply Au|apply AE|apply Av|apply AF)<;>intro _))|(apply As<;>intro _)|apply AD|refine Af () ?_ ?_|((first|apply AK|apply AJ|apply AI|apply AH|apply AC|apply AB|apply AA|apply Az|apply Ax)<;>try dsimp only)|apply Af|(refine Prod.forall.2 ?_;intro _;try dsimp only)|(intro _;try dsimp only))<;>(try dsimp only at*)<;>(try simp only[Ai,List.length_cons,List.length_nil])<;>(try omega)
 ·rename_i h;simp [DP,mk2,h]
 ·rename_i h;simp [DP,mk2,h]
 ·rename_i h;simp [DP,mk2,h]
 ·rename_i h;simp [DP,mk2,h]
 ·rename_i h;simp [DP,mk2,h]
 ·rename_i h1 h2 h3 h4 h5 h _ _
  have h:x.length=1:=by omega
  match x,h with
  |[c],_=>exact b0X.trans (by simp [DP,mk2])
 ·rename_i h1 h2 h3 h4 h5 h
  symm;simp only[DP,mk2,Bool.or_eq_false_iff,beq_eq_false_iff_ne]
  refine⟨⟨h1,h2,h3,h4,h5⟩,?_⟩
  split
  ·simp at h
  ·rfl)
def Ko:Sig:= {X:=List UInt8,args:=fun x=>[.str x,.int .u8 32],pre:=fun x=>x.length<2^63,Y:=Unit,post:=fun x y=>True,res:=fun x y=> .str (CU x),outs:=fun x y=>[.top,.top],keep:=false}
def Qu(x:List UInt8):LS:= {ι:=List UInt8,inv:=fun s=>s.length≤x.length∧CU s=CU x,regs:=fun s=>[(0,.str s),(1,.int .u8 32)],als:=[],meas:=fun s=>s.length}
theorem b0Z:Ah G Tryz.prog 236 Ko:=
 vcFun_okP [] [] false (fun x=>[(1,Qu x)]) Tryz.func236 rfl (by decide) trivial (fun(x:List UInt8)=>(∀(y:Unit),True→True∧True∧True∧True)∧eA (Qu x) [.str x,AV.int IntKind.u8 (32:Int)]∧∀(i:List UInt8),List.length i≤List.length x∧CU i=CU x→Ab (decide ((↑(List.length i):Int)>(0:Int))) (inR IntKind.i64 ((↑(List.length i):Int)-(1:Int))∧((0:Int)≤(↑(List.length i):Int)-(1:Int)∧(↑(List.length i):Int)-(1:Int)<(↑(List.length i):Int))∧∀(c:UInt8),i[Int.toNat ((↑(List.length i):Int)-(1:Int))]? =some c→Ab ((↑(UInt8.toNat c):Int)==(32:Int)) (inR IntKind.i64 ((↑(List.length i):Int)-(1:Int))∧((0:Int)≤(0:Int)∧(0:Int)≤(↑(List.length i):Int)-(1:Int)∧(↑(List.length i):Int)-(1:Int)≤(↑(List.length i):Int))∧eN (Qu x) i [.str (List.take (Int.toNat ((↑(List.length i):Int)-(1:Int))) i),AV.int IntKind.u8 (32:Int)]) (rA Ko x [.str i,.top,.top])) (rA Ko x [.str i,.top,.top])) (fun x=>by kernel_rfl) fun(x:List UInt8) (hx:x.length<2^63)=>(by
 dsimp only[eA,eN,Qu,rA,Ko,Aq,Aw,AZ]
 (repeat' first|(with_reducible first|rfl|exact True.intro|apply AG|apply And.intro|((first|apply Au|apply AE|apply Av|apply AF)<;>intro _))|(apply As<;>intro _)|apply AD|refine Af () ?_ ?_|((first|apply AK|apply AJ|apply AI|apply AH|apply AC|apply AB|apply AA|apply Az|apply Ax)<;>try dsimp only)|apply Af|(refine Prod.forall.2 ?_;intro _;try dsimp only)|(intro _;try dsimp only))<;>(try dsimp only at*)<;>(try simp only[Ai,List.length_cons,List.length_nil])<;>(try omega)
 ·rename_i s hs h c hc h2;simp;omega
 ·rename_i s hs h c hc h2;simp;omega
 ·rename_i s hs h c hc h2
  have e:((s.length:Int)-1).toNat=s.length-1:=by omega
  rw[e] at hc ⊢
  rw[←hs.2,a0P hc,if_pos (by omega)]
 ·rename_i s hs h c hc h2
  have e:((s.length:Int)-1).toNat=s.length-1:=by omega
  rw[e] at hc
  rw[←hs.2,a0P hc,if_neg (by omega)]
 ·rename_i s hs h
  have:s=[]:=List.length_eq_zero_iff.1 (by omega)
  rw[←hs.2,this];rfl)
def Kp:Sig:= {X:=List UInt8,args:=fun x=>[.str x,.str [32]],pre:=fun x=>x.length<2^63,Y:=Unit,post:=fun x y=>True,res:=fun x y=> .str (CU x),outs:=fun x y=>[.top,.top],keep:=false}
theorem b1a:Ah G Tryz.prog 224 Kp:=
 vcFun_okP [(236,0,Ko)] [] false (fun x=>[]) Tryz.func224 rfl (by decide) ⟨b0Z,trivial⟩ (fun(x:List UInt8)=>(∀(y:Unit),True→True∧True∧True∧True)∧Ab (x== #[].toList) (rA Kp x [.str x,.top,.top]) (((0:Int)≤(0:Int)∧(0:Int)<(↑(1:Nat):Int))∧∀(c:UInt8),[(32:UInt8)][(0:Nat)]? =some c→Ab (decide ((↑(UInt8.toNat c):Int)<(128:Int))) (((0:Int)≤(0:Int)∧(0:Int)<(↑(1:Nat):Int))∧∀(c:UInt8),[(32:UInt8)][(0:Nat)]? =some c→cA Ko [.str x,AV.int IntKind.u8 (↑(UInt8.toNat c):Int)] fun x_1 y=>rA Kp x [.str (CU x_1),.top,.top]) False)) (fun x=>by kernel_rfl) fun(x:List UInt8) (hx:x.length<2^63)=>(by
 dsimp only[cA,rA,Ko,Kp,Aq,Aw,mvL,lnL,mvE,lnE,mvG,mvH,lnG,lnH]
 refine⟨fun _ _=>⟨trivial,trivial,trivial,trivial⟩,Av (fun h=>⟨(),trivial,by rw[h];rfl,trivial⟩) (fun h=>⟨by omega,fun c hc=> ?_⟩)⟩
 have hc:32=c:=by simpa using hc
 subst hc
 refine Au (fun _=>⟨by omega,fun c hc=> ?_⟩) (fun h=>(h (by decide)).elim)
 have hc:32=c:=by simpa using hc
 subst hc
 exact⟨x,hx,rfl,rfl,fun _ _=>⟨(),trivial,rfl,trivial⟩⟩)
def Mk:Sig:= {X:=List UInt8,args:=fun x=>[.str x],pre:=fun x=>x.length<2^63,Y:=Unit,post:=fun x y=>True,res:=fun x y=> .str (CU x),outs:=fun x y=>[.top],keep:=false}
theorem b1b:Ah G Tryz.prog 210 Mk:=
 vcFun_okP [(224,0,Kp)] [] false (fun x=>[]) Tryz.func210 rfl (by decide) ⟨b1a,trivial⟩ (fun(x:List UInt8)=>(∀(y:Unit),True→True∧True∧True)∧cA Kp [.str x,.str #[(32:UInt8)].toList] fun x_1 y=>rA Mk x [.str (CU x_1),.top]) (fun x=>by kernel_rfl) fun(x:List UInt8) (hx:x.length<2^63)=>(by
 dsimp only[cA,rA,Mk,Kp,Aq,Aw,mvL,lnL,mvE,lnE,mvG,mvH,lnG,lnH]
 (repeat' first|(with_reducible first|rfl|exact True.intro|apply AG|apply And.intro|((first|apply Au|apply AE|apply Av|apply AF)<;>intro _))|(apply As<;>intro _)|apply AD|refine Af () ?_ ?_|((first|apply AK|apply AJ|apply AI|apply AH|apply AC|apply AB|apply AA|apply Az|apply Ax)<;>try dsimp only)|apply Af|(refine Prod.forall.2 ?_;intro _;try dsimp only)|(intro _;try dsimp only))<;>(try dsimp only at*)<;>(try simp only[Ai,List.length_cons,List.length_nil])<;>(try omega))
def Kq:Sig:= {X:=List UInt8,args:=fun x=>[.str x],pre:=fun x=>x.length<2^63,Y:=Unit,post:=fun x y=>True,res:=fun x y=> .str (CU x),outs:=fun x y=>[.top],keep:=false}
def Qv(x:List UInt8):LS:= {ι:=Int,inv:=fun i=>0≤i∧i≤x.length∧CU (x.take i.toNat)=CU x,regs:=fun i=>[(0,.str x),(3,.int .i64 i)],als:=[],meas:=fun i=>i.toNat}
theorem b1c:Ah G Tryz.prog 170 Kq:=
 vcFun_okP [] [] false (fun x=>[(2,Qv x)]) Tryz.func170 rfl (by decide) trivial (fun(x:List UInt8)=>(∀(y:Unit),True→True∧True∧True)∧eA (Qv x) [.str x,.int .i64 (↑(List.length x):Int)]∧∀(i:Int),(0:Int)≤i∧i≤(↑(List.length x):Int)∧CU (List.take (Int.toNat i) x)=CU x→Ab (decide (i>(0:Int))) (inR IntKind.i64 (i-(1:Int))∧((0:Int)≤i-(1:Int)∧i-(1:Int)<(↑(List.length x):Int))∧∀(c:UInt8),x[Int.toNat (i-(1:Int))]? =some c→Ab ((↑(UInt8.toNat c):Int)==(32:Int)) (inR IntKind.i64 (i-(1:Int))∧eN (Qv x) i [.str x,.int .i64 (i-(1:Int))]) (((0:Int)≤(0:Int)∧(0:Int)≤i∧i≤(↑(List.length x):Int))∧rA Kq x [.str (List.take (Int.toNat i) x),.top])) (((0:Int)≤(0:Int)∧(0:Int)≤i∧i≤(↑(List.length x):Int))∧rA Kq x [.str (List.take (Int.toNat i) x),.top])) (fun x=>by kernel_rfl) fun(x:List UInt8) (hx:x.length<2^63)=>(by
 dsimp only[eA,eN,Qv,rA,Kq,Aq,Aw,AZ]
 (repeat' first|(with_reducible first|rfl|exact True.intro|apply AG|apply And.intro|((first|apply Au|apply AE|apply Av|apply AF)<;>intro _))|(apply As<;>intro _)|apply AD|refine Af () ?_ ?_|((first|apply AK|apply AJ|apply AI|apply AH|apply AC|apply AB|apply AA|apply Az|apply Ax)<;>try dsimp only)|apply Af|(refine Prod.forall.2 ?_;intro _;try dsimp only)|(intro _;try dsimp only))<;>(try dsimp only at*)<;>(try simp only[Ai,List.length_cons,List.length_nil])<;>(try omega)
 ·simp
 ·rename_i i hi h c hc h2
  rw[←hi.2.2,show i.toNat=(i-1).toNat+1 by omega,a0Q hc,if_pos (by omega)]
 ·rename_i i hi h c hc h2
  have:=hi.2.2
  rw[show i.toNat=(i-1).toNat+1 by omega,a0Q hc,if_neg (by omega)] at this
  rw[←this,show i.toNat=(i-1).toNat+1 by omega]
 ·rename_i i hi h
  rw[←hi.2.2,show i.toNat=0 by omega];rfl)
theorem b1d(s:List UInt8)(c:UInt8):Cs s c= -1∨(0≤Cs s c∧Cs s c<s.length):=by
 unfold Cs
 split
 ·exact .inl rfl
 ·rename_i i h;have:=a0T h;omega
theorem a1a{s:List UInt8}:Et s=if Cs (s.drop 1) 39<0 then([],false) else(s.take (Cs (s.drop 1) 39+2).toNat,(s.take (Cs (s.drop 1) 39+2).toNat).all Bx):=by
 unfold Et Cs
 have e:(fun c:UInt8=>decide (c.toNat=39))=fun d:UInt8=>decide (d.toNat=(39:UInt8).toNat):=rfl
 rw[e]
 cases DQ (fun d:UInt8=>decide (d.toNat=(39:UInt8).toNat)) (s.drop 1) with
 |none=>simp
 |some i=>
  have h1:¬(i:Int)<0:=by omega
  have h2:((i:Int)+2).toNat=i+2:=by omega
  simp only[if_neg h1,h2]
def Kr:Sig:= {X:=List UInt8,args:=fun x=>[.str x],pre:=fun x=>1≤x.length∧x.length<2^62,Y:=Unit,post:=fun x y=>True,res:=fun x y=> .tup [.str (Et x).1,.bool (Et x).2],outs:=fun x y=>[.top],keep:=false}
theorem b1e:Ah G Tryz.prog 208 Kr:=
 vcFun_okP [(223,0,Me),(77,0,EE)] [] false (fun x=>[]) Tryz.func208 rfl (by decide) ⟨a9Y,Qs,trivial⟩ (fun(x:List UInt8)=>(∀(y:Unit),True→(True∧True∧True)∧True∧True)∧((0:Int)≤(1:Int)∧(1:Int)≤(↑(List.length x):Int)∧(↑(List.length x):Int)≤(↑(List.length x):Int))∧cA Me [.str (List.drop (1:Nat) x),AV.int IntKind.u8 (39:Int)] fun x_1 y=>Ab (decide (Cs x_1 (39:UInt8)<(0:Int))) (rA Kr x [.tup [.str #[].toList,.bool false],.top]) (inR IntKind.i64 (Cs x_1 (39:UInt8)+(2:Int))∧((0:Int)≤(0:Int)∧(0:Int)≤Cs x_1 (39:UInt8)+(2:Int)∧Cs x_1 (39:UInt8)+(2:Int)≤(↑(List.length x):Int))∧cA EE [.str (List.take (Int.toNat (Cs x_1 (39:UInt8)+(2:Int))) x)] fun x_2 y=>rA Kr x [.tup [.str (List.take (Int.toNat (Cs x_1 (39:UInt8)+(2:Int))) x),.bool (List.all x_2 Bx)],.top])) (fun x=>by kernel_rfl) fun(x:List UInt8) (hx:1≤x.length∧x.length<2^62)=>(by
 dsimp only[cA,rA,EE,Kr,Me,Aq,Aw,mvL,lnL,mvE,lnE,mvG,mvH,lnG,lnH]
 obtain⟨h1,h2⟩:=hx
 have hq:=b1d (x.drop 1) 39;have hl:(x.drop 1).length=x.length-1:=by simp
 (repeat' first|(with_reducible first|rfl|exact True.intro|apply AG|apply And.intro|((first|apply Au|apply AE|apply Av|apply AF)<;>intro _))|(apply As<;>intro _)|apply AD|refine Af () ?_ ?_|((first|apply AK|apply AJ|apply AI|apply AH|apply AC|apply AB|apply AA|apply Az|apply Ax)<;>try dsimp only)|apply Af|(refine Prod.forall.2 ?_;intro _;try dsimp only)|(intro _;try dsimp only))<;>(try dsimp only at*)<;>(try simp only[Ai,List.length_cons,List.length_nil])<;>(try omega)
 all_goals first
  |omega
  |(rw[a1a,if_neg ‹¬Cs _ 39<0›];done)
  |(rw[a1a,if_pos ‹Cs _ 39<0›];done)
  |(simp;omega))
def GY:Sig:= {X:=List UInt8,args:=fun x=>[.str x],pre:=fun x=>1≤x.length∧x.length<2^62,Y:=Unit,post:=fun x y=>True,res:=fun x y=> .tup [.int .i64 (Cp x).kind,.str (Cp x).text,.int .i64 (Cp x).size,.bool (Cp x).ok],outs:=fun x y=>[.top],keep:=false}
def Qw(x:List UInt8):LS:= {ι:=Int,inv:=fun i=>GX x i,regs:=fun i=>[(0,.str x),(12,.int .i64 i)],als:=[],meas:=fun i=>i.toNat}
theorem b1f:Ah G Tryz.prog 190 GY:=
 vcFun_okP [(204,0,Fg),(205,206+1,Kl),(207,0,FR),(205,207+1,Km),(208,0,Kr),(193,0,Mh),(205,209+1,Kn),(210,0,Mk),(77,0,EE),(211,0,GA)] [] false (fun x=>[(15,Qw x)]) Tryz.func190 rfl (by decide) ⟨a0N,b0h,Vy,b0i,b1e,b0d,b0j,b1b,Qs,b0Y,trivial⟩ (fun(x:List UInt8)=>(∀(y:Unit),True→(True∧True∧True∧True∧True)∧True∧True)∧((0:Int)≤(0:Int)∧(0:Int)<(↑(List.length x):Int))∧∀(c:UInt8),x[(0:Nat)]? =some c→cA Fg [AV.int IntKind.u8 (↑(UInt8.toNat c):Int)] fun x_1 y=>Ab (CF x_1) (cA Kl [.str x,AV.clo (Fn.func (84:Nat)) []] fun x_2 y=>rA GY x [.tup [.int .i64 (1:Int),.str (List.takeWhile Cr x_2),.int .i64 (↑(List.length (List.takeWhile Cr x_2)):Int),.bool (decide ((↑(List.length (List.takeWhile Cr x_2)):Int)≤(30:Int)))],.top]) (cA FR [AV.int IntKind.u8 (↑(UInt8.toNat c):Int)] fun x_2 y=>Ab (Bu x_2) (cA Km [.str x,AV.clo (Fn.func (85:Nat)) []] fun x_3 y=>rA GY x [.tup [.int .i64 (2:Int),.str (List.takeWhile Bu x_3),.int .i64 (↑(List.length (List.takeWhile Bu x_3)):Int),.bool (decide ((↑(List.length (List.takeWhile Bu x_3)):Int)≤(12:Int)))],.top]) (Ab ((↑(UInt8.toNat c):Int)==(39:Int)) (cA Kr [.str x] fun x_3 y=>rA GY x [.tup [.int .i64 (3:Int),.str (Et x_3).1,.int .i64 (↑(List.length (Et x_3).1):Int),.bool (Et x_3).2],.top]) (cA Mh [.str x,.str #[(47:UInt8),(47:UInt8)].toList] fun x_3 y=>Ab (List.take (List.length x_3.2) x_3.1==x_3.2) (cA Kn [.str x,AV.clo (Fn.func (88:Nat)) []] fun x_4 y=>cA Mk [.str (List.takeWhile Cn x_4)] fun x_5 y=>cA EE [.str (List.takeWhile Cn x_4)] fun x_6 y=>rA GY x [.tup [.int .i64 (5:Int),.str (CU x_5),.int .i64 (↑(List.length (List.takeWhile Cn x_4)):Int),.bool (List.all x_6 Bx)],.top]) (eA (Qw x) [.str x,.int .i64 (min (2:Int) (↑(List.length x):Int))]∧∀(i:Int),GX x i→Ab (decide (i>(0:Int))) (((0:Int)≤(0:Int)∧(0:Int)≤i∧i≤(↑(List.length x):Int))∧cA GA [.str (List.take (Int.toNat i) x)] fun x_4 y=>Ab (DP x_4) (true=true∧true=true∧((0:Int)≤(0:Int)∧(0:Int)≤i∧i≤(↑(List.length x):Int))∧rA GY x [.tup [.int .i64 (4:Int),.str (List.take (Int.toNat i) x),.int .i64 i,.bool true],.top]) (inR IntKind.i64 (i-(1:Int))∧eN (Qw x) i [.str x,.int .i64 (i-(1:Int))])) (rA GY x [.tup [.int .i64 (0:Int),.str #[].toList,.int .i64 (0:Int),.bool false],.top])))))) (fun x=>by kernel_rfl) fun(x:List UInt8) (hx:1≤x.length∧x.length<2^62)=>(by
 dsimp only[cA,eA,eN,Qw,rA,Mk,FR,Fg,EE,GA,Kr,Km,Kl,Kn,Mh,GY,Aq,Aw,mvL,lnL,mvE,lnE,mvG,mvH,lnG,lnH,AZ]
 obtain⟨h1,h2⟩:=hx
 have h3:x.length<9223372036854775808:=by omega
 match x,h1,h2,h3 with
 |b::t,h1,h2,h3=>
 (repeat' first|(with_reducible first|rfl|exact True.intro|apply AG|apply And.intro|((first|apply Au|apply AE|apply Av|apply AF)<;>intro _))|(apply As<;>intro _)|apply AD|refine Af () ?_ ?_|((first|apply AK|apply AJ|apply AI|apply AH|apply AC|apply AB|apply AA|apply Az|apply Ax)<;>try dsimp only)|apply Af|(refine Prod.forall.2 ?_;intro _;try dsimp only)|(intro _;try dsimp only))<;>(try dsimp only at*)<;>(try simp only[Ai,List.length_cons,List.length_nil])<;>(try omega)
 all_goals(try simp only[List.getElem?_cons_zero,Option.some.injEq] at*)
 all_goals(try subst_vars)
 all_goals first
  |exact h3
  |(rw[b0o ‹_›];done)
  |(rw[b0p ‹_› ‹_›];done)
  |(rw[b0q ‹_› ‹_› ‹_›];done)
  |(rw[b0r ‹_› ‹_› ‹_› ‹_›];done)
  |(rw[b0k ‹_› h1 ‹_› ‹_›];done)
  |(rw[b0l ‹_› h1 ‹_›];done)
  |exact b0m ‹_› ‹_› ‹_›
  |exact b0n ‹_› ‹_› (by omega) ‹_›
  |exact Nat.lt_of_le_of_lt (List.takeWhile_prefix _).length_le h3
  |(have hI:=(‹GX _ _› :GX _ _).1;rw[List.length_cons] at hI;omega)
  |(have hI:=(‹GX _ _› :GX _ _).1;rw[List.length_take];omega)
  |trace_state)
def Fh:Sig:= {X:=List UInt8×Int,args:=fun x=>[.str x.1,.int .i64 x.2],pre:=fun x=>x.1.length<2^62,Y:=Unit,post:=fun x y=>True,res:=fun x y=> .bool (BX x.1 x.2),outs:=fun x y=>[.top,.top],keep:=false}
theorem a1b:Ah G Tryz.prog 155 Fh:=
 vcFun_okP [(190,0,GY)] [] false (fun x=>[]) Tryz.func155 rfl (by decide) ⟨b1f,trivial⟩ (fun(x:List UInt8×Int)=>(∀(y:Unit),True→True∧True∧True∧True)∧Ab (x.1== #[].toList) (rA Fh x [.bool false,.top,.top]) (cA GY [.str x.1] fun x_1 y=>Ab (Cp x_1).ok (Ab ((Cp x_1).kind==x.2) (Ab ((Cp x_1).text==x.1) (rA Fh x [.bool ((Cp x_1).size==(↑(List.length x.1):Int)),.top,.top]) (rA Fh x [.bool false,.top,.top])) (rA Fh x [.bool false,.top,.top])) (rA Fh x [.bool false,.top,.top]))) (fun x=>by kernel_rfl) fun(x:List UInt8×Int) (hx:x.1.length<2^62)=>(by
 dsimp only[cA,rA,Fh,GY,Aq,Aw,mvL,lnL,mvE,lnE,mvG,mvH,lnG,lnH]
 (repeat' first|(with_reducible first|rfl|exact True.intro|apply AG|apply And.intro|((first|apply Au|apply AE|apply Av|apply AF)<;>intro _))|(apply As<;>intro _)|apply AD|refine Af () ?_ ?_|((first|apply AK|apply AJ|apply AI|apply AH|apply AC|apply AB|apply AA|apply Az|apply Ax)<;>try dsimp only)|apply Af|(refine Prod.forall.2 ?_;intro _;try dsimp only)|(intro _;try dsimp only))<;>(try dsimp only at*)<;>(try simp only[Ai,List.length_cons,List.length_nil])<;>(try omega)
 all_goals first
  |exact List.length_pos_iff.2 ‹_›
  |(simp [BX, *];done)
  |(rw[Bool.eq_iff_iff];simp [BX, *];done))
def GB:Sig:= {X:=List UInt8,args:=fun x=>[.str x],pre:=fun x=>x.length<2^62,Y:=Unit,post:=fun x y=>True,res:=fun x y=> .bool (Da x),outs:=fun x y=>[.top],keep:=false}
theorem b1g:Ah G Tryz.prog 154 GB:=
 vcFun_okP [(155,0,Fh),(189,0,Gy)] [] false (fun x=>[]) Tryz.func154 rfl (by decide) ⟨a1b,b0V,trivial⟩ (fun(x:List UInt8)=>(∀(y:Unit),True→True∧True∧True)∧cA Fh [.str x,.int .i64 (1:Int)] fun x_1 y=>Ab (BX x_1.1 x_1.2) (cA Gy [.str x] fun x_2 y=>rA GB x [.bool !kw x_2,.top]) (rA GB x [.bool false,.top])) (fun x=>by kernel_rfl) fun(x:List UInt8) (hx:x.length<2^62)=>(by
 dsimp only[cA,rA,Gy,GB,Fh,Aq,Aw,mvL,lnL,mvE,lnE,mvG,mvH,lnG,lnH]
 (repeat' first|(with_reducible first|rfl|exact True.intro|apply AG|apply And.intro|((first|apply Au|apply AE|apply Av|apply AF)<;>intro _))|(apply As<;>intro _)|apply AD|refine Af () ?_ ?_|((first|apply AK|apply AJ|apply AI|apply AH|apply AC|apply AB|apply AA|apply Az|apply Ax)<;>try dsimp only)|apply Af|(refine Prod.forall.2 ?_;intro _;try dsimp only)|(intro _;try dsimp only))<;>(try dsimp only at*)<;>(try simp only[Ai,List.length_cons,List.length_nil])<;>(try omega)
 all_goals simp [Da, *])
def Dr:Sig:= {X:=Nd,args:=fun x=>[.agg (ndA false x)],pre:=fun x=>x.text.length<2^62,Y:=Unit,post:=fun x y=>True,res:=fun x y=> .bool (Dy x.kind x.text),outs:=fun x y=>[.top],keep:=false}
theorem b1h:Ah G Tryz.prog 122 Dr:=
 vcFun_okP [(155,0,Fh),(154,0,GB)] [] false (fun x=>[]) Tryz.func122 rfl (by decide) ⟨a1b,b1g,trivial⟩ (fun(x:Nd)=>(∀(y:Unit),True→True∧True∧True)∧Ab (x.kind==(1:Int)) (cA GB [.str x.text] fun x_1 y=>rA Dr x [.bool (Da x_1),.top]) (Ab (x.kind==(6:Int)) (cA GB [.str x.text] fun x_1 y=>rA Dr x [.bool (Da x_1),.top]) (Ab (x.kind==(12:Int)) (cA GB [.str x.text] fun x_1 y=>rA Dr x [.bool (Da x_1),.top]) (Ab (x.kind==(13:Int)) (cA GB [.str x.text] fun x_1 y=>rA Dr x [.bool (Da x_1),.top]) (Ab (x.kind==(20:Int)) (cA GB [.str x.text] fun x_1 y=>rA Dr x [.bool (Da x_1),.top]) (Ab (x.kind==(21:Int)) (cA GB [.str x.text] fun x_1 y=>rA Dr x [.bool (Da x_1),.top]) (Ab (x.kind==(2:Int)) (cA Fh [.str x.text,.int .i64 (2:Int)] fun x_1 y=>rA Dr x [.bool (BX x_1.1 x_1.2),.top]) (Ab (x.kind==(3:Int)) (cA Fh [.str x.text,.int .i64 (3:Int)] fun x_1 y=>rA Dr x [.bool (BX x_1.1 x_1.2),.top]) (Ab (x.kind==(19:Int)) (cA Fh [.str x.text,.int .i64 (5:Int)] fun x_1 y=>rA Dr x [.bool (BX x_1.1 x_1.2),.top]) (Ab (x.kind==(7:Int)) (Ab (x.text== #[(38:UInt8),(38:UInt8)].toList) (rA Dr x [.bool true,.top]) (Ab (x.text== #[(124:UInt8),(124:UInt8)].toList) (rA Dr x [.bool true,.top]) (Ab (x.text== #[(61:UInt8),(61:UInt8)].toList) (rA Dr x [.bool true,.top]) (Ab (x.text== #[(60:UInt8)].toList) (rA Dr x [.bool true,.top]) (Ab (x.text== #[(43:UInt8)].toList) (rA Dr x [.bool true,.top]) (Ab (x.text== #[(45:UInt8)].toList) (rA Dr x [.bool true,.top]) (Ab (x.text== #[(42:UInt8)].toList) (rA Dr x [.bool true,.top]) (rA Dr x [.bool false,.top])))))))) (rA Dr x [.bool (x.text== #[].toList),.top]))))))))))) (fun x=>by kernel_rfl) fun(x:Nd) (hx:x.text.length<2^62)=>(by
 dsimp only[cA,Bg,rA,GB,Fh,Dr,Aq,Aw,mvL,lnL,mvE,lnE,mvG,mvH,lnG,lnH]
 (repeat' first|(with_reducible first|rfl|exact True.intro|apply AG|apply And.intro|((first|apply Au|apply AE|apply Av|apply AF)<;>intro _))|(apply As<;>intro _)|apply AD|refine Af () ?_ ?_|((first|apply AK|apply AJ|apply AI|apply AH|apply AC|apply AB|apply AA|apply Az|apply Ax)<;>try dsimp only)|apply Af|(refine Prod.forall.2 ?_;intro _;try dsimp only)|(intro _;try dsimp only))<;>(try dsimp only at*)<;>(try simp only[Ai,List.length_cons,List.length_nil])<;>(try omega)
 all_goals simp [Dy,Il, *])
def Jm:Sig:= {X:=List UInt8×Int,args:=fun x=>[.str x.1,.int .i64 x.2],pre:=fun x=>0≤x.2∧x.2≤x.1.length∧x.1.length<2^62,Y:=Unit,post:=fun x y=>True,res:=fun x y=> .int .i64 (DA (x.1.drop x.2.toNat)),outs:=fun x y=>[.top,.top],keep:=false}
def Qx(x:List UInt8×Int):LS:= {ι:=Int,inv:=fun i=>qI x i,regs:=fun i=>[(0,.str x.1),(1,.int .i64 x.2),(5,.int .i64 i)],als:=[],meas:=fun i=>x.1.length-i.toNat}
theorem b1i:Ah G Tryz.prog 173 Jm:=
 vcFun_okP [(85,0,FT)] [] false (fun x=>[(2,Qx x)]) Tryz.func173 rfl (by decide) ⟨Vz,trivial⟩ (fun(x:List UInt8×Int)=>(∀(y:Unit),True→True∧True∧True∧True)∧inR IntKind.i64 (x.2+(1:Int))∧eA (Qx x) [.str x.1,.int .i64 x.2,.int .i64 (x.2+(1:Int))]∧∀(i:Int),qI x i→Ab (decide (i<(↑(List.length x.1):Int))) (((0:Int)≤i∧i<(↑(List.length x.1):Int))∧∀(c:UInt8),x.1[Int.toNat i]? =some c→Ab ((↑(UInt8.toNat c):Int)==(39:Int)) (inR IntKind.i64 (i+(1:Int))∧inR IntKind.i64 (i+(1:Int)-x.2)∧rA Jm x [.int .i64 (i+(1:Int)-x.2),.top,.top]) (((0:Int)≤i∧i<(↑(List.length x.1):Int))∧∀(c:UInt8),x.1[Int.toNat i]? =some c→cA FT [AV.int IntKind.u8 (↑(UInt8.toNat c):Int)] fun x_1 y=>Ab (!Bx x_1) (rA Jm x [.int .i64 (0:Int),.top,.top]) (inR IntKind.i64 (i+(1:Int))∧eN (Qx x) i [.str x.1,.int .i64 x.2,.int .i64 (i+(1:Int))]))) (rA Jm x [.int .i64 (0:Int),.top,.top])) (fun x=>by kernel_rfl) fun(x:List UInt8×Int) (hx:0≤x.2∧x.2≤x.1.length∧x.1.length<2^62)=>(by
 dsimp only[cA,eA,eN,Qx,rA,FT,Jm,Aq,Aw,mvL,lnL,mvE,lnE,mvG,mvH,lnG,lnH,AZ]
 obtain⟨h1,h2,h3⟩:=hx
 (repeat' first|(with_reducible first|rfl|exact True.intro|apply AG|apply And.intro|((first|apply Au|apply AE|apply Av|apply AF)<;>intro _))|(apply As<;>intro _)|apply AD|refine Af () ?_ ?_|((first|apply AK|apply AJ|apply AI|apply AH|apply AC|apply AB|apply AA|apply Az|apply Ax)<;>try dsimp only)|apply Af|(refine Prod.forall.2 ?_;intro _;try dsimp only)|(intro _;try dsimp only))<;>(try dsimp only at*)<;>(try simp only[Ai,List.length_cons,List.length_nil])<;>(try omega)
 all_goals first
  |exact b0z
  |exact b0B h1 ‹_› ‹_› ‹_›
  |exact b0C h1 ‹_› ‹_› ‹_› ‹_› ‹_›
  |exact b0D h1 ‹_› ‹_› ‹_› ‹_› ‹_› ‹_›
  |exact b0E h1 ‹_› ‹_›
  |(have hI:=b0A ‹_›;omega))
def HC:Sig:= {X:=List UInt8×Int,args:=fun x=>[.str x.1,.int .i64 x.2],pre:=fun x=>0≤x.2∧x.2≤x.1.length∧x.1.length<2^62,Y:=Unit,post:=fun x y=>True,res:=fun x y=> .int .i64 (DJ (x.1.drop x.2.toNat)),outs:=fun x y=>[.top,.top],keep:=false}
def Qy(x:List UInt8×Int):LS:= {ι:=Int,inv:=fun i=>nI x i,regs:=fun i=>[(0,.str x.1),(1,.int .i64 x.2),(5,.int .i64 i)],als:=[],meas:=fun i=>x.1.length-i.toNat}
theorem b1j:Ah G Tryz.prog 169 HC:=
 vcFun_okP [(85,0,FT)] [] false (fun x=>[(4,Qy x)]) Tryz.func169 rfl (by decide) ⟨Vz,trivial⟩ (fun(x:List UInt8×Int)=>(∀(y:Unit),True→True∧True∧True∧True)∧inR IntKind.i64 (x.2+(2:Int))∧Ab (decide (x.2+(2:Int)>(↑(List.length x.1):Int))) (rA HC x [.int .i64 (0:Int),.top,.top]) (inR IntKind.i64 (x.2+(2:Int))∧((0:Int)≤x.2∧x.2≤x.2+(2:Int)∧x.2+(2:Int)≤(↑(List.length x.1):Int))∧Ab (!List.drop (Int.toNat x.2) (List.take (Int.toNat (x.2+(2:Int))) x.1)== #[(47:UInt8),(47:UInt8)].toList) (rA HC x [.int .i64 (0:Int),.top,.top]) (eA (Qy x) [.str x.1,.int .i64 x.2,.int .i64 x.2]∧∀(i:Int),nI x i→Ab (decide (i<(↑(List.length x.1):Int))) (((0:Int)≤i∧i<(↑(List.length x.1):Int))∧∀(c:UInt8),x.1[Int.toNat i]? =some c→Ab ((↑(UInt8.toNat c):Int) != (10:Int)) (((0:Int)≤i∧i<(↑(List.length x.1):Int))∧∀(c:UInt8),x.1[Int.toNat i]? =some c→cA FT [AV.int IntKind.u8 (↑(UInt8.toNat c):Int)] fun x_1 y=>Ab (!Bx x_1) (rA HC x [.int .i64 (0:Int),.top,.top]) (inR IntKind.i64 (i+(1:Int))∧eN (Qy x) i [.str x.1,.int .i64 x.2,.int .i64 (i+(1:Int))])) (inR IntKind.i64 (i-x.2)∧rA HC x [.int .i64 (i-x.2),.top,.top])) (inR IntKind.i64 (i-x.2)∧rA HC x [.int .i64 (i-x.2),.top,.top])))) (fun x=>by kernel_rfl) fun(x:List UInt8×Int) (hx:0≤x.2∧x.2≤x.1.length∧x.1.length<2^62)=>(by
 dsimp only[cA,eA,eN,Qy,rA,HC,FT,Aq,Aw,mvL,lnL,mvE,lnE,mvG,mvH,lnG,lnH,AZ]
 obtain⟨h1,h2,h3⟩:=hx
 (repeat' first|(with_reducible first|rfl|exact True.intro|apply AG|apply And.intro|((first|apply Au|apply AE|apply Av|apply AF)<;>intro _))|(apply As<;>intro _)|apply AD|refine Af () ?_ ?_|((first|apply AK|apply AJ|apply AI|apply AH|apply AC|apply AB|apply AA|apply Az|apply Ax)<;>try dsimp only)|apply Af|(refine Prod.forall.2 ?_;intro _;try dsimp only)|(intro _;try dsimp only))<;>(try dsimp only at*)<;>(try simp only[Ai,List.length_cons,List.length_nil])<;>(try omega)
 all_goals first
  |exact b0H h1 ‹_›
  |exact b0G h1 ‹_›
  |exact b0F h1 h2 ‹_›
  |exact b0I h1 ‹_› ‹_› ‹_› ‹_› ‹_›
  |exact b0J h1 ‹_› ‹_› ‹_› ‹_› ‹_› ‹_›
  |exact b0K h1 ‹_› ‹_› ‹_›
  |exact b0L h1 ‹_› ‹_›
  |(have hI:=(‹nI _ _› :nI _ _).1;omega))
def Fi:Sig:= {X:=List UInt8,args:=fun x=>[.str x],pre:=fun x=>x.length<2^62,Y:=Unit,post:=fun x y=>True,res:=fun x y=> .bool (Da x),outs:=fun x y=>[.top],keep:=false}
def Ob(x:List UInt8):LS:= {ι:=Int,inv:=fun i=>nmI x i,regs:=fun i=>[(0,.str x),(3,.int .i64 i)],als:=[],meas:=fun i=>x.length-i.toNat}
theorem b1k:Ah G Tryz.prog 180 Fi:=
 vcFun_okP [(45,0,Bq),(171,0,FS),(175,0,Gz),(172,0,HB)] [] false (fun x=>[(4,Ob x)]) Tryz.func180 rfl (by decide) ⟨Gx,b0e,b0W,a0M,trivial⟩ (fun(x:List UInt8)=>(∀(y:Unit),True→True∧True∧True)∧cA Bq [.int .i64 (↑(List.length x):Int),.int .i64 (1:Int),.int .i64 (30:Int)] fun x_1 y=>Ab (!inn x_1.1 x_1.2.1 x_1.2.2) (rA Fi x [.bool false,.top]) (((0:Int)≤(0:Int)∧(0:Int)<(↑(List.length x):Int))∧∀(c:UInt8),x[(0:Nat)]? =some c→cA FS [AV.int IntKind.u8 (↑(UInt8.toNat c):Int)] fun x_2 y=>Ab (!CF x_2) (rA Fi x [.bool false,.top]) (cA Gz [.str x] fun x_3 y=>Ab (kw x_3) (rA Fi x [.bool false,.top]) (eA (Ob x) [.str x,.int .i64 (0:Int)]∧∀(i:Int),nmI x i→Ab (decide (i<(↑(List.length x):Int))) (((0:Int)≤i∧i<(↑(List.length x):Int))∧∀(c:UInt8),x[Int.toNat i]? =some c→cA FS [AV.int IntKind.u8 (↑(UInt8.toNat c):Int)] fun x_4 y=>Ab (!CF x_4) (((0:Int)≤i∧i<(↑(List.length x):Int))∧∀(c:UInt8),x[Int.toNat i]? =some c→cA HB [AV.int IntKind.u8 (↑(UInt8.toNat c):Int)] fun x_5 y=>Ab (!Bu x_5) (rA Fi x [.bool false,.top]) (inR IntKind.i64 (i+(1:Int))∧eN (Ob x) i [.str x,.int .i64 (i+(1:Int))])) (inR IntKind.i64 (i+(1:Int))∧eN (Ob x) i [.str x,.int .i64 (i+(1:Int))])) (rA Fi x [.bool true,.top]))))) (fun x=>by kernel_rfl) fun(x:List UInt8) (hx:x.length<2^62)=>(by
 dsimp only[cA,eA,eN,Ob,rA,Bq,HB,FS,Fi,Gz,Aq,Aw,mvL,lnL,mvE,lnE,mvG,mvH,lnG,lnH,AZ]
 have hp:∀h:inn x.length 1 30=true,1≤x.length:=fun h=>by simp [inn] at h;omega
 (repeat' first|(with_reducible first|rfl|exact True.intro|apply AG|apply And.intro|((first|apply Au|apply AE|apply Av|apply AF)<;>intro _))|(apply As<;>intro _)|apply AD|refine Af () ?_ ?_|((first|apply AK|apply AJ|apply AI|apply AH|apply AC|apply AB|apply AA|apply Az|apply Ax)<;>try dsimp only)|apply Af|(refine Prod.forall.2 ?_;intro _;try dsimp only)|(intro _;try dsimp only))<;>(try dsimp only at*)<;>(try simp only[Ai,List.length_cons,List.length_nil])<;>(try omega)
 all_goals(try(have:=hp ‹_›;omega))
 all_goals(try(have hI:=(‹nmI _ _› :nmI _ _).1;omega))
 ·rename_i h;exact VH (fun hh=>by rw[hh.1] at h;cases h)
 ·rename_i c hc _ _ h;exact VH (fun hh=>by rw[a0Y hc,h] at hh;cases hh.2.1)
 ·rename_i h;exact VH (fun hh=>by rw[hh.2.2] at h;cases h)
 ·rename_i h1 c hc _ _ h2 _ _ h3;exact b0M h1 (by rw[a0Y hc];exact h2) h3
 ·rename_i i hi hl c hc _ _ h1 d hd _ _ h2
  rw[hc] at hd;cases hd
  exact b0N hi hc (by simp [Cr,h1,h2])
 ·rename_i i hi hl c hc _ _ h1 d hd _ _ h2
  rw[hc] at hd;cases hd
  exact a0Z hi hc hl (by simp [Cr,h2])
 ·rename_i i hi hl c hc _ _ h1
  exact a0Z hi hc hl (by simp [Cr,h1])
 ·exact b0O ‹_› ‹_›)
def Ks:Sig:= {X:=List UInt8,args:=fun x=>[.str x],pre:=fun x=>x.length<2^62,Y:=Unit,post:=fun x y=>True,res:=fun x y=> .bool (BX x 2),outs:=fun x y=>[.top],keep:=false}
theorem b1l:Ah G Tryz.prog 181 Ks:=
 vcFun_okP [(45,0,Bq),(172,0,HB)] [] false (fun x=>[(2,DR Bu x fun i=>[(0,.str x),(3,.int .i64 i)])]) Tryz.func181 rfl (by decide) ⟨Gx,a0M,trivial⟩ (fun(x:List UInt8)=>(∀(y:Unit),True→True∧True∧True)∧eA (DR Bu x fun(i:Int)=>[((0:Nat),.str x),((3:Nat),.int .i64 i)]) [.str x,.int .i64 (0:Int)]∧∀(i:Int),((0:Int)≤i∧i≤(↑(List.length x):Int)∧∀(e:UInt8),e∈List.take (Int.toNat i) x→Bu e=true)→Ab (decide (i<(↑(List.length x):Int))) (((0:Int)≤i∧i<(↑(List.length x):Int))∧∀(c:UInt8),x[Int.toNat i]? =some c→cA HB [AV.int IntKind.u8 (↑(UInt8.toNat c):Int)] fun x_1 y=>Ab (!Bu x_1) (rA Ks x [.bool false,.top]) (inR IntKind.i64 (i+(1:Int))∧eN (DR Bu x fun(i:Int)=>[((0:Nat),.str x),((3:Nat),.int .i64 i)]) i [.str x,.int .i64 (i+(1:Int))])) (cA Bq [.int .i64 (↑(List.length x):Int),.int .i64 (1:Int),.int .i64 (12:Int)] fun x_1 y=>rA Ks x [.bool (inn x_1.1 x_1.2.1 x_1.2.2),.top])) (fun x=>by kernel_rfl) fun(x:List UInt8) (hx:x.length<2^62)=>(by
 dsimp only[cA,eA,eN,DR,rA,Bq,HB,Ks,Aq,Aw,mvL,lnL,mvE,lnE,mvG,mvH,lnG,lnH,AZ]
 (repeat' first|(with_reducible first|rfl|exact True.intro|apply AG|apply And.intro|((first|apply Au|apply AE|apply Av|apply AF)<;>intro _))|(apply As<;>intro _)|apply AD|refine Af () ?_ ?_|((first|apply AK|apply AJ|apply AI|apply AH|apply AC|apply AB|apply AA|apply Az|apply Ax)<;>try dsimp only)|apply Af|(refine Prod.forall.2 ?_;intro _;try dsimp only)|(intro _;try dsimp only))<;>(try dsimp only at*)<;>(try simp only[Ai,List.length_cons,List.length_nil])<;>(try omega)
 ·rename_i h;simp at h
 ·rename_i i hi hl c hc _ _ h;rw[VB,Qo hc h];rfl
 ·rename_i i hi hl c hc _ _ h e he
  rw[BD hi.1] at he;exact NZ hi.2.2 hc h e he
 ·rename_i i hi hl _ _;rw[VB,Vs hi.2.2 (by omega)];simp only[Bool.true_and,inn];rw[Bool.eq_iff_iff];simp;omega)
def Jn:Sig:= {X:=List UInt8,args:=fun x=>[.str x],pre:=fun x=>x.length<2^62,Y:=Unit,post:=fun x y=>True,res:=fun x y=> .bool (BX x 3),outs:=fun x y=>[.top],keep:=false}
theorem b1m:Ah G Tryz.prog 182 Jn:=
 vcFun_okP [(173,0,Jm)] [] false (fun x=>[]) Tryz.func182 rfl (by decide) ⟨b1i,trivial⟩ (fun(x:List UInt8)=>(∀(y:Unit),True→True∧True∧True)∧Ab (decide ((↑(List.length x):Int)>(1:Int))) (((0:Int)≤(0:Int)∧(0:Int)<(↑(List.length x):Int))∧∀(c:UInt8),x[(0:Nat)]? =some c→Ab ((↑(UInt8.toNat c):Int)==(39:Int)) (cA Jm [.str x,.int .i64 (0:Int)] fun x_1 y=>rA Jn x [.bool ((↑(DA (List.drop (Int.toNat x_1.2) x_1.1)):Int)==(↑(List.length x):Int)),.top]) (rA Jn x [.bool false,.top])) (rA Jn x [.bool false,.top])) (fun x=>by kernel_rfl) fun(x:List UInt8) (hx:x.length<2^62)=>(by
 dsimp only[cA,rA,Jm,Jn,Aq,Aw,mvL,lnL,mvE,lnE,mvG,mvH,lnG,lnH]
 (repeat' first|(with_reducible first|rfl|exact True.intro|apply AG|apply And.intro|((first|apply Au|apply AE|apply Av|apply AF)<;>intro _))|(apply As<;>intro _)|apply AD|refine Af () ?_ ?_|((first|apply AK|apply AJ|apply AI|apply AH|apply AC|apply AB|apply AA|apply Az|apply Ax)<;>try dsimp only)|apply Af|(refine Prod.forall.2 ?_;intro _;try dsimp only)|(intro _;try dsimp only))<;>(try dsimp only at*)<;>(try simp only[Ai,List.length_cons,List.length_nil])<;>(try omega)
 ·exact b0P ‹_› ‹_› ‹_›
 ·exact b0Q ‹_› ‹_›
 ·exact b0R ‹_›)
def Jo:Sig:= {X:=List UInt8,args:=fun x=>[.str x],pre:=fun x=>x.length<2^62,Y:=Unit,post:=fun x y=>True,res:=fun x y=> .bool (BX x 5),outs:=fun x y=>[.top],keep:=false}
theorem b1n:Ah G Tryz.prog 183 Jo:=
 vcFun_okP [(169,0,HC),(170,0,Kq)] [] false (fun x=>[]) Tryz.func183 rfl (by decide) ⟨b1j,b1c,trivial⟩ (fun(x:List UInt8)=>(∀(y:Unit),True→True∧True∧True)∧Ab (decide ((↑(List.length x):Int)>(1:Int))) (cA HC [.str x,.int .i64 (0:Int)] fun x_1 y=>Ab ((↑(DJ (List.drop (Int.toNat x_1.2) x_1.1)):Int)==(↑(List.length x):Int)) (cA Kq [.str x] fun x_2 y=>rA Jo x [.bool (CU x_2==x),.top]) (rA Jo x [.bool false,.top])) (rA Jo x [.bool false,.top])) (fun x=>by kernel_rfl) fun(x:List UInt8) (hx:x.length<2^62)=>(by
 dsimp only[cA,rA,HC,Jo,Kq,Aq,Aw,mvL,lnL,mvE,lnE,mvG,mvH,lnG,lnH]
 (repeat' first|(with_reducible first|rfl|exact True.intro|apply AG|apply And.intro|((first|apply Au|apply AE|apply Av|apply AF)<;>intro _))|(apply As<;>intro _)|apply AD|refine Af () ?_ ?_|((first|apply AK|apply AJ|apply AI|apply AH|apply AC|apply AB|apply AA|apply Az|apply Ax)<;>try dsimp only)|apply Af|(refine Prod.forall.2 ?_;intro _;try dsimp only)|(intro _;try dsimp only))<;>(try dsimp only at*)<;>(try simp only[Ai,List.length_cons,List.length_nil])<;>(try omega)
 ·exact b0S ‹_› ‹_›
 ·exact b0T ‹_›
 ·exact b0U ‹_›)
def FU:Sig:= {X:=List UInt8,args:=fun x=>[.str x],pre:=fun x=>x.length<2^62,Y:=Unit,post:=fun x y=>True,res:=fun x y=> .bool (Il x),outs:=fun x y=>[.top],keep:=false}
theorem b1o:Ah G Tryz.prog 184 FU:=
 vcFun_okP [] [] false (fun x=>[]) Tryz.func184 rfl (by decide) trivial (fun(x:List UInt8)=>(∀(y:Unit),True→True∧True∧True)∧Ab (x== #[(38:UInt8),(38:UInt8)].toList) (rA FU x [.bool true,.top]) (Ab (x== #[(124:UInt8),(124:UInt8)].toList) (rA FU x [.bool true,.top]) (Ab (x== #[(61:UInt8),(61:UInt8)].toList) (rA FU x [.bool true,.top]) (Ab (x== #[(60:UInt8)].toList) (rA FU x [.bool true,.top]) (Ab (x== #[(43:UInt8)].toList) (rA FU x [.bool true,.top]) (Ab (x== #[(45:UInt8)].toList) (rA FU x [.bool true,.top]) (Ab (x== #[(42:UInt8)].toList) (rA FU x [.bool true,.top]) (rA FU x [.bool false,.top])))))))) (fun x=>by kernel_rfl) fun(x:List UInt8) (hx:x.length<2^62)=>(by
 dsimp only[rA,FU,Aq,Aw]
 (repeat' first|(with_reducible first|rfl|exact True.intro|apply AG|apply And.intro|((first|apply Au|apply AE|apply Av|apply AF)<;>intro _))|(apply As<;>intro _)|apply AD|refine Af () ?_ ?_|((first|apply AK|apply AJ|apply AI|apply AH|apply AC|apply AB|apply AA|apply Az|apply Ax)<;>try dsimp only)|apply Af|(refine Prod.forall.2 ?_;intro _;try dsimp only)|(intro _;try dsimp only))<;>(try dsimp only at*)<;>(try simp only[Ai,List.length_cons,List.length_nil])<;>(try omega)
 all_goals simp [Il, *])
def ET:Sig:= {X:=Int×List UInt8,args:=fun x=>[.int .i64 x.1,.str x.2],pre:=fun x=>x.2.length<2^62,Y:=Unit,post:=fun x y=>True,res:=fun x y=> .bool (Dy x.1 x.2),outs:=fun x y=>[.top,.top],keep:=false}
theorem b1p:Ah G Tryz.prog 144 ET:=
 vcFun_okP [(180,0,Fi),(181,0,Ks),(182,0,Jn),(183,0,Jo),(184,0,FU)] [] false (fun x=>[]) Tryz.func144 rfl (by decide) ⟨b1k,b1l,b1m,b1n,b1o,trivial⟩ (fun(x:Int×List UInt8)=>(∀(y:Unit),True→True∧True∧True∧True)∧Ab (x.1==(1:Int)) (cA Fi [.str x.2] fun x_1 y=>rA ET x [.bool (Da x_1),.top,.top]) (Ab (x.1==(6:Int)) (cA Fi [.str x.2] fun x_1 y=>rA ET x [.bool (Da x_1),.top,.top]) (Ab (x.1==(12:Int)) (cA Fi [.str x.2] fun x_1 y=>rA ET x [.bool (Da x_1),.top,.top]) (Ab (x.1==(13:Int)) (cA Fi [.str x.2] fun x_1 y=>rA ET x [.bool (Da x_1),.top,.top]) (Ab (x.1==(20:Int)) (cA Fi [.str x.2] fun x_1 y=>rA ET x [.bool (Da x_1),.top,.top]) (Ab (x.1==(21:Int)) (cA Fi [.str x.2] fun x_1 y=>rA ET x [.bool (Da x_1),.top,.top]) (Ab (x.1==(2:Int)) (cA Ks [.str x.2] fun x_1 y=>rA ET x [.bool (BX x_1 (2:Int)),.top,.top]) (Ab (x.1==(3:Int)) (cA Jn [.str x.2] fun x_1 y=>rA ET x [.bool (BX x_1 (3:Int)),.top,.top]) (Ab (x.1==(19:Int)) (cA Jo [.str x.2] fun x_1 y=>rA ET x [.bool (BX x_1 (5:Int)),.top,.top]) (Ab (x.1==(7:Int)) (cA FU [.str x.2] fun x_1 y=>rA ET x [.bool (Il x_1),.top,.top]) (rA ET x [.bool (x.2== #[].toList),.top,.top]))))))))))) (fun x=>by kernel_rfl) fun(x:Int×List UInt8) (hx:x.2.length<2^62)=>(by
 dsimp only[cA,rA,FU,Fi,Jo,Ks,Jn,ET,Aq,Aw,mvL,lnL,mvE,lnE,mvG,mvH,lnG,lnH]
 (repeat' first|(with_reducible first|rfl|exact True.intro|apply AG|apply And.intro|((first|apply Au|apply AE|apply Av|apply AF)<;>intro _))|(apply As<;>intro _)|apply AD|refine Af () ?_ ?_|((first|apply AK|apply AJ|apply AI|apply AH|apply AC|apply AB|apply AA|apply Az|apply Ax)<;>try dsimp only)|apply Af|(refine Prod.forall.2 ?_;intro _;try dsimp only)|(intro _;try dsimp only))<;>(try dsimp only at*)<;>(try simp only[Ai,List.length_cons,List.length_nil])<;>(try omega)
 all_goals simp [Dy, *])
end Go.My
end
