/- joined -/
import Derived.Test.YtpkkcecninnjiaaGreatDoorQD
import Derived.Test.YtpkkcecninnjiaaGreatDoorProg
import Derived.WalkKit
import Derived.Lib.Bytealg
import Derived.Laws.Externs
set_option linter.unusedSimpArgs false
set_option linter.unusedVariables false
section
namespace Go.My
open Go.Eng
variable {k:Int}{n:Nat}{ns:List Nd}{p:UInt8→Bool}{s:Aa}
def Bh(c:UInt8):Bool:=decide (48≤c.toNat)&&decide (c.toNat≤57)
def BQ(c:UInt8):Bool:=(decide (97≤c.toNat)&&decide (c.toNat≤122))||((decide (65≤c.toNat)&&decide (c.toNat≤90))||decide (c.toNat=95))
def BA(c:UInt8):Bool:=BQ c||Bh c
def BV(c:UInt8):Bool:=decide (32≤c.toNat)&&decide (c.toNat≤126)
def Cb(c:UInt8):Bool:=decide (c.toNat≠10)
def kw(s:Aa):Bool:=s==[99,108,97,115,115]||(s==[118,97,114]||(s==[105,102]||(s==[101,108,115,101]||(s==[119,104,105,108,101]||s==[114,101,116,117,114,110]))))
def mk2(s:Aa):Bool:=s==[38,38]||(s==[124,124]||(s==[61,61]||(s==[61,62]||s==[46,46])))
def mk1:Aa:=[40,41,123,125,91,93,59,44,46,61,43,45,42,60,63,58]
def BW(s:Aa):Bool:=mk2 s||match s with
 |[c]=>mk1.elem c
 |_=>false
def Dk(p:UInt8→Bool):Aa→Option Nat
 |[]=>none
 |c::s=>if p c then some 0 else(Dk p s).map (· +1)
def Cv(s:Aa):Aa:=(s.reverse.dropWhile (fun c=>decide (c.toNat=32))).reverse
def Df(s:Aa):Aa×Bool:=match Dk (fun c=>decide (c.toNat=39)) (s.drop 1) with
 |none=>([],false)
 |some i=>(s.take (i+2),(s.take (i+2)).all BV)
structure SgR where
 kind:Int
 text:Aa
 size:Int
 ok:Bool
def AW(s:Aa):SgR:=match s with
 |[]=>⟨0,[],0,false⟩
 |b::_=>
  if BQ b then⟨1,s.takeWhile BA,(s.takeWhile BA).length,decide ((s.takeWhile BA).length≤30)⟩
  else if Bh b then⟨2,s.takeWhile Bh,(s.takeWhile Bh).length,decide ((s.takeWhile Bh).length≤12)⟩
  else if b.toNat=39 then⟨3,(Df s).1,(Df s).1.length,(Df s).2⟩
  else if s.take 2=[47,47] then⟨5,Cv (s.takeWhile Cb),(s.takeWhile Cb).length,(s.takeWhile Cb).all BV⟩
  else if BW (s.take 2) then⟨4,s.take 2,(s.take 2).length,true⟩
  else if BW (s.take 1) then⟨4,s.take 1,1,true⟩
  else⟨0,[],0,false⟩
def CK(s:Aa)(k:Int):Bool:= !(s==[])&&((AW s).ok&&(decide ((AW s).kind=k)&&((AW s).text==s&&decide ((AW s).size=s.length))))
def DK(s:Aa):Bool:=CK s 1&& !kw s
def HV(s:Aa):Bool:=s==[38,38]||(s==[124,124]||(s==[61,61]||(s==[60]||(s==[43]||(s==[45]||s==[42])))))
def Fz(k:Int)(s:Aa):Bool:=
 if k=1∨k=6∨k=12∨k=13∨k=20∨k=21 then DK s
 else if k=2 then CK s 2
 else if k=3 then CK s 3
 else if k=19 then CK s 5
 else if k=7 then HV s
 else s==[]
theorem Mj{p:UInt8→Bool}:∀ {s:Aa} {n:Nat},(∀e∈s.take n,p e=true)→(s.length≤n∨∃e,s[n]? =some e∧p e=false)→s.take n=s.takeWhile p
 |[],n,_,_=>by simp
 |c::s,0,_,h=>by
  rcases h with h|⟨e,he,hp⟩
  ·simp at h
  ·simp at he;subst he;simp [List.takeWhile,hp]
 |c::s,n+1,ha,h=>by
  have hc:p c=true:=ha c (by simp)
  rw[Kh,Js,if_pos hc,Mj (fun e he=>ha e (by simp [he]))]
  rcases h with h|⟨e,he,hp⟩
  ·exact .inl (by simpa using h)
  ·exact .inr ⟨e,by simpa using he,hp⟩
theorem TT{e:UInt8}(h:∀e∈s.take n,p e=true)(he:s[n]? =some e)(hp:p e=true):∀e∈s.take (n+1),p e=true:=by
 rw[FS he];intro x hx
 rcases FK.1 hx with hx|hx
 ·exact h x hx
 ·simp at hx;subst hx;exact hp
theorem a1P(h:∀e∈s.take n,p e=true)(hn:s.length≤n):s.all p=true:=by
 rw[EH hn] at h;exact CC.2 h
theorem Wz{e:UInt8}(he:s[n]? =some e)(hp:p e=false):s.all p=false:=by
 rw[FI];intro h
 rw[CC.1 h e (Iv he)] at hp;cases hp
theorem WA:s.takeWhile p=s↔s.all p=true:=by
 constructor
 ·intro h;rw[←h];exact List.all_takeWhile
 ·intro h;induction s with
  |nil=>rfl
  |cons c s ih=>
   simp only[LO,AY] at h
   rw[Js,if_pos h.1,ih h.2]
theorem a1Q{p:UInt8→Bool}:∀ {s:Aa},Dk p s=none↔∀e∈s,p e=false
 |[]=>by simp [Dk]
 |c::s=>by
  unfold Dk
  by_cases h:p c=true
  ·simp [h]
  ·simp [h,a1Q (s:=s)]
theorem OT{p:UInt8→Bool}:∀ {s:Aa} {i:Nat},Dk p s=some i↔(∀e∈s.take i,p e=false)∧∃e,s[i]? =some e∧p e=true
 |[],i=>by simp [Dk]
 |c::s,i=>by
  unfold Dk
  by_cases h:p c=true
  ·cases i with
   |zero=>simp [h]
   |succ i=>simp [h]
  ·cases i with
   |zero=>simp [h]
   |succ i=>
    simp only[h,Bl,Br,FM]
    constructor
    ·rintro⟨j,hj,e⟩
     obtain rfl:j=i:=by omega
     obtain⟨h1,h2⟩:=OT.1 hj
     refine⟨?_,by simpa using h2⟩
     intro e he;simp at he
     rcases he with rfl|he
     ·simpa using h
     ·exact h1 e he
    ·rintro⟨h1,h2⟩
     exact⟨i,OT.2 ⟨fun e he=>h1 e (by simp [he]),by simpa using h2⟩,rfl⟩
def inn(x a b:Int):Bool:=decide (a≤x)&&decide (x≤b)
def DW(l:List Nd)(k:Int):Bool:=decide (0≤k)&&decide (k<l.length)
def Bg(k:Int):Bool:=inn k 1 11
def TU(k:Int):Bool:=inn k 12 17
def GJ(k:Int):Bool:=decide (k=12)||(decide (k=20)||decide (k=19))
def IE(k:Int):Bool:=decide (k=18)
def JI(k:Int):Bool:=decide (k=1)
def Nz(k:Int):Bool:=decide (k=5)
def Gt(k:Int):Bool:=TU k||decide (k=19)
def Mk(k:Int):Bool:=GJ k||decide (k=21)
def JJ(p:Int→Bool)(ks:Ad):Bool:=match ks.getLast? with
 |some k=>p k&&ks.dropLast.all JI
 |none=>false
def HB(k:Int)(ks:Ad):Bool:=
 if k=1∨k=2∨k=3∨k=19 then decide (ks.length=0)
 else if k=4 then ks.all Bg
 else if k=5 then decide (1≤ks.length)&&ks.all Bg
 else if k=7 then decide (2≤ks.length)&&ks.all Bg
 else if k=8 then decide (ks.length=3)&&ks.all Bg
 else if k=6∨k=11∨k=13∨k=14 then decide (ks.length=1)&&ks.all Bg
 else if k=12∨k=15 then decide (ks.length≤1)&&ks.all Bg
 else if k=9 then JJ Bg ks
 else if k=10 then decide (2≤ks.length)&&(Bg (ks.headD 0)&&(ks.drop 1).all Nz)
 else if k=16 then(decide (2≤ks.length)&&decide (ks.length≤3))&&(Bg (ks.headD 0)&&(ks.drop 1).all IE)
 else if k=17 then decide (ks.length=2)&&(Bg (ks.headD 0)&&IE (ks.getD 1 0))
 else if k=18 then ks.all Gt
 else if k=20 then JJ IE ks
 else if k=21 then ks.all GJ
 else if k=22 then ks.all Mk
 else false
def Ab(ns:List Nd)(c:Int):Nd:=ns.getD c.toNat ⟨0,[],[],false⟩
def Ai(ns:List Nd)(c:Int):Int:=(Ab ns c).kind
def OU(ns:List Nd)(x:Nd)(i:Nat)(c:Int):Bool:=
 let y:=Ab ns c
 if y.kind=5 then match y.kids with
  |[]=>false
  |h::_=>DW ns h&& !(decide (x.kind=10)&&(decide (0<i)&& !decide (Ai ns h=1)))
 else true
def TV(ns:List Nd)(x:Nd):Bool:=(x.kids.zipIdx).all fun p=>OU ns x p.2 p.1
def Gu(l:Ad)(k:Int):Bool:=l.all fun c=>decide (0≤c)&&decide (c<k)
def NA(k:Int):Bool:=TU k||(GJ k||decide (k=21))
def TW(ns:List Nd)(k:Int)(x:Nd):Bool:=
 decide (x.kids.length≤12)&&(Fz x.kind x.text&&((Gu x.kids k&&decide x.kids.Nodup)&&(HB x.kind (x.kids.map (Ai ns))&&(TV ns x&&(NA x.kind|| !x.blank)))))
def DC(ns:List Nd)(k:Int):Bool:=DW ns k&&TW ns k (Ab ns k)
def mx(ds:Ad):Ad→Int→Int
 |[],d=>d
 |c::l,d=>mx ds l (max d (ds.getD c.toNat 0))
def Da(ns:List Nd):Nat→Option Ad
 |0=>some []
 |n+1=>match Da ns n with
  |none=>none
  |some ds=>if DC ns n then(if 14≤mx ds (Ab ns n).kids 0 then none else some (ds++[mx ds (Ab ns n).kids 0+1])) else none
def DD(ns:List Nd)(k:Int):Int:=if DW ns k then match Da ns (k.toNat+1) with
    |none=>0
    |some ds=>ds.getD k.toNat 0
 else 0
def Dn(ns:List Nd):Ad:=ns.flatMap (·.kids)
def CT(ns:List Nd):Bool:=
 (decide (1≤ns.length)&&decide (ns.length≤300))&&(decide (Ai ns (ns.length-1)=22)&&(!decide (DD ns (ns.length-1)=0)&&((List.range (ns.length-1)).all fun i=>decide ((Dn ns).count (i:Int)=1))))
theorem BF{l:List Nd}:DW l k=true↔0≤k∧k<l.length:=by simp [DW]
theorem BR{ns:List Nd}{c:Int}{x:Nd}(h:ns[c.toNat]? =some x):Ab ns c=x:=by
 simp [Ab,List.getD,h]
theorem WB(ds:Ad):∀(l:Ad) (d:Int),d≤mx ds l d
 |[],d=>Em d
 |c::l,d=>by unfold mx;have:=WB ds l (max d (ds.getD c.toNat 0));omega
theorem TY{ns:List Nd}:∀ {n:Nat} {ds:Ad},Da ns n=some ds→ds.length=n
 |0,ds,h=>by cases h;rfl
 |n+1,ds,h=>by
  unfold Da at h
  split at h
  ·cases h
  ·rename_i ds' hd
   split at h
   ·split at h
    ·cases h
    ·simp at h;rw[←h];simp [TY hd]
   ·cases h
theorem TZ{ns:List Nd}:∀ {n:Nat} {ds:Ad},Da ns n=some ds→∀d∈ds,1≤d∧d≤14
 |0,ds,h=>by cases h;simp
 |n+1,ds,h=>by
  unfold Da at h
  split at h
  ·cases h
  ·rename_i ds' hd
   split at h
   ·split at h
    ·cases h
    ·simp at h;rw[←h]
     intro d hdm
     rcases FK.1 hdm with hdm|hdm
     ·exact TZ hd d hdm
     ·simp at hdm
      have:=WB ds' (Ab ns n).kids 0
      omega
   ·cases h
theorem a1R{ns:List Nd}:∀ {n:Nat} {ds:Ad},Da ns n=some ds→∀i,i<n→DC ns i=true
 |0,ds,h,i,hi=>by omega
 |n+1,ds,h,i,hi=>by
  unfold Da at h
  split at h
  ·cases h
  ·rename_i ds' hd
   split at h
   ·rename_i hok
    by_cases e:i=n
    ·subst e;exact hok
    ·exact a1R hd i (by omega)
   ·cases h
theorem b7B{m:Nat}(h:Da ns n=none)(hm:n≤m):Da ns m=none:=by
 induction m with
 |zero=>obtain rfl:n=0:=by omega
        exact h
 |succ m ih=>
  by_cases e:n=m+1
  ·subst e;exact h
  ·unfold Da;rw[ih (by omega)]
theorem Ua(h:DD ns k≠0):DW ns k=true∧(∃ds,Da ns (k.toNat+1)=some ds)∧∀i:Nat,(i:Int)≤k→DC ns i=true:=by
 unfold DD at h
 split at h
 ·rename_i hn
  split at h
  ·exact(h rfl).elim
  ·rename_i ds hd
   exact⟨hn,⟨ds,hd⟩,fun i hi=>a1R hd i (by have:=BF.1 hn;omega)⟩
 ·exact(h rfl).elim
theorem a1S{ns:List Nd}{k:Int}:0≤DD ns k:=by
 unfold DD
 split
 ·split
  ·exact Em 0
  ·rename_i ds hd
   rw[List.getD]
   cases h:ds[k.toNat]? with
   |none=>simp
   |some d=>have:=TZ hd d (Iv h);simp;omega
 ·exact Em 0
theorem b7C{ds:Ad}(hn:DW ns k=true)(h:Da ns (k.toNat+1)=some ds):DD ns k≠0:=by
 unfold DD
 rw[if_pos hn,h]
 have hl:=TY h
 have:ds[k.toNat]? =some ds[k.toNat]:=by simp
 simp only[List.getD,this,LT]
 have:=TZ h ds[k.toNat] (by simp)
 omega
theorem CU(h:DC ns k=true):(0≤k∧k<ns.length)∧(Ab ns k).kids.length≤12∧Fz (Ab ns k).kind (Ab ns k).text=true∧
 (∀c∈(Ab ns k).kids,0≤c∧c<k)∧(Ab ns k).kids.Nodup∧HB (Ab ns k).kind ((Ab ns k).kids.map (Ai ns))=true∧TV ns (Ab ns k)=true:=by
 simp only[DC,TW,AY,Bf,Gu,CC] at h
 exact⟨BF.1 h.1,h.2.1,h.2.2.1,h.2.2.2.1.1,h.2.2.2.1.2,h.2.2.2.2.1,h.2.2.2.2.2.1⟩
end Go.My
end
section
namespace Go.My
open Go.Eng Go.Proofs Go.RowKit
variable {G:GInv}
def Dl(s:Aa)(c:UInt8):Int:=match Dk (fun d=>decide (d.toNat=c.toNat)) s with
 |none=> -1
 |some i=>i
theorem a8m:∀(s:Aa) (c:UInt8),Lib.indexByte s c=Dl s c
 |[],c=>rfl
 |b::s,c=>by
  unfold Lib.indexByte Dl Dk
  have e:(b==c)=decide (b.toNat=c.toNat):=by
   rw[DR];simp [UInt8.toNat_inj]
  rw[e]
  by_cases h:b.toNat=c.toNat
  ·simp [h]
  ·have ih:=a8m s c
   unfold Dl at ih
   simp only[h,decide_false,Bl,Br]
   rw[ih]
   cases hh:Dk (fun d=>decide (d.toNat=c.toNat)) s with
   |none=>simp
   |some i=>simp
set_option maxHeartbeats 1000000 in
set_option maxRecDepth 100000 in
theorem b7D(s:ByteArray)(c:Int)(w:World):
 Calls Tryz.prog 102 #[.string s,.int .u8 c] w fun e w'=>e= .returned (.int .i64 (Lib.indexByte s.data.toList c.toNat.toUInt8))∧w'=w:=by
 go_enter Tryz.func102,Tryz.ntmps102
 go_wp2
 rw[run_callFunc_extern Tryz.func129 (by kernel_rfl) (by kernel_rfl) (by kernel_rfl) (e:=Extern.BytealgIndexByte.indexByte) (by kernel_rfl),Lib.run_indexByteString]
 simp only[Result.andThen]
 rw[Oper.upon_value]
 go_wp2
 go_ret
 exact⟨rfl,rfl⟩
def Rj:Sig:=⟨Aa×UInt8,fun x=>[.str x.1,.int .u8 x.2.toNat],fun _=>True,Unit,fun _ _=>True,fun x _=> .int .i64 (Dl x.1 x.2),fun _ _=>[.top,.top],false,[],[]⟩
theorem a1T:CtG G 102 Rj:=by
 refine⟨⟨⟨_,Tryz.func102,by kernel_rfl,by kernel_rfl⟩,fun x y _ _=>⟨trivial,trivial,trivial,trivial⟩⟩,?_⟩
 rintro⟨l,c⟩ _ Z w vals A _ h hA _
 simp only[Rj,AU,Aj] at h
 obtain⟨v,cs,A1,A2,rfl,_,⟨rfl,_⟩,v',cs',A3,A4,rfl,_,⟨rfl,_⟩,rfl,_⟩:=h
 refine(b7D ⟨l.toArray⟩ c.toNat w).mono ?_
 rintro e w' ⟨rfl,rfl⟩
 refine⟨(),_,Z,(fun _=>False),trivial,rfl,?_,⟨rfl,rfl,rfl,Bu _,fun _ _ _=>⟨rfl,Cg⟩,fun _ h=>h.elim⟩⟩
 simp only[Rj,AU,Aj]
 refine⟨_,_,_,_,rfl,Cu _,⟨?_,AI⟩,_,_,_,_,rfl,Cu _,AI,_,_,_,_,rfl,Cu _,AI,rfl,AI⟩
 rw[a8m];simp
def WD:Sig:=⟨Aa,fun x=>[.str x,.int .u8 39],fun _=>True,Unit,fun _ _=>True,fun x _=> .int .i64 (Dl x 39),fun _ _=>[.top,.top],false,[],[]⟩
theorem b7E:CtG G 102 WD:=⟨⟨(a1T (G:=G)).1.1,fun x y _ _=>⟨trivial,trivial,trivial,trivial⟩⟩,fun x hx=>(a1T (G:=G)).2 (x,39) trivial⟩
def Rk:Sig:=⟨Aa,fun x=>[.str x,.int .u8 39],fun x=>True,Unit,fun x y=>True,fun x y=> .q (Dl x 39),fun x y=>[.top,.top],false,[],[]⟩
theorem b7F:CtG G 86 Rk:=
 vFq [(102,0,WD)] [] (fun x=>[]) Tryz.func86 ⟨b7E,trivial⟩ (fun(x:Aa)=>U4∧cA WD [.str x,AV.int IntKind.u8 (39:Int)] fun x_1 y=>rA Rk x [.q (Dl x_1 (39:UInt8)),.top,.top]) (by kernel_rfl) fun(x:Aa) (hx:True)=>(by
 dsimp only[U4,cA,rA,WD,Rk,AB,AF,mvL,lnL,mvE,lnE,AV.q]
 (repeat' first|(with_reducible first|rfl|exact⟨⟩|apply AG|apply AM)|apply AL|(apply AK<;>try dsimp only)|apply AJ|((try refine AH.2 ?_);intro _;try dsimp only))<;>(try dsimp only at*)<;>(try simp only[Aw,AE,AX])<;>(try omega))
def Ml:Sig:=⟨Aa×Aa,fun x=>[.str x.1,.str x.2],fun x=>x.2.length=1,Unit,fun x y=>True,fun x y=> .q (Dl x.1 (x.2.headD 0)),fun x y=>[.top,.top],false,[],[]⟩
theorem b7G:CtG G 133 Ml:=
 vFq [(102,0,Rj)] [] (fun x=>[]) Tryz.func133 ⟨a1T,trivial⟩ (fun x=>U4∧Ae ((nL x.2)==(0:Int)) (rA Ml x [.q 0,.top,.top]) (Ae (x.2==x.1) (rA Ml x [.q 0,.top,.top]) (Ae ((nL x.2)==(1:Int)) (((0:Int)≤(0:Int)∧0<(nL x.2))∧∀(c:UInt8),x.2[(0:Nat)]? =some c→cA Rj [.str x.1,AV.int IntKind.u8 (↑(UInt8.toNat c):Int)] fun x_1 y=>rA Ml x [.q (Dl x_1.1 x_1.2),.top,.top]) (Ae (decide ((nL x.2)≥(nL x.1))) (rA Ml x [.q (-1:Int),.top,.top]) False)))) (by kernel_rfl) fun(x:Aa×Aa) (hx:x.2.length=1)=>(by
 dsimp only[nL,U4,cA,rA,Rj,Ml,AB,AF,mvL,lnL,mvE,lnE,AV.q]
 (repeat' first|(with_reducible first|rfl|exact⟨⟩|apply AG|apply AM)|apply AL|(apply AK<;>try dsimp only)|apply AJ|((try refine AH.2 ?_);intro _;try dsimp only))<;>(try dsimp only at*)<;>(try simp only[Aw,AE,AX])<;>(try omega)
 ·rename_i _ h;rw[←h];match x.2,hx with
  |[c],_=>simp [Dl,Dk]
 ·rename_i c hc _ _
  match x.2,hx,hc with
  |[d],_,hc=>simp at hc;rw[←hc];rfl)
def Rl:Sig:=⟨Aa×Aa,fun x=>[.str x.1,.str x.2],fun x=>x.2.length=1,Unit,fun x y=>True,fun x y=> .q (Dl x.1 (x.2.headD 0)),fun x y=>[.top,.top],false,[],[]⟩
theorem b7H:CtG G 107 Rl:=
 vFq [(133,0,Ml)] [] (fun x=>[]) Tryz.func107 ⟨b7G,trivial⟩ (fun x=>U4∧cA Ml [.str x.1,.str x.2] fun x_1 y=>rA Rl x [.q (Dl x_1.1 (List.headD x_1.2 (0:UInt8))),.top,.top]) (by kernel_rfl) fun(x:Aa×Aa) (hx:x.2.length=1)=>(by
 dsimp only[U4,cA,rA,Rl,Ml,AB,AF,mvL,lnL,mvE,lnE,AV.q]
 (repeat' first|(with_reducible first|rfl|exact⟨⟩|apply AG|apply AM)|apply AL|(apply AK<;>try dsimp only)|apply AJ|((try refine AH.2 ?_);intro _;try dsimp only))<;>(try dsimp only at*)<;>(try simp only[Aw,AE,AX])<;>(try omega))
def Rm:Sig:=⟨Aa×Aa,fun x=>[.str x.1,.str x.2],fun x=>x.2.length=1,Unit,fun x y=>True,fun x y=> .bool (decide (Dl x.1 (x.2.headD 0)≥0)),fun x y=>[.top,.top],false,[],[]⟩
theorem b7I:CtG G 89 Rm:=
 vFq [(107,0,Rl)] [] (fun x=>[]) Tryz.func89 ⟨b7H,trivial⟩ (fun x=>U4∧cA Rl [.str x.1,.str x.2] fun x_1 y=>rA Rm x [.bool (decide (Dl x_1.1 (List.headD x_1.2 (0:UInt8))≥0)),.top,.top]) (by kernel_rfl) fun(x:Aa×Aa) (hx:x.2.length=1)=>(by
 dsimp only[U4,cA,rA,Rm,Rl,AB,AF,mvL,lnL,mvE,lnE]
 (repeat' first|(with_reducible first|rfl|exact⟨⟩|apply AG|apply AM)|apply AL|(apply AK<;>try dsimp only)|apply AJ|((try refine AH.2 ?_);intro _;try dsimp only))<;>(try dsimp only at*)<;>(try simp only[Aw,AE,AX])<;>(try omega))
def OW:Sig:=⟨Aa×Aa,fun x=>[.str x.1,.str x.2],fun x=>x.2.length<2^62∧x.1.length<2^63,Unit,fun x y=>True,fun x y=> .bool (x.1.take x.2.length==x.2),fun x y=>[.top,.top],false,[],[]⟩
theorem b7J:CtG G 87 OW:=
 vFq [] [] (fun x=>[]) Tryz.func87 trivial (fun x=>U4∧Ae (decide ((nL x.1)≥(nL x.2))) (((0:Int)≤(0:Int)∧0≤(nL x.2)∧(nL x.2)≤(nL x.1))∧rA OW x [.bool (List.take (Int.toNat (nL x.2)) x.1==x.2),.top,.top]) (rA OW x [.bool false,.top,.top])) (by kernel_rfl) fun(x:Aa×Aa) (hx:x.2.length<2^62∧x.1.length<2^63)=>(by
 dsimp only[nL,U4,rA,OW,AB,AF]
 obtain⟨h1,h2⟩:=hx
 (repeat' first|(with_reducible first|rfl|exact⟨⟩|apply AG|apply AM)|apply AL|(apply AK<;>try dsimp only)|apply AJ|((try refine AH.2 ?_);intro _;try dsimp only))<;>(try dsimp only at*)<;>(try simp only[Aw,AE,AX])<;>(try omega)
 ·simp
 ·rename_i h;rw[eq_comm,QC];intro e;have:=congrArg List.length e;simp at this;omega)
def Rn:Sig:=⟨Aa×Aa,fun x=>[.str x.1,.str x.2],fun x=>x.2.length<2^62∧x.1.length<2^63,Unit,fun x y=>True,fun x y=> .bool (x.1.take x.2.length==x.2),fun x y=>[.top,.top],false,[],[]⟩
theorem b7K:CtG G 62 Rn:=
 vFq [(87,0,OW)] [] (fun x=>[]) Tryz.func62 ⟨b7J,trivial⟩ (fun x=>U4∧cA OW [.str x.1,.str x.2] fun x_1 y=>rA Rn x [.bool (List.take (x_1.2.length) x_1.1==x_1.2),.top,.top]) (by kernel_rfl) fun(x:Aa×Aa) (hx:x.2.length<2^62∧x.1.length<2^63)=>(by
 dsimp only[U4,cA,rA,Rn,OW,AB,AF,mvL,lnL,mvE,lnE]
 obtain⟨h1,h2⟩:=hx
 (repeat' first|(with_reducible first|rfl|exact⟨⟩|apply AG|apply AM)|apply AL|(apply AK<;>try dsimp only)|apply AJ|((try refine AH.2 ?_);intro _;try dsimp only))<;>(try dsimp only at*)<;>(try simp only[Aw,AE,AX])<;>(try omega))
end Go.My
end
section
namespace Go.My
open Go.Eng Go.Proofs
variable {G:GInv}
def BZ:Sig:=⟨Int×Int×Int,fun x=>[.q x.1,.q x.2.1,.q x.2.2],fun x=>True,Unit,fun x y=>True,fun x y=> .bool (inn x.1 x.2.1 x.2.2),fun x y=>[.top,.top,.top],false,[],[]⟩
theorem JK:CtG G 20 BZ:=
 vFq [] [] (fun x=>[]) Tryz.func20 trivial (fun x=>U5∧Ae (decide (x.1≥x.2.1)) (rA BZ x [.bool (decide (x.1≤x.2.2)),.top,.top,.top]) (rA BZ x [.bool false,.top,.top,.top])) (by kernel_rfl) fun(x:Int×Int×Int) (hx:True)=>(by
 dsimp only[U5,rA,BZ,AB,AF,AV.q]
 (repeat' first|(with_reducible first|rfl|exact⟨⟩|apply AG|apply AM)|apply AL|(apply AK<;>try dsimp only)|apply AJ|((try refine AH.2 ?_);intro _;try dsimp only))<;>(try dsimp only at*)<;>(try simp only[Aw,AE,AX])<;>(try omega)
 all_goals simp [inn, *])
def IG:Sig:=⟨UInt8,fun x=>[.int .u8 x.toNat],fun x=>True,Unit,fun x y=>True,fun x y=> .bool (Bh x),fun x y=>[.top],false,[],[]⟩
theorem a1U:CtG G 60 IG:=
 vFq [] [] (fun x=>[]) Tryz.func60 trivial (fun(x:UInt8)=>U3∧Ae (decide ((↑(UInt8.toNat x):Int)≥(48:Int))) (rA IG x [.bool (decide ((↑(UInt8.toNat x):Int)≤(57:Int))),.top]) (rA IG x [.bool false,.top])) (by kernel_rfl) fun(x:UInt8) (hx:True)=>(by
 dsimp only[U3,rA,IG,AB,AF]
 (repeat' first|(with_reducible first|rfl|exact⟨⟩|apply AG|apply AM)|apply AL|(apply AK<;>try dsimp only)|apply AJ|((try refine AH.2 ?_);intro _;try dsimp only))<;>(try dsimp only at*)<;>(try simp only[Aw,AE,AX])<;>(try omega)
 all_goals(rw[DR];simp only[Bh,AY,CG,Bf,EV,GY,LV,ne_eq,DB,LM,reduceCtorEq,Bl,Mc,LW,LZ,LY,Mb,Ma]<;>omega))
def HC:Sig:=⟨UInt8,fun x=>[.int .u8 x.toNat],fun x=>True,Unit,fun x y=>True,fun x y=> .bool (Bh x),fun x y=>[.top],false,[],[]⟩
theorem a1V:CtG G 70 HC:=
 vFq [] [] (fun x=>[]) Tryz.func70 trivial (fun(x:UInt8)=>U3∧Ae (decide ((↑(UInt8.toNat x):Int)≥(48:Int))) (rA HC x [.bool (decide ((↑(UInt8.toNat x):Int)≤(57:Int))),.top]) (rA HC x [.bool false,.top])) (by kernel_rfl) fun(x:UInt8) (hx:True)=>(by
 dsimp only[U3,rA,HC,AB,AF]
 (repeat' first|(with_reducible first|rfl|exact⟨⟩|apply AG|apply AM)|apply AL|(apply AK<;>try dsimp only)|apply AJ|((try refine AH.2 ?_);intro _;try dsimp only))<;>(try dsimp only at*)<;>(try simp only[Aw,AE,AX])<;>(try omega)
 all_goals(rw[DR];simp only[Bh,AY,CG,Bf,EV,GY,LV,ne_eq,DB,LM,reduceCtorEq,Bl,Mc,LW,LZ,LY,Mb,Ma]<;>omega))
def HD:Sig:=⟨UInt8,fun x=>[.int .u8 x.toNat],fun x=>True,Unit,fun x y=>True,fun x y=> .bool (BQ x),fun x y=>[.top],false,[],[]⟩
theorem a8n:CtG G 57 HD:=
 vFq [] [] (fun x=>[]) Tryz.func57 trivial (fun(x:UInt8)=>U3∧Ae (decide ((↑(UInt8.toNat x):Int)≥(97:Int))) (Ae (decide ((↑(UInt8.toNat x):Int)≤(122:Int))) (rA HD x [.bool true,.top]) (Ae (decide ((↑(UInt8.toNat x):Int)≥(65:Int))) (Ae (decide ((↑(UInt8.toNat x):Int)≤(90:Int))) (rA HD x [.bool true,.top]) (rA HD x [.bool ((↑(UInt8.toNat x):Int)==(95:Int)),.top])) (rA HD x [.bool ((↑(UInt8.toNat x):Int)==(95:Int)),.top]))) (Ae (decide ((↑(UInt8.toNat x):Int)≥(65:Int))) (Ae (decide ((↑(UInt8.toNat x):Int)≤(90:Int))) (rA HD x [.bool true,.top]) (rA HD x [.bool ((↑(UInt8.toNat x):Int)==(95:Int)),.top])) (rA HD x [.bool ((↑(UInt8.toNat x):Int)==(95:Int)),.top]))) (by kernel_rfl) fun(x:UInt8) (hx:True)=>(by
 dsimp only[U3,rA,HD,AB,AF]
 (repeat' first|(with_reducible first|rfl|exact⟨⟩|apply AG|apply AM)|apply AL|(apply AK<;>try dsimp only)|apply AJ|((try refine AH.2 ?_);intro _;try dsimp only))<;>(try dsimp only at*)<;>(try simp only[Aw,AE,AX])<;>(try omega)
 all_goals(rw[DR];simp only[BQ,AY,CG,Bf,EV,GY,LV,ne_eq,DB,LM,reduceCtorEq,Bl,Mc,LW,LZ,LY,Mb,Ma]<;>omega))
def GK:Sig:=⟨UInt8,fun x=>[.int .u8 x.toNat],fun x=>True,Unit,fun x y=>True,fun x y=> .bool (BQ x),fun x y=>[.top],false,[],[]⟩
theorem a8o:CtG G 69 GK:=
 vFq [] [] (fun x=>[]) Tryz.func69 trivial (fun(x:UInt8)=>U3∧Ae (decide ((↑(UInt8.toNat x):Int)≥(97:Int))) (Ae (decide ((↑(UInt8.toNat x):Int)≤(122:Int))) (rA GK x [.bool true,.top]) (Ae (decide ((↑(UInt8.toNat x):Int)≥(65:Int))) (Ae (decide ((↑(UInt8.toNat x):Int)≤(90:Int))) (rA GK x [.bool true,.top]) (rA GK x [.bool ((↑(UInt8.toNat x):Int)==(95:Int)),.top])) (rA GK x [.bool ((↑(UInt8.toNat x):Int)==(95:Int)),.top]))) (Ae (decide ((↑(UInt8.toNat x):Int)≥(65:Int))) (Ae (decide ((↑(UInt8.toNat x):Int)≤(90:Int))) (rA GK x [.bool true,.top]) (rA GK x [.bool ((↑(UInt8.toNat x):Int)==(95:Int)),.top])) (rA GK x [.bool ((↑(UInt8.toNat x):Int)==(95:Int)),.top]))) (by kernel_rfl) fun(x:UInt8) (hx:True)=>(by
 dsimp only[U3,rA,GK,AB,AF]
 (repeat' first|(with_reducible first|rfl|exact⟨⟩|apply AG|apply AM)|apply AL|(apply AK<;>try dsimp only)|apply AJ|((try refine AH.2 ?_);intro _;try dsimp only))<;>(try dsimp only at*)<;>(try simp only[Aw,AE,AX])<;>(try omega)
 all_goals(rw[DR];simp only[BQ,AY,CG,Bf,EV,GY,LV,ne_eq,DB,LM,reduceCtorEq,Bl,Mc,LW,LZ,LY,Mb,Ma]<;>omega))
def OX:Sig:=⟨UInt8,fun x=>[.int .u8 x.toNat],fun x=>True,Unit,fun x y=>True,fun x y=> .bool (BA x),fun x y=>[.top],false,[],[]⟩
theorem b7L:CtG G 59 OX:=
 vFq [(57,0,HD),(60,0,IG)] [] (fun x=>[]) Tryz.func59 ⟨a8n,a1U,trivial⟩ (fun(x:UInt8)=>U3∧cA HD [AV.int IntKind.u8 (↑(UInt8.toNat x):Int)] fun x_1 y=>Ae (BQ x_1) (rA OX x [.bool true,.top]) (cA IG [AV.int IntKind.u8 (↑(UInt8.toNat x):Int)] fun x_2 y=>rA OX x [.bool (Bh x_2),.top])) (by kernel_rfl) fun(x:UInt8) (hx:True)=>(by
 dsimp only[U3,cA,rA,IG,HD,OX,AB,AF,mvL,lnL,mvE,lnE]
 (repeat' first|(with_reducible first|rfl|exact⟨⟩|apply AG|apply AM)|apply AL|(apply AK<;>try dsimp only)|apply AJ|((try refine AH.2 ?_);intro _;try dsimp only))<;>(try dsimp only at*)<;>(try simp only[Aw,AE,AX])<;>(try omega)
 all_goals simp [BA, *])
def IH:Sig:=⟨UInt8,fun x=>[.int .u8 x.toNat],fun x=>True,Unit,fun x y=>True,fun x y=> .bool (BV x),fun x y=>[.top],false,[],[]⟩
theorem a1W:CtG G 90 IH:=
 vFq [] [] (fun x=>[]) Tryz.func90 trivial (fun(x:UInt8)=>U3∧Ae (decide ((↑(UInt8.toNat x):Int)≥(32:Int))) (rA IH x [.bool (decide ((↑(UInt8.toNat x):Int)≤(126:Int))),.top]) (rA IH x [.bool false,.top])) (by kernel_rfl) fun(x:UInt8) (hx:True)=>(by
 dsimp only[U3,rA,IH,AB,AF]
 (repeat' first|(with_reducible first|rfl|exact⟨⟩|apply AG|apply AM)|apply AL|(apply AK<;>try dsimp only)|apply AJ|((try refine AH.2 ?_);intro _;try dsimp only))<;>(try dsimp only at*)<;>(try simp only[Aw,AE,AX])<;>(try omega)
 all_goals(rw[DR];simp only[BV,AY,CG,Bf,EV,GY,LV,ne_eq,DB,LM,reduceCtorEq,Bl,Mc,LW,LZ,LY,Mb,Ma]<;>omega))
def Ro:Sig:=⟨UInt8,fun x=>[.int .u8 x.toNat],fun x=>True,Unit,fun x y=>True,fun x y=> .bool (Cb x),fun x y=>[.top],false,[],[]⟩
theorem b7M:CtG G 63 Ro:=
 vFq [] [] (fun x=>[]) Tryz.func63 trivial (fun(x:UInt8)=>U3∧rA Ro x [.bool ((↑(UInt8.toNat x):Int) != (10:Int)),.top]) (by kernel_rfl) fun(x:UInt8) (hx:True)=>(by
 dsimp only[U3,rA,Ro,AB,AF]
 (repeat' first|(with_reducible first|rfl|exact⟨⟩|apply AG|apply AM)|apply AL|(apply AK<;>try dsimp only)|apply AJ|((try refine AH.2 ?_);intro _;try dsimp only))<;>(try dsimp only at*)<;>(try simp only[Aw,AE,AX])<;>(try omega)
 all_goals(rw[DR];simp only[Cb,AY,CG,Bf,EV,GY,LV,ne_eq,DB,LM,reduceCtorEq,Bl,Mc,LW,LZ,LY,Mb,Ma]<;>omega))
def FA(p:UInt8→Bool)(x:Aa)(rs:Int→List (Nat×AV)):LS:=⟨Int,fun i=>0≤i∧i≤x.length∧∀e∈x.take i.toNat,p e=true,rs,[],fun i=>x.length-i.toNat,fun _=>[],[]⟩
def Kp:Sig:=⟨Aa,fun x=>[.str x],fun x=>x.length<2^63,Unit,fun x y=>True,fun x y=> .bool (x.all BV),fun x y=>[.top],false,[],[]⟩
theorem a8p:CtG G 65 Kp:=
 vFq [] [] (fun x=>[(2,FA BV x fun i=>[(0,.str x),(3,.q i)])]) Tryz.func65 trivial (fun(x:Aa)=>U3∧eA (FA BV x fun(i:Int)=>[((0:Nat),.str x),((3:Nat),.q i)]) [.str x,.q 0]∧∀(i:Int),(0≤i∧i≤(nL x)∧∀(e:UInt8),e∈List.take (Int.toNat i) x→BV e=true)→Ae (decide (i<(nL x))) ((0≤i∧i<(nL x))∧∀(c:UInt8),x[Int.toNat i]? =some c→Ae (decide ((↑(UInt8.toNat c):Int)<(32:Int))) (rA Kp x [.bool false,.top]) ((0≤i∧i<(nL x))∧∀(c:UInt8),x[Int.toNat i]? =some c→Ae (decide ((↑(UInt8.toNat c):Int)>(126:Int))) (rA Kp x [.bool false,.top]) (inR .i64 (i+1)∧eN (FA BV x fun(i:Int)=>[((0:Nat),.str x),((3:Nat),.q i)]) i [.str x,.q (i+1)]))) (rA Kp x [.bool true,.top])) (by kernel_rfl) fun(x:Aa) (hx:x.length<2^63)=>(by
 dsimp only[nL,U3,eA,eN,FA,rA,Kp,AB,AF,Bn,AV.q]
 (repeat' first|(with_reducible first|rfl|exact⟨⟩|apply AG|apply AM)|apply AL|(apply AK<;>try dsimp only)|apply AJ|((try refine AH.2 ?_);intro _;try dsimp only))<;>(try dsimp only at*)<;>(try simp only[Aw,AE,AX])<;>(try omega)
 ·rename_i h;simp at h
 ·rename_i i hi hl c hc h;exact(Wz hc (by(rw[DR];simp only[BV,AY,CG,Bf,EV,GY,LV,ne_eq,DB,LM,reduceCtorEq,Bl,Mc,LW,LZ,LY,Mb,Ma]<;>omega))).symm
 ·rename_i i hi hl c hc h d hd h2;exact(Wz hd (by(rw[DR];simp only[BV,AY,CG,Bf,EV,GY,LV,ne_eq,DB,LM,reduceCtorEq,Bl,Mc,LW,LZ,LY,Mb,Ma]<;>omega))).symm
 ·rename_i i hi hl c hc h d hd h2 e he
  rw[hc] at hd;cases hd
  rw[CW hi.1] at he;exact TT hi.2.2 hc (by(rw[DR];simp only[BV,AY,CG,Bf,EV,GY,LV,ne_eq,DB,LM,reduceCtorEq,Bl,Mc,LW,LZ,LY,Mb,Ma]<;>omega)) e he
 ·rename_i i hi hl;exact(a1P hi.2.2 (by omega)).symm)
def OY:Sig:=⟨Aa,fun x=>[.str x,.clo (.func 59) []],fun x=>x.length<2^63,Unit,fun x y=>True,fun x y=> .str (x.takeWhile BA),fun x y=>[.top,.top],false,[],[]⟩
theorem b7N:CtG G 58 OY:=
 vFq [(59,0,OX)] [] (fun x=>[(2,FA BA x fun i=>[(0,.str x),(1,.clo (.func 59) []),(5,.q i)])]) Tryz.func58 ⟨b7L,trivial⟩ (fun(x:Aa)=>U4∧eA (FA BA x fun(i:Int)=>[((0:Nat),.str x),((1:Nat),AV.clo (Fn.func (84:FuncId)) []),((5:Nat),.q i)]) [.str x,AV.clo (Fn.func (84:FuncId)) [],.q 0]∧∀(i:Int),(0≤i∧i≤(nL x)∧∀(e:UInt8),e∈List.take (Int.toNat i) x→BA e=true)→Ae (decide (i<(nL x))) ((0≤i∧i<(nL x))∧∀(c:UInt8),x[Int.toNat i]? =some c→cA OX [AV.int IntKind.u8 (↑(UInt8.toNat c):Int)] fun x_1 y=>Ae (BA x_1) (inR .i64 (i+1)∧eN (FA BA x fun(i:Int)=>[((0:Nat),.str x),((1:Nat),AV.clo (Fn.func (84:FuncId)) []),((5:Nat),.q i)]) i [.str x,AV.clo (Fn.func (84:FuncId)) [],.q (i+1)]) (((0:Int)≤(0:Int)∧0≤i∧i≤(nL x))∧rA OY x [.str (List.take (Int.toNat i) x),.top,.top])) (((0:Int)≤(0:Int)∧0≤i∧i≤(nL x))∧rA OY x [.str (List.take (Int.toNat i) x),.top,.top])) (by kernel_rfl) fun(x:Aa) (hx:x.length<2^63)=>(by
 dsimp only[nL,U4,cA,eA,eN,FA,rA,OX,OY,AB,AF,mvL,lnL,mvE,lnE,Bn,AV.q]
 (repeat' first|(with_reducible first|rfl|exact⟨⟩|apply AG|apply AM)|apply AL|(apply AK<;>try dsimp only)|apply AJ|((try refine AH.2 ?_);intro _;try dsimp only))<;>(try dsimp only at*)<;>(try simp only[Aw,AE,AX])<;>(try omega)
 ·rename_i h;simp at h
 ·rename_i i hi hl c hc y _ hp e he
  rw[CW hi.1] at he;exact TT hi.2.2 hc hp e he
 ·rename_i i hi hl c hc y _ hp
  exact Mj hi.2.2 (.inr ⟨c,hc,hp⟩)
 ·rename_i i hi hl
  exact Mj hi.2.2 (.inl (by omega)))
def OZ:Sig:=⟨Aa,fun x=>[.str x,.clo (.func 60) []],fun x=>x.length<2^63,Unit,fun x y=>True,fun x y=> .str (x.takeWhile Bh),fun x y=>[.top,.top],false,[],[]⟩
theorem b7O:CtG G 58 OZ:=
 vFq [(60,0,IG)] [] (fun x=>[(2,FA Bh x fun i=>[(0,.str x),(1,.clo (.func 60) []),(5,.q i)])]) Tryz.func58 ⟨a1U,trivial⟩ (fun(x:Aa)=>U4∧eA (FA Bh x fun(i:Int)=>[((0:Nat),.str x),((1:Nat),AV.clo (Fn.func (85:FuncId)) []),((5:Nat),.q i)]) [.str x,AV.clo (Fn.func (85:FuncId)) [],.q 0]∧∀(i:Int),(0≤i∧i≤(nL x)∧∀(e:UInt8),e∈List.take (Int.toNat i) x→Bh e=true)→Ae (decide (i<(nL x))) ((0≤i∧i<(nL x))∧∀(c:UInt8),x[Int.toNat i]? =some c→cA IG [AV.int IntKind.u8 (↑(UInt8.toNat c):Int)] fun x_1 y=>Ae (Bh x_1) (inR .i64 (i+1)∧eN (FA Bh x fun(i:Int)=>[((0:Nat),.str x),((1:Nat),AV.clo (Fn.func (85:FuncId)) []),((5:Nat),.q i)]) i [.str x,AV.clo (Fn.func (85:FuncId)) [],.q (i+1)]) (((0:Int)≤(0:Int)∧0≤i∧i≤(nL x))∧rA OZ x [.str (List.take (Int.toNat i) x),.top,.top])) (((0:Int)≤(0:Int)∧0≤i∧i≤(nL x))∧rA OZ x [.str (List.take (Int.toNat i) x),.top,.top])) (by kernel_rfl) fun(x:Aa) (hx:x.length<2^63)=>(by
 dsimp only[nL,U4,cA,eA,eN,FA,rA,IG,OZ,AB,AF,mvL,lnL,mvE,lnE,Bn,AV.q]
 (repeat' first|(with_reducible first|rfl|exact⟨⟩|apply AG|apply AM)|apply AL|(apply AK<;>try dsimp only)|apply AJ|((try refine AH.2 ?_);intro _;try dsimp only))<;>(try dsimp only at*)<;>(try simp only[Aw,AE,AX])<;>(try omega)
 ·rename_i h;simp at h
 ·rename_i i hi hl c hc y _ hp e he
  rw[CW hi.1] at he;exact TT hi.2.2 hc hp e he
 ·rename_i i hi hl c hc y _ hp
  exact Mj hi.2.2 (.inr ⟨c,hc,hp⟩)
 ·rename_i i hi hl
  exact Mj hi.2.2 (.inl (by omega)))
def Pa:Sig:=⟨Aa,fun x=>[.str x,.clo (.func 63) []],fun x=>x.length<2^63,Unit,fun x y=>True,fun x y=> .str (x.takeWhile Cb),fun x y=>[.top,.top],false,[],[]⟩
theorem b7P:CtG G 58 Pa:=
 vFq [(63,0,Ro)] [] (fun x=>[(2,FA Cb x fun i=>[(0,.str x),(1,.clo (.func 63) []),(5,.q i)])]) Tryz.func58 ⟨b7M,trivial⟩ (fun(x:Aa)=>U4∧eA (FA Cb x fun(i:Int)=>[((0:Nat),.str x),((1:Nat),AV.clo (Fn.func (88:FuncId)) []),((5:Nat),.q i)]) [.str x,AV.clo (Fn.func (88:FuncId)) [],.q 0]∧∀(i:Int),(0≤i∧i≤(nL x)∧∀(e:UInt8),e∈List.take (Int.toNat i) x→Cb e=true)→Ae (decide (i<(nL x))) ((0≤i∧i<(nL x))∧∀(c:UInt8),x[Int.toNat i]? =some c→cA Ro [AV.int IntKind.u8 (↑(UInt8.toNat c):Int)] fun x_1 y=>Ae (Cb x_1) (inR .i64 (i+1)∧eN (FA Cb x fun(i:Int)=>[((0:Nat),.str x),((1:Nat),AV.clo (Fn.func (88:FuncId)) []),((5:Nat),.q i)]) i [.str x,AV.clo (Fn.func (88:FuncId)) [],.q (i+1)]) (((0:Int)≤(0:Int)∧0≤i∧i≤(nL x))∧rA Pa x [.str (List.take (Int.toNat i) x),.top,.top])) (((0:Int)≤(0:Int)∧0≤i∧i≤(nL x))∧rA Pa x [.str (List.take (Int.toNat i) x),.top,.top])) (by kernel_rfl) fun(x:Aa) (hx:x.length<2^63)=>(by
 dsimp only[nL,U4,cA,eA,eN,FA,rA,Pa,Ro,AB,AF,mvL,lnL,mvE,lnE,Bn,AV.q]
 (repeat' first|(with_reducible first|rfl|exact⟨⟩|apply AG|apply AM)|apply AL|(apply AK<;>try dsimp only)|apply AJ|((try refine AH.2 ?_);intro _;try dsimp only))<;>(try dsimp only at*)<;>(try simp only[Aw,AE,AX])<;>(try omega)
 ·rename_i h;simp at h
 ·rename_i i hi hl c hc y _ hp e he
  rw[CW hi.1] at he;exact TT hi.2.2 hc hp e he
 ·rename_i i hi hl c hc y _ hp
  exact Mj hi.2.2 (.inr ⟨c,hc,hp⟩)
 ·rename_i i hi hl
  exact Mj hi.2.2 (.inl (by omega)))
end Go.My
end
section
namespace Go.My
open Go.Eng
variable {c d:UInt8}{i:Int}{m:Nat}{s t x:Aa}
def Rp(x:Aa):SgR:=if BW (x.take 2) then⟨4,x.take 2,(x.take 2).length,true⟩ else if BW (x.take 1) then⟨4,x.take 1,1,true⟩ else⟨0,[],0,false⟩
def Kq(x:Aa)(i:Int):Prop:=(0≤i∧i≤2∧i≤x.length)∧AW x=Rp x∧∀j:Nat,i<j→j≤2→j≤x.length→BW (x.take j)=false
theorem b7Q(h:Kq x i)(hx:1≤x.length)(h0:i>0)(hm:BW (x.take i.toNat)=true):AW x=⟨4,x.take i.toNat,i,true⟩:=by
 obtain⟨⟨h1,h2,h3⟩,h4,h5⟩:=h
 rw[h4]
 have hi:i=1∨i=2:=by omega
 rcases hi with rfl|rfl
 ·by_cases hl:x.length=1
  ·have e:x.take 2=x.take 1:=by rw[EH (by omega),EH (by omega)]
   have hm':BW (x.take 1)=true:=hm
   simp only[Rp,e,hm',BN]
   have:(x.take 1).length=1:=by simp;omega
   rw[this];rfl
  ·have:=h5 2 (by omega) (by omega) (by omega)
   have hm':BW (x.take 1)=true:=hm
   simp only[Rp,this,hm',Bl,Br,BN];rfl
 ·have hm':BW (x.take 2)=true:=hm
  simp only[Rp,hm',BN]
  have:(x.take 2).length=2:=by simp;omega
  rw[this];rfl
theorem b7R(h:Kq x i)(hx:1≤x.length)(h0:¬i>0):AW x=⟨0,[],0,false⟩:=by
 obtain⟨⟨h1,h2,h3⟩,h4,h5⟩:=h
 rw[h4]
 have a1:=h5 1 (by omega) (by omega) hx
 have a2:BW (x.take 2)=false:=by
  by_cases hl:x.length=1
  ·have e:x.take 2=x.take 1:=by rw[EH (by omega),EH (by omega)]
   rw[e];exact a1
  ·exact h5 2 (by omega) (by omega) (by omega)
 simp only[Rp,a1,a2,Bl,Br]
theorem b7S(h:Kq x i)(h0:i>0)(hm:BW (x.take i.toNat)=false):Kq x (i-1):=by
 obtain⟨⟨h1,h2,h3⟩,h4,h5⟩:=h
 refine⟨⟨by omega,by omega,by omega⟩,h4,fun j a b c=> ?_⟩
 by_cases e:(j:Int)=i
 ·have:j=i.toNat:=by omega
  rw[this];exact hm
 ·exact h5 j (by omega) b c
theorem b7T{b:UInt8}(h1:BQ b=false)(h2:Bh b=false)(h3:¬b.toNat=39)(h4:(b::t).take 2≠[47,47]):Kq (b::t) (min 2 ((b::t).length:Int)):=by
 refine⟨⟨by omega,by omega,by omega⟩,?_,fun j a b c=>by omega⟩
 simp only[AW,h1,h2,h3,h4,Bl,Br,Rp]
theorem Ub{b:UInt8}(h:BQ b=true):AW (b::t)=⟨1,(b::t).takeWhile BA,((b::t).takeWhile BA).length,decide ((((b::t).takeWhile BA).length:Int)≤30)⟩:=by
 have:decide ((((b::t).takeWhile BA).length:Int)≤30)=decide (((b::t).takeWhile BA).length≤30):=OD.2 (by omega)
 rw[this];simp [AW,h]
theorem Uc{b:UInt8}(h0:BQ b=false)(h:Bh b=true):AW (b::t)=⟨2,(b::t).takeWhile Bh,((b::t).takeWhile Bh).length,decide ((((b::t).takeWhile Bh).length:Int)≤12)⟩:=by
 have:decide ((((b::t).takeWhile Bh).length:Int)≤12)=decide (((b::t).takeWhile Bh).length≤12):=OD.2 (by omega)
 rw[this];simp [AW,h,h0]
theorem b7U{b:UInt8}(h0:BQ b=false)(h1:Bh b=false)(h:(b.toNat:Int)=39):AW (b::t)=⟨3,(Df (b::t)).1,(Df (b::t)).1.length,(Df (b::t)).2⟩:=by
 have h:b.toNat=39:=by omega
 simp [AW,h0,h1,h]
theorem b7V{b:UInt8}(h0:BQ b=false)(h1:Bh b=false)(h2:(b.toNat:Int)≠39)(h:(b::t).take 2=[47,47]):
 AW (b::t)=⟨5,Cv ((b::t).takeWhile Cb),((b::t).takeWhile Cb).length,((b::t).takeWhile Cb).all BV⟩:=by
 have h2:¬b.toNat=39:=by omega
 simp only[AW,h0,h1,h2,h,Bl,Br,BN]
theorem a1X(s:Aa)(c:UInt8):Cv (s++[c])=if c.toNat=32 then Cv s else s++[c]:=by
 unfold Cv
 rw[List.reverse_append]
 simp only[List.reverse_cons,List.reverse_nil,Hr,List.singleton_append,List.dropWhile_cons]
 by_cases h:c.toNat=32
 ·simp [h]
 ·simp [h]
theorem b7W(h:s[s.length-1]? =some c):s=s.take (s.length-1)++[c]:=by
 have h1:=FS h
 have:s.length-1+1=s.length:=by
  have:=(DT.1 h).1;omega
 rw[this,List.take_length] at h1
 exact h1
theorem a8q(h:s[s.length-1]? =some c):Cv s=if c.toNat=32 then Cv (s.take (s.length-1)) else s:=by
 have h1:=b7W h
 rw[h1,a1X]
 split
 ·rw[Ba];simp
 ·rfl
theorem a8r{n:Nat}(h:s[n]? =some c):Cv (s.take (n+1))=if c.toNat=32 then Cv (s.take n) else s.take (n+1):=by
 rw[FS h,a1X]
theorem a8s(s:Aa):∃n,Cv s=s.take n:=by
 unfold Cv
 refine⟨(s.reverse.dropWhile fun c=>decide (c.toNat=32)).length,?_⟩
 have:=List.dropWhile_suffix (fun c:UInt8=>decide (c.toNat=32)) (l:=s.reverse)
 have:=List.reverse_prefix.2 this
 rw[List.reverse_reverse] at this
 have h2:=List.prefix_iff_eq_take.1 this
 rw[List.length_reverse] at h2
 exact h2
def isQ(c:UInt8):Bool:=decide (c.toNat=39)
def Dg(s:Aa):Nat:=match Dk isQ (s.drop 1) with
 |none=>0
 |some i=>if((s.drop 1).take i).all BV then i+2 else 0
def CP(s:Aa):Nat:=if s.take 2=[47,47] then(if(s.takeWhile Cb).all BV then(s.takeWhile Cb).length else 0) else 0
theorem Ud(s:Aa):Df s=match Dk isQ (s.drop 1) with
 |none=>([],false)
 |some i=>(s.take (i+2),(s.take (i+2)).all BV):=rfl
theorem a8t(h:isQ c=true):BV c=true:=by
 simp [isQ] at h;simp [BV,h]
theorem Ue{p:UInt8→Bool}{i:Nat}(h:Dk p s=some i):i<s.length:=by
 obtain⟨_,e,he,_⟩:=OT.1 h
 exact(DT.1 he).1
theorem WE{c:UInt8}(hc:isQ c=true):(Df (c::s)).2=true↔Dg (c::s)≠0:=by
 rw[Ud];unfold Dg
 simp only[Na,GU]
 cases h:Dk isQ s with
 |none=>simp
 |some i=>
  simp only[Kh,LO,a8t hc,Kf]
  obtain⟨h1,e,he,hq⟩:=OT.1 h
  rw[FS he,List.all_append]
  simp [a8t hq]
theorem a8u{c:UInt8}(hc:isQ c=true)(h:Dg (c::s)≠0):(Df (c::s)).1=(c::s).take (Dg (c::s))∧Dg (c::s)≤(c::s).length:=by
 rw[Ud];unfold Dg at h ⊢
 simp only[Na,GU] at h ⊢
 cases hi:Dk isQ s with
 |none=>rw[hi] at h;simp at h
 |some i=>
  rw[hi] at h
  simp only at h ⊢
  split at h
  ·rename_i hp
   have:=Ue hi
   rw[if_pos hp]
   exact⟨rfl,by simp;omega⟩
  ·exact(h rfl).elim
theorem b7X(h:BQ c=true):Bh c=false:=by
 simp [BQ,Bh] at h ⊢;omega
theorem b7Y(h:BQ c=true):BA c=true:=by simp [BA,h]
theorem a1Y(s:Aa):CK s 1=match s with
 |[]=>false
 |c::_=>BQ c&&(s.all BA&&decide (s.length≤30)):=by
 cases s with
 |nil=>rfl
 |cons c t=>
  by_cases hc:BQ c=true
  ·simp only[CK,AW,hc,BN,Kf]
   by_cases ha:(c::t).all BA=true
   ·have:=WA.2 ha
    rw[this,ha];simp
   ·have hn:¬(c::t).takeWhile BA=c::t:=fun e=>ha (WA.1 e)
    simp only[Oz] at ha
    rw[ha]
    have:((c::t).takeWhile BA==c::t)=false:=by rw[QC];exact hn
    rw[this];simp
  ·simp only[Oz] at hc
   simp only[hc,Lb]
   rw[FI]
   intro h
   simp only[CK,AW,hc,Bl,Br,AY,Bf] at h
   have h1:=h.2.2.1
   repeat' split at h1
   all_goals simp at h1
theorem a1Z(s:Aa):CK s 2=(s.all Bh&&(decide (1≤s.length)&&decide (s.length≤12))):=by
 cases s with
 |nil=>rfl
 |cons c t=>
  by_cases hc:BQ c=true
  ·have hf:=b7X hc
   simp only[LO,hf,Lb]
   simp [CK,AW,hc]
  ·simp only[Oz] at hc
   by_cases hf:Bh c=true
   ·simp only[CK,AW,hc,hf,Bl,Br,BN]
    by_cases ha:(c::t).all Bh=true
    ·have:=WA.2 ha
     rw[this,ha];simp
    ·have hn:¬(c::t).takeWhile Bh=c::t:=fun e=>ha (WA.1 e)
     simp only[Oz] at ha
     rw[ha]
     have:((c::t).takeWhile Bh==c::t)=false:=by rw[QC];exact hn
     rw[this];simp
   ·simp only[Oz] at hf
    simp only[LO,hf,Lb]
    rw[FI]
    intro h
    simp only[CK,AW,hc,hf,Bl,Br,AY,Bf] at h
    have h1:=h.2.2.1
    repeat' split at h1
    all_goals simp at h1
theorem WF(s:Aa):CK s 3=match s with
 |[]=>false
 |c::_=>isQ c&&(decide (1<s.length)&&decide (Dg s=s.length)):=by
 cases s with
 |nil=>rfl
 |cons c t=>
  by_cases hq:isQ c=true
  ·have h39:c.toNat=39:=by simpa [isQ] using hq
   have hc:BQ c=false:=by simp [BQ];omega
   have hf:Bh c=false:=by simp [Bh];omega
   simp only[hq,Kf]
   simp only[CK,AW,hc,hf,h39,Bl,Br,BN]
   by_cases h0:Dg (c::t)=0
   ·have h2:(Df (c::t)).2=false:=by
     rw[FI];intro h;exact(WE hq).1 h h0
    rw[h2,h0];simp
   ·have h2:=(WE hq).2 h0
    obtain⟨h3,h4⟩:=a8u hq h0
    have h5:1<Dg (c::t):=by
     unfold Dg at h0 ⊢
     split at h0
     ·exact(h0 rfl).elim
     ·split at h0
      ·rename_i hp;rw[if_pos hp];omega
      ·exact(h0 rfl).elim
    rw[h2,h3]
    rw[DR]
    simp only[AY,EV,Bf,DB,DU]
    constructor
    ·rintro⟨_,_,_,e,hl⟩
     have:=congrArg List.length e
     simp only[DU] at this
     constructor<;>omega
    ·rintro⟨h6,h7⟩
     refine⟨by simp,trivial,trivial,?_,?_⟩
     ·rw[h7,List.take_length]
     ·omega
  ·simp only[Oz] at hq
   have h39:¬c.toNat=39:=by simpa [isQ] using hq
   simp only[hq,Lb]
   rw[FI]
   intro h
   simp only[CK,AW,h39,Br,AY,Bf] at h
   have h1:=h.2.2.1
   repeat' split at h1
   all_goals simp at h1
theorem a2a(s:Aa):CK s 5=(decide (1<s.length)&&(decide (CP s=s.length)&&(Cv s==s))):=by
 cases s with
 |nil=>rfl
 |cons c t=>
  by_cases hp:(c::t).take 2=[47,47]
  ·have h47:c=47:=by
    have:=congrArg (fun l:Aa=>l.head?) hp
    simpa using this
   subst h47
   have hl:1<(47::t).length:=by
    have:=congrArg List.length hp
    simp only[DU,AE,AX] at this ⊢;omega
   have hc:BQ 47=false:=by decide
   have hf:Bh 47=false:=by decide
   have hq:¬(47:UInt8).toNat=39:=by decide
   simp only[CK,AW,hc,hf,hq,hp,Bl,Br,BN,CP]
   rw[DR]
   simp only[AY,EV,Bf,DB,QC]
   constructor
   ·rintro⟨_,h1,_,h2,h3⟩
    rw[if_pos h1]
    have h3:((47::t).takeWhile Cb).length=(47::t).length:=by omega
    refine⟨hl,h3,?_⟩
    have e:(47::t).takeWhile Cb=47::t:=by
     have:=Kg (p:=Cb) (l:=47::t)
     exact List.IsPrefix.eq_of_length this h3
    rw[e] at h2;exact h2
   ·rintro⟨_,h1,h2⟩
    split at h1
    ·rename_i h3
     have e:(47::t).takeWhile Cb=47::t:=by
      have:=Kg (p:=Cb) (l:=47::t)
      exact List.IsPrefix.eq_of_length this h1
     rw[e] at h3 ⊢
     exact⟨by simp,h3,trivial,h2,rfl⟩
    ·simp at h1
  ·have h0:CP (c::t)=0:=by simp only[CP,if_neg hp]
   rw[h0]
   have:decide (0=(c::t).length)=false:=by simp
   rw[this]
   simp only[Lb,Bool.and_false]
   rw[FI]
   intro h
   simp only[CK,AW,hp,Br,AY,Bf] at h
   have h1:=h.2.2.1
   repeat' split at h1
   all_goals simp at h1
theorem b7Z{e:UInt8}(h:∀e∈(s.drop 1).take m,isQ e=false∧BV e=true)(he:(s.drop 1)[m]? =some e)(hq:isQ e=true):Dg s=m+2:=by
 unfold Dg
 rw[OT.2 ⟨fun e he=>(h e he).1,e,he,hq⟩]
 simp only
 rw[if_pos (CC.2 fun e he=>(h e he).2)]
theorem b8a{e:UInt8}(h:∀e∈(s.drop 1).take m,isQ e=false∧BV e=true)(he:(s.drop 1)[m]? =some e)(hq:isQ e=false)(hp:BV e=false):Dg s=0:=by
 unfold Dg
 cases hi:Dk isQ (s.drop 1) with
 |none=>rfl
 |some i=>
  simp only
  obtain⟨h1,d,hd,hdq⟩:=OT.1 hi
  rw[if_neg]
  intro hall
  have hmi:m<i:=by
   rcases Nat.lt_trichotomy m i with h'|h'|h'
   ·exact h'
   ·subst h';rw[he] at hd;cases hd;rw[hq] at hdq;cases hdq
   ·have:d∈(s.drop 1).take m:=by
     rw[List.mem_take_iff_getElem]
     obtain⟨a,b⟩:=DT.1 hd
     exact⟨i,by omega,b⟩
    rw[(h d this).1] at hdq;cases hdq
  have:e∈(s.drop 1).take i:=by
   rw[List.mem_take_iff_getElem]
   obtain⟨a,b⟩:=DT.1 he
   exact⟨m,by omega,b⟩
  rw[CC.1 hall e this] at hp;cases hp
theorem b8b(h:∀e∈(s.drop 1).take m,isQ e=false∧BV e=true)(hl:(s.drop 1).length≤m):Dg s=0:=by
 unfold Dg
 rw[EH hl] at h
 rw[a1Q.2 fun e he=>(h e he).1]
theorem a8v(hp:s.take 2=[47,47])(h:∀e∈s.take m,Cb e=true∧BV e=true)(he:s.length≤m∨∃e,s[m]? =some e∧Cb e=false)(hm:m≤s.length):CP s=m:=by
 have h1:=Mj (fun e he=>(h e he).1) he
 unfold CP
 rw[if_pos hp,←h1,if_pos (CC.2 fun e he=>(h e he).2),DU];omega
theorem b8c{e:UInt8}(hp:s.take 2=[47,47])(h:∀e∈s.take m,Cb e=true∧BV e=true)(he:s[m]? =some e)(hn:Cb e=true)(hq:BV e=false):CP s=0:=by
 unfold CP
 rw[if_pos hp,if_neg]
 intro hall
 have:e∈s.takeWhile Cb:=by
  have h2:s=s.take m++e::s.drop (m+1):=by rw[←GI he,Fw]
  rw[h2,List.takeWhile_append_of_pos (fun e he=>(h e he).1),Js,if_pos hn]
  simp
 rw[CC.1 hall e this] at hq;cases hq
theorem a8w(hp:s.take 2≠[47,47]):CP s=0:=by
 unfold CP;rw[if_neg hp]
theorem a2b{a n:Int}(h0:0≤a)(h:a+1≤n):((s.drop a.toNat).drop 1)[(n-a-1).toNat]? =s[n.toNat]? :=by
 rw[It,It];congr 1;omega
theorem Uf{a n:Int}(h0:0≤a)(h:a≤n):(s.drop a.toNat)[(n-a).toNat]? =s[n.toNat]? :=by
 rw[It];congr 1;omega
theorem WG{p:UInt8→Prop}{k:Nat}{e:UInt8}(h:∀e∈s.take m,p e)(he:s[m]? =some e)(hp:p e)(hk:k=m+1):∀e∈s.take k,p e:=by
 subst hk
 rw[FS he];intro x hx
 rcases FK.1 hx with hx|hx
 ·exact h x hx
 ·simp at hx;subst hx;exact hp
def qI(x:Aa×Int)(i:Int):Prop:=x.2+1≤i∧(i≤x.1.length∨i=x.2+1)∧∀e∈((x.1.drop x.2.toNat).drop 1).take (i-x.2-1).toNat,isQ e=false∧BV e=true
theorem b8d{x:Aa×Int}:qI x (x.2+1):=by
 refine⟨by omega,.inr rfl,fun e he=> ?_⟩
 rw[show(x.2+1-x.2-1).toNat=0 by omega] at he;simp at he
theorem b8e{x:Aa×Int}(h:qI x i):x.2+1≤i∧(i≤x.1.length∨i=x.2+1):=⟨h.1,h.2.1⟩
theorem b8f{x:Aa×Int}(h0:0≤x.2)(h:qI x i)(hq:(c.toNat:Int)=39)(hc:x.1[i.toNat]? =some c):i+1-x.2=Dg (x.1.drop x.2.toNat):=by
 have:=h.1
 rw[b7Z h.2.2 (by rw[a2b h0 h.1];exact hc) (by simp [isQ];omega)];omega
theorem b8g{x:Aa×Int}(h0:0≤x.2)(h:qI x i)(hq:(c.toNat:Int)≠39)(hc:x.1[i.toNat]? =some c)(hp:BV d=false)(hd:x.1[i.toNat]? =some d):0=(Dg (x.1.drop x.2.toNat):Int):=by
 rw[hc] at hd;cases hd
 rw[b8a h.2.2 (by rw[a2b h0 h.1];exact hc) (by simp [isQ];omega) hp];rfl
theorem b8h{x:Aa×Int}(h0:0≤x.2)(h:qI x i)(hl:i<x.1.length)(hq:(c.toNat:Int)≠39)(hc:x.1[i.toNat]? =some c)(hp:BV d=true)(hd:x.1[i.toNat]? =some d):qI x (i+1):=by
 rw[hc] at hd;cases hd
 have:=h.1
 exact⟨by omega,.inl (by omega),WG (p:=fun e=>isQ e=false∧BV e=true) h.2.2 (by rw[a2b h0 h.1];exact hc) ⟨by simp [isQ];omega,hp⟩ (by omega)⟩
theorem b8i{x:Aa×Int}(h0:0≤x.2)(h:qI x i)(hl:¬i<x.1.length):0=(Dg (x.1.drop x.2.toNat):Int):=by
 rw[b8b h.2.2 (by simp;omega)];rfl
def nI(x:Aa×Int)(i:Int):Prop:=(x.2≤i∧i≤x.1.length)∧(x.1.drop x.2.toNat).take 2=[47,47]∧∀e∈(x.1.drop x.2.toNat).take (i-x.2).toNat,Cb e=true∧BV e=true
theorem a8x{x:Aa×Int}(h0:0≤x.2):List.drop x.2.toNat (List.take (x.2+2).toNat x.1)=(x.1.drop x.2.toNat).take 2:=by
 rw[Ld];congr 1;omega
theorem b8j{x:Aa×Int}(h0:0≤x.2)(hl:x.2≤x.1.length)(h:(List.drop x.2.toNat (List.take (x.2+2).toNat x.1)==[47,47])=true):nI x x.2:=by
 rw[a8x h0] at h
 refine⟨⟨by omega,hl⟩,by simpa using h,fun e he=> ?_⟩
 rw[show(x.2-x.2).toNat=0 by omega] at he;simp at he
theorem b8k{x:Aa×Int}(h0:0≤x.2)(h:(List.drop x.2.toNat (List.take (x.2+2).toNat x.1)==[47,47])=false):0=(CP (x.1.drop x.2.toNat):Int):=by
 rw[a8x h0] at h
 rw[a8w (by simpa using h)];rfl
theorem b8l{x:Aa×Int}(h0:0≤x.2)(h:x.2+2>x.1.length):0=(CP (x.1.drop x.2.toNat):Int):=by
 rw[a8w]
 ·rfl
 ·intro e;have:=congrArg List.length e;simp at this;omega
theorem b8m{x:Aa×Int}(h0:0≤x.2)(h:nI x i)(hn:(c.toNat:Int)≠10)(hc:x.1[i.toNat]? =some c)(hp:BV d=false)(hd:x.1[i.toNat]? =some d):0=(CP (x.1.drop x.2.toNat):Int):=by
 rw[hc] at hd;cases hd
 rw[b8c h.2.1 h.2.2 (by rw[Uf h0 h.1.1];exact hc) (by simp [Cb];omega) hp];rfl
theorem b8n{x:Aa×Int}(h0:0≤x.2)(h:nI x i)(hl:i<x.1.length)(hn:(c.toNat:Int)≠10)(hc:x.1[i.toNat]? =some c)(hp:BV d=true)(hd:x.1[i.toNat]? =some d):nI x (i+1):=by
 rw[hc] at hd;cases hd
 have:=h.1
 exact⟨by omega,h.2.1,WG (p:=fun e=>Cb e=true∧BV e=true) h.2.2 (by rw[Uf h0 h.1.1];exact hc) ⟨by simp [Cb];omega,hp⟩ (by omega)⟩
theorem b8o{x:Aa×Int}(h0:0≤x.2)(h:nI x i)(hn:(c.toNat:Int)=10)(hc:x.1[i.toNat]? =some c):i-x.2=(CP (x.1.drop x.2.toNat):Int):=by
 have:=h.1
 have hl:=(DT.1 hc).1
 rw[a8v h.2.1 h.2.2 (.inr ⟨c,by rw[Uf h0 h.1.1];exact hc,by simp [Cb];omega⟩) (by simp;omega)];omega
theorem b8p{x:Aa×Int}(h0:0≤x.2)(h:nI x i)(hl:¬i<x.1.length):i-x.2=(CP (x.1.drop x.2.toNat):Int):=by
 have:=h.1
 rw[a8v h.2.1 h.2.2 (.inl (by simp;omega)) (by simp;omega)];omega
def nmI(x:Aa)(i:Int):Prop:=(0≤i∧i≤x.length)∧(inn x.length 1 30=true∧BQ (x.headD 0)=true∧kw x=false)∧∀e∈x.take i.toNat,BA e=true
theorem a2c:DK x=true↔(inn x.length 1 30=true∧BQ (x.headD 0)=true∧kw x=false)∧x.all BA=true:=by
 unfold DK
 rw[a1Y]
 cases x with
 |nil=>simp [inn]
 |cons c t=>
  simp only[inn,AY,Bf,EV,Nb,AE]
  constructor
  ·rintro⟨⟨h1,h2,h3⟩,h4⟩;exact⟨⟨⟨by omega,by omega⟩,h1,h4⟩,h2⟩
  ·rintro⟨⟨⟨h1,h2⟩,h3,h4⟩,h5⟩;exact⟨⟨h3,h5,by omega⟩,h4⟩
theorem a8y(h:x[0]? =some c):x.headD 0=c:=by cases x<;>simp_all
theorem a2d(h:¬(inn x.length 1 30=true∧BQ (x.headD 0)=true∧kw x=false)):false=DK x:=by
 symm;rw[FI];intro hn;exact h (a2c.1 hn).1
theorem b8q(h:inn x.length 1 30=true)(h1:BQ (x.headD 0)=true)(h2:kw x=false):nmI x 0:=⟨by omega,⟨h,h1,h2⟩,fun e he=>by simp at he⟩
theorem a8z(h:nmI x i)(hc:x[i.toNat]? =some c)(hl:i<x.length)(hp:BA c=true):nmI x (i+1):=by
 have:=h.1
 exact⟨by omega,h.2.1,WG (p:=fun e=>BA e=true) h.2.2 hc hp (by omega)⟩
theorem b8r(h:nmI x i)(hc:x[i.toNat]? =some c)(hp:BA c=false):false=DK x:=by
 symm;rw[FI];intro hn
 have:=(a2c.1 hn).2
 rw[Wz hc hp] at this;cases this
theorem b8s(h:nmI x i)(hl:¬i<x.length):true=DK x:=by
 symm;rw[a2c];exact⟨h.2.1,a1P h.2.2 (by omega)⟩
theorem b8t{x:Aa}(h1:(x.length:Int)>1)(hq:(c.toNat:Int)=39)(h:x[0]? =some c):((Dg x:Int)==(x.length:Int))=CK x 3:=by
 cases x with
 |nil=>cases h
 |cons d t=>
  have:d=c:=by simpa using h
  subst this
  have e:isQ d=true:=by simp [isQ];omega
  rw[WF,DR]
  simp [e] at h1 ⊢;omega
theorem b8u(hq:(c.toNat:Int)≠39)(h:x[0]? =some c):false=CK x 3:=by
 cases x with
 |nil=>cases h
 |cons d t=>
  have:d=c:=by simpa using h
  subst this
  have e:isQ d=false:=by simp [isQ];omega
  rw[WF];simp [e]
theorem b8v(h1:¬(x.length:Int)>1):false=CK x 3:=by
 rw[WF]
 cases x with
 |nil=>rfl
 |cons d t=>
  have:decide (1<(d::t).length)=false:=Gj (by omega)
  simp only[this,Lb,Bool.and_false]
theorem b8w(h1:(x.length:Int)>1)(h2:(CP x:Int)=x.length):(Cv x==x)=CK x 5:=by
 rw[a2a]
 have e1:decide (1<x.length)=true:=Ht (by omega)
 have e2:decide (CP x=x.length)=true:=Ht (by omega)
 simp [e1,e2]
theorem b8x(h2:(CP x:Int)≠x.length):false=CK x 5:=by
 rw[a2a]
 have e2:decide (CP x=x.length)=false:=Gj (by omega)
 simp only[e2,Lb,Bool.and_false]
theorem b8y(h1:¬(x.length:Int)>1):false=CK x 5:=by
 rw[a2a]
 have e2:decide (1<x.length)=false:=Gj (by omega)
 simp only[e2,Lb]
end Go.My
end
section
namespace Go.My
open Go.Eng Go.Proofs
variable {G:GInv}
def HW:Sig:=⟨Aa,fun x=>[.str x],fun x=>True,Unit,fun x y=>True,fun x y=> .bool (kw x),fun x y=>[.top],false,[],[]⟩
theorem a2e:CtG G 76 HW:=
 vFq [] [] (fun x=>[]) Tryz.func76 trivial (fun(x:Aa)=>U3∧Ae (x== #[(99:UInt8),108,97,115,115].toList) (rA HW x [.bool true,.top]) (Ae (x== #[(118:UInt8),97,114].toList) (rA HW x [.bool true,.top]) (Ae (x== #[(105:UInt8),102].toList) (rA HW x [.bool true,.top]) (Ae (x== #[(101:UInt8),108,115,101].toList) (rA HW x [.bool true,.top]) (Ae (x== #[(119:UInt8),104,105,108,101].toList) (rA HW x [.bool true,.top]) (Ae (x== #[(114:UInt8),101,116,117,114,110].toList) (rA HW x [.bool true,.top]) (rA HW x [.bool false,.top]))))))) (by kernel_rfl) fun(x:Aa) (hx:True)=>(by
 dsimp only[U3,rA,HW,AB,AF]
 (repeat' first|(with_reducible first|rfl|exact⟨⟩|apply AG|apply AM)|apply AL|(apply AK<;>try dsimp only)|apply AJ|((try refine AH.2 ?_);intro _;try dsimp only))<;>(try dsimp only at*)<;>(try simp only[Aw,AE,AX])<;>(try omega)
 all_goals simp [kw, *])
theorem b8z{c:UInt8}:decide (Dl mk1 c≥0)=mk1.elem c:=by
 unfold Dl
 cases h:Dk (fun d=>decide (d.toNat=c.toNat)) mk1 with
 |none=>
  have:=a1Q.1 h
  symm
  simp only[Int.reduceNeg,ge_iff_le,Int.reduceLE,decide_false]
  rw[FI]
  intro h2
  have h3:=this c (by simpa using h2)
  simp at h3
 |some i=>
  obtain⟨_,e,he,hq⟩:=OT.1 h
  have h3:e=c:=by simpa [UInt8.toNat_inj] using hq
  subst h3
  have:=Iv he
  simp [this]
def JL:Sig:=⟨Aa,fun x=>[.str x],fun x=>x.length<2^63,Unit,fun x y=>True,fun x y=> .bool (BW x),fun x y=>[.top],false,[],[]⟩
theorem b8A:CtG G 66 JL:=
 vFq [(89,0,Rm)] [] (fun x=>[]) Tryz.func66 ⟨b7I,trivial⟩ (fun(x:Aa)=>U3∧Ae (x== #[(38:UInt8),38].toList) (rA JL x [.bool true,.top]) (Ae (x== #[(124:UInt8),124].toList) (rA JL x [.bool true,.top]) (Ae (x== #[(61:UInt8),61].toList) (rA JL x [.bool true,.top]) (Ae (x== #[(61:UInt8),62].toList) (rA JL x [.bool true,.top]) (Ae (x== #[(46:UInt8),46].toList) (rA JL x [.bool true,.top]) (Ae ((nL x)==(1:Int)) (cA Rm [.str #[(40:UInt8),41,123,125,91,93,59,44,46,61,43,45,42,60,63,58].toList,.str x] fun x_1 y=>rA JL x [.bool (decide (Dl x_1.1 (List.headD x_1.2 (0:UInt8))≥0)),.top]) (rA JL x [.bool false,.top]))))))) (by kernel_rfl) fun(x:Aa) (hx:x.length<2^63)=>(by
 dsimp only[nL,U3,cA,rA,JL,Rm,AB,AF,mvL,lnL,mvE,lnE]
 (repeat' first|(with_reducible first|rfl|exact⟨⟩|apply AG|apply AM)|apply AL|(apply AK<;>try dsimp only)|apply AJ|((try refine AH.2 ?_);intro _;try dsimp only))<;>(try dsimp only at*)<;>(try simp only[Aw,AE,AX])<;>(try omega)
 ·rename_i h;simp [BW,mk2,h]
 ·rename_i h;simp [BW,mk2,h]
 ·rename_i h;simp [BW,mk2,h]
 ·rename_i h;simp [BW,mk2,h]
 ·rename_i h;simp [BW,mk2,h]
 ·rename_i h1 h2 h3 h4 h5 h _ _
  have h:x.length=1:=by omega
  match x,h with
  |[c],_=>exact b8z.trans (by simp [BW,mk2])
 ·rename_i h1 h2 h3 h4 h5 h
  symm;simp only[BW,mk2,Bool.or_eq_false_iff,QC]
  refine⟨⟨h1,h2,h3,h4,h5⟩,?_⟩
  split
  ·simp at h
  ·rfl)
def Pb:Sig:=⟨Aa,fun x=>[.str x,.int .u8 32],fun x=>x.length<2^63,Unit,fun x y=>True,fun x y=> .str (Cv x),fun x y=>[.top,.top],false,[],[]⟩
def WH(x:Aa):LS:=⟨Aa,fun s=>s.length≤x.length∧Cv s=Cv x,fun s=>[(0,.str s),(1,.int .u8 32)],[],fun s=>s.length,fun _=>[],[]⟩
theorem b8B:CtG G 103 Pb:=
 vFq [] [] (fun x=>[(1,WH x)]) Tryz.func103 trivial (fun(x:Aa)=>U4∧eA (WH x) [.str x,AV.int IntKind.u8 (32:Int)]∧∀(i:Aa),i.length≤x.length∧Cv i=Cv x→Ae (decide ((nL i)>(0:Int))) (inR .i64 ((nL i)-(1:Int))∧(0≤(nL i)-(1:Int)∧(nL i)-1<(nL i))∧∀(c:UInt8),i[Int.toNat ((nL i)-(1:Int))]? =some c→Ae ((↑(UInt8.toNat c):Int)==(32:Int)) (inR .i64 ((nL i)-(1:Int))∧((0:Int)≤(0:Int)∧0≤(nL i)-(1:Int)∧(nL i)-1≤(nL i))∧eN (WH x) i [.str (List.take (Int.toNat ((nL i)-(1:Int))) i),AV.int IntKind.u8 (32:Int)]) (rA Pb x [.str i,.top,.top])) (rA Pb x [.str i,.top,.top])) (by kernel_rfl) fun(x:Aa) (hx:x.length<2^63)=>(by
 dsimp only[nL,U4,eA,eN,WH,rA,Pb,AB,AF,Bn]
 (repeat' first|(with_reducible first|rfl|exact⟨⟩|apply AG|apply AM)|apply AL|(apply AK<;>try dsimp only)|apply AJ|((try refine AH.2 ?_);intro _;try dsimp only))<;>(try dsimp only at*)<;>(try simp only[Aw,AE,AX])<;>(try omega)
 ·rename_i s hs h c hc h2;simp;omega
 ·rename_i s hs h c hc h2;simp;omega
 ·rename_i s hs h c hc h2
  have e:((s.length:Int)-1).toNat=s.length-1:=by omega
  rw[e] at hc ⊢
  rw[←hs.2,a8q hc,if_pos (by omega)]
 ·rename_i s hs h c hc h2
  have e:((s.length:Int)-1).toNat=s.length-1:=by omega
  rw[e] at hc
  rw[←hs.2,a8q hc,if_neg (by omega)]
 ·rename_i s hs h
  have:s=[]:=Hq.1 (by omega)
  rw[←hs.2,this];rfl)
def Pd:Sig:=⟨Aa,fun x=>[.str x,.str [32]],fun x=>x.length<2^63,Unit,fun x y=>True,fun x y=> .str (Cv x),fun x y=>[.top,.top],false,[],[]⟩
theorem b8C:CtG G 88 Pd:=
 vFq [(103,0,Pb)] [] (fun x=>[]) Tryz.func88 ⟨b8B,trivial⟩ (fun(x:Aa)=>U4∧Ae (x== #[].toList) (rA Pd x [.str x,.top,.top]) (((0:Int)≤(0:Int)∧0<(↑(1:Nat):Int))∧∀(c:UInt8),[(32:UInt8)][(0:Nat)]? =some c→Ae (decide ((↑(UInt8.toNat c):Int)<(128:Int))) (((0:Int)≤(0:Int)∧0<(↑(1:Nat):Int))∧∀(c:UInt8),[(32:UInt8)][(0:Nat)]? =some c→cA Pb [.str x,AV.int IntKind.u8 (↑(UInt8.toNat c):Int)] fun x_1 y=>rA Pd x [.str (Cv x_1),.top,.top]) False)) (by kernel_rfl) fun(x:Aa) (hx:x.length<2^63)=>(by
 dsimp only[U4,cA,rA,Pb,Pd,AB,AF,mvL,lnL,mvE,lnE]
 refine⟨fun _ _=>⟨trivial,trivial,trivial,trivial⟩,b7y (fun h=>⟨(),trivial,by rw[h];rfl,trivial⟩) (fun h=>⟨by omega,fun c hc=> ?_⟩)⟩
 have hc:32=c:=by simpa using hc
 subst hc
 refine b7x (fun _=>⟨by omega,fun c hc=> ?_⟩) (fun h=>(h (by decide)).elim)
 have hc:32=c:=by simpa using hc
 subst hc
 exact⟨x,hx,rfl,rfl,fun _ _=>⟨(),trivial,rfl,trivial⟩⟩)
def Rq:Sig:=⟨Aa,fun x=>[.str x],fun x=>x.length<2^63,Unit,fun x y=>True,fun x y=> .str (Cv x),fun x y=>[.top],false,[],[]⟩
theorem b8D:CtG G 64 Rq:=
 vFq [(88,0,Pd)] [] (fun x=>[]) Tryz.func64 ⟨b8C,trivial⟩ (fun(x:Aa)=>U3∧cA Pd [.str x,.str #[(32:UInt8)].toList] fun x_1 y=>rA Rq x [.str (Cv x_1),.top]) (by kernel_rfl) fun(x:Aa) (hx:x.length<2^63)=>(by
 dsimp only[U3,cA,rA,Rq,Pd,AB,AF,mvL,lnL,mvE,lnE]
 (repeat' first|(with_reducible first|rfl|exact⟨⟩|apply AG|apply AM)|apply AL|(apply AK<;>try dsimp only)|apply AJ|((try refine AH.2 ?_);intro _;try dsimp only))<;>(try dsimp only at*)<;>(try simp only[Aw,AE,AX])<;>(try omega))
def Lm:Sig:=⟨Aa,fun x=>[.str x],fun x=>x.length<2^63,Unit,fun x y=>True,fun x y=> .str (Cv x),fun x y=>[.top],false,[],[]⟩
def WI(x:Aa):LS:=⟨Int,fun i=>0≤i∧i≤x.length∧Cv (x.take i.toNat)=Cv x,fun i=>[(0,.str x),(3,.q i)],[],fun i=>i.toNat,fun _=>[],[]⟩
theorem a8A:CtG G 68 Lm:=
 vFq [] [] (fun x=>[(2,WI x)]) Tryz.func68 trivial (fun(x:Aa)=>U3∧eA (WI x) [.str x,.q (nL x)]∧∀(i:Int),0≤i∧i≤(nL x)∧Cv (List.take (Int.toNat i) x)=Cv x→Ae (decide (i>0)) (inR .i64 (i-1)∧(0≤i-1∧i-1<(nL x))∧∀(c:UInt8),x[Int.toNat (i-1)]? =some c→Ae ((↑(UInt8.toNat c):Int)==(32:Int)) (inR .i64 (i-1)∧eN (WI x) i [.str x,.q (i-1)]) (((0:Int)≤(0:Int)∧0≤i∧i≤(nL x))∧rA Lm x [.str (List.take (Int.toNat i) x),.top])) (((0:Int)≤(0:Int)∧0≤i∧i≤(nL x))∧rA Lm x [.str (List.take (Int.toNat i) x),.top])) (by kernel_rfl) fun(x:Aa) (hx:x.length<2^63)=>(by
 dsimp only[nL,U3,eA,eN,WI,rA,Lm,AB,AF,Bn,AV.q]
 (repeat' first|(with_reducible first|rfl|exact⟨⟩|apply AG|apply AM)|apply AL|(apply AK<;>try dsimp only)|apply AJ|((try refine AH.2 ?_);intro _;try dsimp only))<;>(try dsimp only at*)<;>(try simp only[Aw,AE,AX])<;>(try omega)
 ·simp
 ·rename_i i hi h c hc h2
  rw[←hi.2.2,show i.toNat=(i-1).toNat+1 by omega,a8r hc,if_pos (by omega)]
 ·rename_i i hi h c hc h2
  have:=hi.2.2
  rw[show i.toNat=(i-1).toNat+1 by omega,a8r hc,if_neg (by omega)] at this
  rw[←this,show i.toNat=(i-1).toNat+1 by omega]
 ·rename_i i hi h
  rw[←hi.2.2,show i.toNat=0 by omega];rfl)
theorem b8E(s:Aa)(c:UInt8):Dl s c= -1∨(0≤Dl s c∧Dl s c<s.length):=by
 unfold Dl
 split
 ·exact .inl rfl
 ·rename_i i h;have:=Ue h;omega
theorem a8B{s:Aa}:Df s=if Dl (s.drop 1) 39<0 then([],false) else(s.take (Dl (s.drop 1) 39+2).toNat,(s.take (Dl (s.drop 1) 39+2).toNat).all BV):=by
 unfold Df Dl
 have e:(fun c:UInt8=>decide (c.toNat=39))=fun d:UInt8=>decide (d.toNat=(39:UInt8).toNat):=rfl
 rw[e]
 cases Dk (fun d:UInt8=>decide (d.toNat=(39:UInt8).toNat)) (s.drop 1) with
 |none=>simp
 |some i=>
  have h1:¬(i:Int)<0:=by omega
  have h2:((i:Int)+2).toNat=i+2:=by omega
  simp only[if_neg h1,h2]
def Pe:Sig:=⟨Aa,fun x=>[.str x],fun x=>1≤x.length∧x.length<2^62,Unit,fun x y=>True,fun x y=> .tup [.str (Df x).1,.bool (Df x).2],fun x y=>[.top],false,[],[]⟩
theorem b8F:CtG G 61 Pe:=
 vFq [(86,0,Rk),(65,0,Kp)] [] (fun x=>[]) Tryz.func61 ⟨b7F,a8p,trivial⟩ (fun(x:Aa)=>(∀(y:Unit),True→(True∧True∧True)∧True∧True)∧((0:Int)≤(1:Int)∧1≤(nL x)∧(nL x)≤(nL x))∧cA Rk [.str (List.drop (1:Nat) x),AV.int IntKind.u8 (39:Int)] fun x_1 y=>Ae (decide (Dl x_1 (39:UInt8)<0)) (rA Pe x [.tup [.str #[].toList,.bool false],.top]) (inR .i64 (Dl x_1 (39:UInt8)+2)∧((0:Int)≤(0:Int)∧0≤Dl x_1 (39:UInt8)+2∧Dl x_1 (39:UInt8)+2≤(nL x))∧cA Kp [.str (List.take (Int.toNat (Dl x_1 (39:UInt8)+2)) x)] fun x_2 y=>rA Pe x [.tup [.str (List.take (Int.toNat (Dl x_1 (39:UInt8)+2)) x),.bool (List.all x_2 BV)],.top])) (by kernel_rfl) fun(x:Aa) (hx:1≤x.length∧x.length<2^62)=>(by
 dsimp only[nL,cA,rA,Kp,Pe,Rk,AB,AF,mvL,lnL,mvE,lnE]
 obtain⟨h1,h2⟩:=hx
 have hq:=b8E (x.drop 1) 39;have hl:(x.drop 1).length=x.length-1:=by simp
 (repeat' first|(with_reducible first|rfl|exact⟨⟩|apply AG|apply AM)|apply AL|(apply AK<;>try dsimp only)|apply AJ|((try refine AH.2 ?_);intro _;try dsimp only))<;>(try dsimp only at*)<;>(try simp only[Aw,AE,AX])<;>(try omega)
 all_goals first
  |omega
  |(rw[a8B,if_neg ‹¬Dl _ 39<0›];done)
  |(rw[a8B,if_pos ‹Dl _ 39<0›];done)
  |(simp;omega))
def Kr:Sig:=⟨Aa,fun x=>[.str x],fun x=>1≤x.length∧x.length<2^62,Unit,fun x y=>True,fun x y=> .tup [.q (AW x).kind,.str (AW x).text,.q (AW x).size,.bool (AW x).ok],fun x y=>[.top],false,[],[]⟩
def WJ(x:Aa):LS:=⟨Int,fun i=>Kq x i,fun i=>[(0,.str x),(12,.q i)],[],fun i=>i.toNat,fun _=>[],[]⟩
theorem b8G:CtG G 38 Kr:=
 vFq [(57,0,HD),(58,59+1,OY),(60,0,IG),(58,60+1,OZ),(61,0,Pe),(62,0,Rn),(58,63+1,Pa),(64,0,Rq),(65,0,Kp),(66,0,JL)] [] (fun x=>[(15,WJ x)]) Tryz.func38 ⟨a8n,b7N,a1U,b7O,b8F,b7K,b7P,b8D,a8p,b8A,trivial⟩ (fun(x:Aa)=>(∀(y:Unit),True→(True∧True∧True∧True∧True)∧True∧True)∧((0:Int)≤(0:Int)∧0<(nL x))∧∀(c:UInt8),x[(0:Nat)]? =some c→cA HD [AV.int IntKind.u8 (↑(UInt8.toNat c):Int)] fun x_1 y=>Ae (BQ x_1) (cA OY [.str x,AV.clo (Fn.func (84:Nat)) []] fun x_2 y=>rA Kr x [.tup [.q 1,.str (List.takeWhile BA x_2),.q (↑((List.takeWhile BA x_2).length):Int),.bool (decide ((↑((List.takeWhile BA x_2).length):Int)≤(30:Int)))],.top]) (cA IG [AV.int IntKind.u8 (↑(UInt8.toNat c):Int)] fun x_2 y=>Ae (Bh x_2) (cA OZ [.str x,AV.clo (Fn.func (85:Nat)) []] fun x_3 y=>rA Kr x [.tup [.q 2,.str (List.takeWhile Bh x_3),.q (↑((List.takeWhile Bh x_3).length):Int),.bool (decide ((↑((List.takeWhile Bh x_3).length):Int)≤(12:Int)))],.top]) (Ae ((↑(UInt8.toNat c):Int)==(39:Int)) (cA Pe [.str x] fun x_3 y=>rA Kr x [.tup [.q 3,.str (Df x_3).1,.q (↑((Df x_3).1.length):Int),.bool (Df x_3).2],.top]) (cA Rn [.str x,.str #[(47:UInt8),47].toList] fun x_3 y=>Ae (List.take (x_3.2.length) x_3.1==x_3.2) (cA Pa [.str x,AV.clo (Fn.func (88:Nat)) []] fun x_4 y=>cA Rq [.str (List.takeWhile Cb x_4)] fun x_5 y=>cA Kp [.str (List.takeWhile Cb x_4)] fun x_6 y=>rA Kr x [.tup [.q 5,.str (Cv x_5),.q (↑((List.takeWhile Cb x_4).length):Int),.bool (List.all x_6 BV)],.top]) (eA (WJ x) [.str x,.q (min (2:Int) (nL x))]∧∀(i:Int),Kq x i→Ae (decide (i>0)) (((0:Int)≤(0:Int)∧0≤i∧i≤(nL x))∧cA JL [.str (List.take (Int.toNat i) x)] fun x_4 y=>Ae (BW x_4) (true=true∧true=true∧((0:Int)≤(0:Int)∧0≤i∧i≤(nL x))∧rA Kr x [.tup [.q 4,.str (List.take (Int.toNat i) x),.q i,.bool true],.top]) (inR .i64 (i-1)∧eN (WJ x) i [.str x,.q (i-1)])) (rA Kr x [.tup [.q 0,.str #[].toList,.q 0,.bool false],.top])))))) (by kernel_rfl) fun(x:Aa) (hx:1≤x.length∧x.length<2^62)=>(by
 dsimp only[nL,cA,eA,eN,WJ,rA,Rq,IG,HD,Kp,JL,Pe,OZ,OY,Pa,Rn,Kr,AB,AF,mvL,lnL,mvE,lnE,Bn,AV.q]
 obtain⟨h1,h2⟩:=hx
 have h3:x.length<9223372036854775808:=by omega
 match x,h1,h2,h3 with
 |b::t,h1,h2,h3=>
 (repeat' first|(with_reducible first|rfl|exact⟨⟩|apply AG|apply AM)|apply AL|(apply AK<;>try dsimp only)|apply AJ|((try refine AH.2 ?_);intro _;try dsimp only))<;>(try dsimp only at*)<;>(try simp only[Aw,AE,AX])<;>(try omega)
 all_goals(try simp only[List.getElem?_cons_zero,AS] at*)
 all_goals(try subst_vars)
 all_goals first
  |exact h3
  |(rw[Ub ‹_›];done)
  |(rw[Uc ‹_› ‹_›];done)
  |(rw[b7U ‹_› ‹_› ‹_›];done)
  |(rw[b7V ‹_› ‹_› ‹_› ‹_›];done)
  |(rw[b7Q ‹_› h1 ‹_› ‹_›];done)
  |(rw[b7R ‹_› h1 ‹_›];done)
  |exact b7S ‹_› ‹_› ‹_›
  |exact b7T ‹_› ‹_› (by omega) ‹_›
  |exact Nat.lt_of_le_of_lt (Kg _).length_le h3
  |(have hI:=(‹Kq _ _› :Kq _ _).1;rw[AE] at hI;omega)
  |(have hI:=(‹Kq _ _› :Kq _ _).1;rw[DU];omega)
  |trace_state)
def Ks:Sig:=⟨Aa×Int,fun x=>[.str x.1,.q x.2],fun x=>0≤x.2∧x.2≤x.1.length∧x.1.length<2^62,Unit,fun x y=>True,fun x y=> .q (Dg (x.1.drop x.2.toNat)),fun x y=>[.top,.top],false,[],[]⟩
def WK(x:Aa×Int):LS:=⟨Int,fun i=>qI x i,fun i=>[(0,.str x.1),(1,.q x.2),(5,.q i)],[],fun i=>x.1.length-i.toNat,fun _=>[],[]⟩
theorem a8C:CtG G 71 Ks:=
 vFq [(90,0,IH)] [] (fun x=>[(2,WK x)]) Tryz.func71 ⟨a1W,trivial⟩ (fun x=>U4∧inR .i64 (x.2+(1:Int))∧eA (WK x) [.str x.1,.q x.2,.q (x.2+(1:Int))]∧∀(i:Int),qI x i→Ae (decide (i<(nL x.1))) ((0≤i∧i<(nL x.1))∧∀(c:UInt8),x.1[Int.toNat i]? =some c→Ae ((↑(UInt8.toNat c):Int)==(39:Int)) (inR .i64 (i+1)∧inR .i64 (i+1-x.2)∧rA Ks x [.q (i+1-x.2),.top,.top]) ((0≤i∧i<(nL x.1))∧∀(c:UInt8),x.1[Int.toNat i]? =some c→cA IH [AV.int IntKind.u8 (↑(UInt8.toNat c):Int)] fun x_1 y=>Ae (!BV x_1) (rA Ks x [.q 0,.top,.top]) (inR .i64 (i+1)∧eN (WK x) i [.str x.1,.q x.2,.q (i+1)]))) (rA Ks x [.q 0,.top,.top])) (by kernel_rfl) fun(x:Aa×Int) (hx:0≤x.2∧x.2≤x.1.length∧x.1.length<2^62)=>(by
 dsimp only[nL,U4,cA,eA,eN,WK,rA,IH,Ks,AB,AF,mvL,lnL,mvE,lnE,Bn,AV.q]
 obtain⟨h1,h2,h3⟩:=hx
 (repeat' first|(with_reducible first|rfl|exact⟨⟩|apply AG|apply AM)|apply AL|(apply AK<;>try dsimp only)|apply AJ|((try refine AH.2 ?_);intro _;try dsimp only))<;>(try dsimp only at*)<;>(try simp only[Aw,AE,AX])<;>(try omega)
 all_goals first
  |exact b8d
  |exact b8f h1 ‹_› ‹_› ‹_›
  |exact b8g h1 ‹_› ‹_› ‹_› ‹_› ‹_›
  |exact b8h h1 ‹_› ‹_› ‹_› ‹_› ‹_› ‹_›
  |exact b8i h1 ‹_› ‹_›
  |(have hI:=b8e ‹_›;omega))
def II:Sig:=⟨Aa×Int,fun x=>[.str x.1,.q x.2],fun x=>0≤x.2∧x.2≤x.1.length∧x.1.length<2^62,Unit,fun x y=>True,fun x y=> .q (CP (x.1.drop x.2.toNat)),fun x y=>[.top,.top],false,[],[]⟩
def WM(x:Aa×Int):LS:=⟨Int,fun i=>nI x i,fun i=>[(0,.str x.1),(1,.q x.2),(5,.q i)],[],fun i=>x.1.length-i.toNat,fun _=>[],[]⟩
theorem a8D:CtG G 67 II:=
 vFq [(90,0,IH)] [] (fun x=>[(4,WM x)]) Tryz.func67 ⟨a1W,trivial⟩ (fun x=>U4∧inR .i64 (x.2+(2:Int))∧Ae (decide (x.2+2>(nL x.1))) (rA II x [.q 0,.top,.top]) (inR .i64 (x.2+(2:Int))∧(0≤x.2∧x.2≤x.2+(2:Int)∧x.2+2≤(nL x.1))∧Ae (!List.drop (Int.toNat x.2) (List.take (Int.toNat (x.2+(2:Int))) x.1)== #[(47:UInt8),47].toList) (rA II x [.q 0,.top,.top]) (eA (WM x) [.str x.1,.q x.2,.q x.2]∧∀(i:Int),nI x i→Ae (decide (i<(nL x.1))) ((0≤i∧i<(nL x.1))∧∀(c:UInt8),x.1[Int.toNat i]? =some c→Ae ((↑(UInt8.toNat c):Int) != (10:Int)) ((0≤i∧i<(nL x.1))∧∀(c:UInt8),x.1[Int.toNat i]? =some c→cA IH [AV.int IntKind.u8 (↑(UInt8.toNat c):Int)] fun x_1 y=>Ae (!BV x_1) (rA II x [.q 0,.top,.top]) (inR .i64 (i+1)∧eN (WM x) i [.str x.1,.q x.2,.q (i+1)])) (inR .i64 (i-x.2)∧rA II x [.q (i-x.2),.top,.top])) (inR .i64 (i-x.2)∧rA II x [.q (i-x.2),.top,.top])))) (by kernel_rfl) fun(x:Aa×Int) (hx:0≤x.2∧x.2≤x.1.length∧x.1.length<2^62)=>(by
 dsimp only[nL,U4,cA,eA,eN,WM,rA,II,IH,AB,AF,mvL,lnL,mvE,lnE,Bn,AV.q]
 obtain⟨h1,h2,h3⟩:=hx
 (repeat' first|(with_reducible first|rfl|exact⟨⟩|apply AG|apply AM)|apply AL|(apply AK<;>try dsimp only)|apply AJ|((try refine AH.2 ?_);intro _;try dsimp only))<;>(try dsimp only at*)<;>(try simp only[Aw,AE,AX])<;>(try omega)
 all_goals first
  |exact b8l h1 ‹_›
  |exact b8k h1 ‹_›
  |exact b8j h1 h2 ‹_›
  |exact b8m h1 ‹_› ‹_› ‹_› ‹_› ‹_›
  |exact b8n h1 ‹_› ‹_› ‹_› ‹_› ‹_› ‹_›
  |exact b8o h1 ‹_› ‹_› ‹_›
  |exact b8p h1 ‹_› ‹_›
  |(have hI:=(‹nI _ _› :nI _ _).1;omega))
def HE:Sig:=⟨Aa,fun x=>[.str x],fun x=>x.length<2^62,Unit,fun x y=>True,fun x y=> .bool (DK x),fun x y=>[.top],false,[],[]⟩
def Ug(x:Aa):LS:=⟨Int,fun i=>nmI x i,fun i=>[(0,.str x),(3,.q i)],[],fun i=>x.length-i.toNat,fun _=>[],[]⟩
theorem b8H:CtG G 136 HE:=
 vFq [(20,0,BZ),(69,0,GK),(76,0,HW),(70,0,HC)] [] (fun x=>[(4,Ug x)]) Tryz.func136 ⟨JK,a8o,a2e,a1V,trivial⟩ (fun(x:Aa)=>U3∧cA BZ [.q (nL x),.q 1,.q 30] fun x_1 y=>Ae (!inn x_1.1 x_1.2.1 x_1.2.2) (rA HE x [.bool false,.top]) (((0:Int)≤(0:Int)∧0<(nL x))∧∀(c:UInt8),x[(0:Nat)]? =some c→cA GK [AV.int IntKind.u8 (↑(UInt8.toNat c):Int)] fun x_2 y=>Ae (!BQ x_2) (rA HE x [.bool false,.top]) (cA HW [.str x] fun x_3 y=>Ae (kw x_3) (rA HE x [.bool false,.top]) (eA (Ug x) [.str x,.q 0]∧∀(i:Int),nmI x i→Ae (decide (i<(nL x))) ((0≤i∧i<(nL x))∧∀(c:UInt8),x[Int.toNat i]? =some c→cA GK [AV.int IntKind.u8 (↑(UInt8.toNat c):Int)] fun x_4 y=>Ae (!BQ x_4) ((0≤i∧i<(nL x))∧∀(c:UInt8),x[Int.toNat i]? =some c→cA HC [AV.int IntKind.u8 (↑(UInt8.toNat c):Int)] fun x_5 y=>Ae (!Bh x_5) (rA HE x [.bool false,.top]) (inR .i64 (i+1)∧eN (Ug x) i [.str x,.q (i+1)])) (inR .i64 (i+1)∧eN (Ug x) i [.str x,.q (i+1)])) (rA HE x [.bool true,.top]))))) (by kernel_rfl) fun(x:Aa) (hx:x.length<2^62)=>(by
 dsimp only[nL,U3,cA,eA,eN,Ug,rA,BZ,HC,GK,HE,HW,AB,AF,mvL,lnL,mvE,lnE,Bn,AV.q]
 have hp:∀h:inn x.length 1 30=true,1≤x.length:=fun h=>by simp [inn] at h;omega
 (repeat' first|(with_reducible first|rfl|exact⟨⟩|apply AG|apply AM)|apply AL|(apply AK<;>try dsimp only)|apply AJ|((try refine AH.2 ?_);intro _;try dsimp only))<;>(try dsimp only at*)<;>(try simp only[Aw,AE,AX])<;>(try omega)
 all_goals(try(have:=hp ‹_›;omega))
 all_goals(try(have hI:=(‹nmI _ _› :nmI _ _).1;omega))
 ·rename_i h;exact a2d (fun hh=>by rw[hh.1] at h;cases h)
 ·rename_i c hc _ _ h;exact a2d (fun hh=>by rw[a8y hc,h] at hh;cases hh.2.1)
 ·rename_i h;exact a2d (fun hh=>by rw[hh.2.2] at h;cases h)
 ·rename_i h1 c hc _ _ h2 _ _ h3;exact b8q h1 (by rw[a8y hc];exact h2) h3
 ·rename_i i hi hl c hc _ _ h1 d hd _ _ h2
  rw[hc] at hd;cases hd
  exact b8r hi hc (by simp [BA,h1,h2])
 ·rename_i i hi hl c hc _ _ h1 d hd _ _ h2
  rw[hc] at hd;cases hd
  exact a8z hi hc hl (by simp [BA,h2])
 ·rename_i i hi hl c hc _ _ h1
  exact a8z hi hc hl (by simp [BA,h1])
 ·exact b8s ‹_› ‹_›)
def Pf:Sig:=⟨Aa,fun x=>[.str x],fun x=>x.length<2^62,Unit,fun x y=>True,fun x y=> .bool (CK x 2),fun x y=>[.top],false,[],[]⟩
theorem b8I:CtG G 137 Pf:=
 vFq [(20,0,BZ),(70,0,HC)] [] (fun x=>[(2,FA Bh x fun i=>[(0,.str x),(3,.q i)])]) Tryz.func137 ⟨JK,a1V,trivial⟩ (fun(x:Aa)=>U3∧eA (FA Bh x fun(i:Int)=>[((0:Nat),.str x),((3:Nat),.q i)]) [.str x,.q 0]∧∀(i:Int),(0≤i∧i≤(nL x)∧∀(e:UInt8),e∈List.take (Int.toNat i) x→Bh e=true)→Ae (decide (i<(nL x))) ((0≤i∧i<(nL x))∧∀(c:UInt8),x[Int.toNat i]? =some c→cA HC [AV.int IntKind.u8 (↑(UInt8.toNat c):Int)] fun x_1 y=>Ae (!Bh x_1) (rA Pf x [.bool false,.top]) (inR .i64 (i+1)∧eN (FA Bh x fun(i:Int)=>[((0:Nat),.str x),((3:Nat),.q i)]) i [.str x,.q (i+1)])) (cA BZ [.q (nL x),.q 1,.q 12] fun x_1 y=>rA Pf x [.bool (inn x_1.1 x_1.2.1 x_1.2.2),.top])) (by kernel_rfl) fun(x:Aa) (hx:x.length<2^62)=>(by
 dsimp only[nL,U3,cA,eA,eN,FA,rA,BZ,HC,Pf,AB,AF,mvL,lnL,mvE,lnE,Bn,AV.q]
 (repeat' first|(with_reducible first|rfl|exact⟨⟩|apply AG|apply AM)|apply AL|(apply AK<;>try dsimp only)|apply AJ|((try refine AH.2 ?_);intro _;try dsimp only))<;>(try dsimp only at*)<;>(try simp only[Aw,AE,AX])<;>(try omega)
 ·rename_i h;simp at h
 ·rename_i i hi hl c hc _ _ h;rw[a1Z,Wz hc h];rfl
 ·rename_i i hi hl c hc _ _ h e he
  rw[CW hi.1] at he;exact TT hi.2.2 hc h e he
 ·rename_i i hi hl _ _;rw[a1Z,a1P hi.2.2 (by omega)];simp only[Kf,inn];rw[DR];simp;omega)
def NB:Sig:=⟨Aa,fun x=>[.str x],fun x=>x.length<2^62,Unit,fun x y=>True,fun x y=> .bool (CK x 3),fun x y=>[.top],false,[],[]⟩
theorem b8J:CtG G 138 NB:=
 vFq [(71,0,Ks)] [] (fun x=>[]) Tryz.func138 ⟨a8C,trivial⟩ (fun(x:Aa)=>U3∧Ae (decide ((nL x)>(1:Int))) (((0:Int)≤(0:Int)∧0<(nL x))∧∀(c:UInt8),x[(0:Nat)]? =some c→Ae ((↑(UInt8.toNat c):Int)==(39:Int)) (cA Ks [.str x,.q 0] fun x_1 y=>rA NB x [.bool ((↑(Dg (List.drop (Int.toNat x_1.2) x_1.1)):Int)==(nL x)),.top]) (rA NB x [.bool false,.top])) (rA NB x [.bool false,.top])) (by kernel_rfl) fun(x:Aa) (hx:x.length<2^62)=>(by
 dsimp only[nL,U3,cA,rA,Ks,NB,AB,AF,mvL,lnL,mvE,lnE,AV.q]
 (repeat' first|(with_reducible first|rfl|exact⟨⟩|apply AG|apply AM)|apply AL|(apply AK<;>try dsimp only)|apply AJ|((try refine AH.2 ?_);intro _;try dsimp only))<;>(try dsimp only at*)<;>(try simp only[Aw,AE,AX])<;>(try omega)
 ·exact b8t ‹_› ‹_› ‹_›
 ·exact b8u ‹_› ‹_›
 ·exact b8v ‹_›)
def NC:Sig:=⟨Aa,fun x=>[.str x],fun x=>x.length<2^62,Unit,fun x y=>True,fun x y=> .bool (CK x 5),fun x y=>[.top],false,[],[]⟩
theorem b8K:CtG G 139 NC:=
 vFq [(67,0,II),(68,0,Lm)] [] (fun x=>[]) Tryz.func139 ⟨a8D,a8A,trivial⟩ (fun(x:Aa)=>U3∧Ae (decide ((nL x)>(1:Int))) (cA II [.str x,.q 0] fun x_1 y=>Ae ((↑(CP (List.drop (Int.toNat x_1.2) x_1.1)):Int)==(nL x)) (cA Lm [.str x] fun x_2 y=>rA NC x [.bool (Cv x_2==x),.top]) (rA NC x [.bool false,.top])) (rA NC x [.bool false,.top])) (by kernel_rfl) fun(x:Aa) (hx:x.length<2^62)=>(by
 dsimp only[nL,U3,cA,rA,II,NC,Lm,AB,AF,mvL,lnL,mvE,lnE,AV.q]
 (repeat' first|(with_reducible first|rfl|exact⟨⟩|apply AG|apply AM)|apply AL|(apply AK<;>try dsimp only)|apply AJ|((try refine AH.2 ?_);intro _;try dsimp only))<;>(try dsimp only at*)<;>(try simp only[Aw,AE,AX])<;>(try omega)
 ·exact b8w ‹_› ‹_›
 ·exact b8x ‹_›
 ·exact b8y ‹_›)
def IJ:Sig:=⟨Aa,fun x=>[.str x],fun x=>x.length<2^62,Unit,fun x y=>True,fun x y=> .bool (HV x),fun x y=>[.top],false,[],[]⟩
theorem b8L:CtG G 140 IJ:=
 vFq [] [] (fun x=>[]) Tryz.func140 trivial (fun(x:Aa)=>U3∧Ae (x== #[(38:UInt8),38].toList) (rA IJ x [.bool true,.top]) (Ae (x== #[(124:UInt8),124].toList) (rA IJ x [.bool true,.top]) (Ae (x== #[(61:UInt8),61].toList) (rA IJ x [.bool true,.top]) (Ae (x== #[(60:UInt8)].toList) (rA IJ x [.bool true,.top]) (Ae (x== #[(43:UInt8)].toList) (rA IJ x [.bool true,.top]) (Ae (x== #[(45:UInt8)].toList) (rA IJ x [.bool true,.top]) (Ae (x== #[(42:UInt8)].toList) (rA IJ x [.bool true,.top]) (rA IJ x [.bool false,.top])))))))) (by kernel_rfl) fun(x:Aa) (hx:x.length<2^62)=>(by
 dsimp only[U3,rA,IJ,AB,AF]
 (repeat' first|(with_reducible first|rfl|exact⟨⟩|apply AG|apply AM)|apply AL|(apply AK<;>try dsimp only)|apply AJ|((try refine AH.2 ?_);intro _;try dsimp only))<;>(try dsimp only at*)<;>(try simp only[Aw,AE,AX])<;>(try omega)
 all_goals simp [HV, *])
def He:Sig:=⟨Int×Aa,fun x=>[.q x.1,.str x.2],fun x=>x.2.length<2^62,Unit,fun x y=>True,fun x y=> .bool (Fz x.1 x.2),fun x y=>[.top,.top],false,[],[]⟩
theorem b8M:CtG G 110 He:=
 vFq [(136,0,HE),(137,0,Pf),(138,0,NB),(139,0,NC),(140,0,IJ)] [] (fun x=>[]) Tryz.func110 ⟨b8H,b8I,b8J,b8K,b8L,trivial⟩ (fun x=>U4∧Ae (x.1==(1:Int)) (cA HE [.str x.2] fun x_1 y=>rA He x [.bool (DK x_1),.top,.top]) (Ae (x.1==(6:Int)) (cA HE [.str x.2] fun x_1 y=>rA He x [.bool (DK x_1),.top,.top]) (Ae (x.1==(12:Int)) (cA HE [.str x.2] fun x_1 y=>rA He x [.bool (DK x_1),.top,.top]) (Ae (x.1==(13:Int)) (cA HE [.str x.2] fun x_1 y=>rA He x [.bool (DK x_1),.top,.top]) (Ae (x.1==(20:Int)) (cA HE [.str x.2] fun x_1 y=>rA He x [.bool (DK x_1),.top,.top]) (Ae (x.1==(21:Int)) (cA HE [.str x.2] fun x_1 y=>rA He x [.bool (DK x_1),.top,.top]) (Ae (x.1==(2:Int)) (cA Pf [.str x.2] fun x_1 y=>rA He x [.bool (CK x_1 (2:Int)),.top,.top]) (Ae (x.1==(3:Int)) (cA NB [.str x.2] fun x_1 y=>rA He x [.bool (CK x_1 (3:Int)),.top,.top]) (Ae (x.1==(19:Int)) (cA NC [.str x.2] fun x_1 y=>rA He x [.bool (CK x_1 (5:Int)),.top,.top]) (Ae (x.1==(7:Int)) (cA IJ [.str x.2] fun x_1 y=>rA He x [.bool (HV x_1),.top,.top]) (rA He x [.bool (x.2== #[].toList),.top,.top]))))))))))) (by kernel_rfl) fun(x:Int×Aa) (hx:x.2.length<2^62)=>(by
 dsimp only[U4,cA,rA,IJ,HE,NC,Pf,NB,He,AB,AF,mvL,lnL,mvE,lnE,AV.q]
 (repeat' first|(with_reducible first|rfl|exact⟨⟩|apply AG|apply AM)|apply AL|(apply AK<;>try dsimp only)|apply AJ|((try refine AH.2 ?_);intro _;try dsimp only))<;>(try dsimp only at*)<;>(try simp only[Aw,AE,AX])<;>(try omega)
 all_goals simp [Fz, *])
end Go.My
end
section
namespace Go.My
open Go.Eng
variable {k:Int}{l:Ad}
def Ci(k:Int):Int×Int:=
 if k=4∨k=18∨k=21∨k=22 then(0,12)
 else if k=5∨k=9∨k=20 then(1,12)
 else if k=6∨k=11∨k=13∨k=14 then(1,1)
 else if k=7∨k=10 then(2,12)
 else if k=8 then(3,3)
 else if k=12∨k=15 then(0,1)
 else if k=16 then(2,3)
 else if k=17 then(2,2)
 else(0,0)
def IK(k n i y:Int):Bool:=
 if k=9 then(if i+1<n then JI y else Bg y)
 else if k=20 then(if i+1<n then JI y else IE y)
 else if k=10 then(if 0<i then Nz y else Bg y)
 else if k=16∨k=17 then(if 0<i then IE y else Bg y)
 else if k=18 then Gt y
 else if k=21 then GJ y
 else if k=22 then Mk y
 else Bg y
def Pg(ns:List Nd)(x:Nd)(i c:Int):Bool:=
 IK x.kind x.kids.length i (Ai ns c)&&(if x.kind=10∧0<i then decide (Ai ns ((Ab ns c).kids.headD 0)=1) else true)
def Fk(ns:List Nd)(x:Nd)(i c:Int):Bool:=
 (!(decide (Ai ns c=5)&&(decide ((Ab ns c).kids.length=0)|| !DW ns ((Ab ns c).kids.headD 0))))&&Pg ns x i c
def Cs(f:Int→Int→Bool):Ad→Int→Bool
 |[],_=>true
 |c::l,i=>f i c&&Cs f l (i+1)
theorem a2f{f g:Int→Int→Bool}:∀ {l:Ad} {i:Int},(∀j c,i≤j→j<i+l.length→c∈l→f j c=g j c)→Cs f l i=Cs g l i
 |[],i,h=>rfl
 |c::l,i,h=>by
  simp only[Cs]
  rw[h i c (Em i) (by simp;omega) (by simp),a2f (fun j c hj hl hc=>h j c (by omega) (by simp;omega) (by simp [hc]))]
theorem a8E{f g:Int→Int→Bool}:∀ {l:Ad} {i:Int},Cs (fun i c=>f i c&&g i c) l i=(Cs f l i&&Cs g l i)
 |[],i=>rfl
 |c::l,i=>by
  simp only[Cs];rw[a8E]
  cases f i c<;>cases g i c<;>cases Cs f l (i+1)<;>cases Cs g l (i+1)<;>rfl
theorem WN{f:Int→Bool}:∀ {l:Ad} {i:Int},Cs (fun _ c=>f c) l i=l.all f
 |[],i=>rfl
 |c::l,i=>by simp only[Cs,LO];rw[WN]
theorem a8F{f:Int→Int→Bool}{g:Int→Int}:∀ {l:Ad} {i:Int},Cs f (l.map g) i=Cs (fun i c=>f i (g c)) l i
 |[],i=>rfl
 |c::l,i=>by simp only[Cs,En];rw[a8F]
theorem a8G{f:Int→Int→Bool}:∀ {l m:Ad} {i:Int},Cs f (l++m) i=(Cs f l i&&Cs f m (i+l.length))
 |[],m,i=>by simp [Cs]
 |c::l,m,i=>by
  simp only[EW,Cs];rw[a8G,Bool.and_assoc]
  congr 2;congr 1;simp;omega
theorem a8H{f:Int→Int→Bool}:∀ {l:Ad} {i:Nat},((l.zipIdx i).all fun p=>f p.2 p.1)=Cs f l i
 |[],i=>rfl
 |c::l,i=>by
  simp only[List.zipIdx_cons,LO,Cs];rw[a8H];congr 2
theorem a8I{f:Int→Int→Bool}:Cs f l 0=true↔∀(j:Nat) c,l[j]? =some c→f j c=true:=by
 have:∀(l:Ad) (i:Nat),Cs f l i=true↔∀(j:Nat) c,l[j]? =some c→f (i+j:Nat) c=true:=by
  intro l
  induction l with
  |nil=>intro i;simp [Cs]
  |cons c l ih=>
   intro i
   simp only[Cs,AY]
   have:=ih (i+1)
   rw[show((i:Int)+1)=((i+1:Nat):Int) from by omega,this]
   constructor
   ·rintro⟨h1,h2⟩ j d hd
    cases j with
    |zero=>simp at hd;subst hd;simpa using h1
    |succ j=>have:=h2 j d (by simpa using hd);rwa [show i+1+j=i+(j+1) by omega] at this
   ·intro h
    refine⟨by simpa using h 0 c rfl,fun j d hd=> ?_⟩
    have:=h (j+1) d (by simpa using hd)
    rwa [show i+(j+1)=i+1+j by omega] at this
 have:=this l 0
 simpa using this
theorem a8J(h:l.getLast? =some k):l=l.dropLast++[k]:=by
 have hne:l≠[]:=by intro e;rw[e] at h;cases h
 rw[List.getLast?_eq_some_getLast hne] at h
 have:=List.dropLast_concat_getLast hne
 rw[LU h] at this;exact this.symm
theorem a8K{p:Int→Bool}:(decide (1≤l.length)&&Cs (fun i y=>if i+1<(l.length:Int) then JI y else p y) l 0)=JJ p l:=by
 unfold JJ
 cases h:l.getLast? with
 |none=>have:l=[]:=by simpa using h
        subst this;rfl
 |some k=>
  have e:=a8J h
  generalize hd:l.dropLast=m at e ⊢
  subst e
  rw[a8G]
  have h1:Cs (fun i y=>if i+1<((m++[k]).length:Int) then JI y else p y) m 0=m.all JI:=by
   rw[←WN (i:=0)]
   exact a2f fun j c h0 hj hc=>if_pos (by simp;omega)
  rw[h1]
  simp only[Cs]
  have h2:¬((0:Int)+m.length+1<((m++[k]).length:Int)):=by simp
  rw[if_neg h2]
  have:decide (1≤(m++[k]).length)=true:=by simp
  rw[this];simp [Bool.and_comm]
theorem a8L{p q:Int→Bool}{c:Int}:Cs (fun i y=>if 0<i then q y else p y) (c::l) 0=(p c&&l.all q):=by
 simp only[Cs]
 have h1:¬((0:Int)<0):=by omega
 rw[if_neg h1]
 congr 1
 rw[←WN (i:=0+1)]
 exact a2f fun j c h0 hj hc=>if_pos (by omega)
theorem a8M{k:Int}{l:Ad}(h1:1≤k)(h2:k≤22):(inn l.length (Ci k).1 (Ci k).2&&Cs (fun i y=>IK k l.length i y) l 0)=(decide (l.length≤12)&&HB k l):=by
 have hk:k=1∨k=2∨k=3∨k=4∨k=5∨k=6∨k=7∨k=8∨k=9∨k=10∨k=11∨k=12∨k=13∨k=14∨k=15∨k=16∨k=17∨k=18∨k=19∨k=20∨k=21∨k=22:=by omega
 have len0:∀ {b c:Bool},l.length=0→(l=[]):=fun h=>Hq.1 h
 rcases hk with rfl|rfl|rfl|rfl|rfl|rfl|rfl|rfl|rfl|rfl|rfl|rfl|rfl|rfl|rfl|rfl|rfl|rfl|rfl|rfl|rfl|rfl
 all_goals simp only[Ci,IK,HB,inn,Int.reduceEq,or_self,or_false,false_or,or_true,true_or,BN,Br,reduceIte]
 all_goals try(
  by_cases h:l.length=0
  ·have:=Hq.1 h;subst this;rfl
  ·have e1:decide ((l.length:Int)≤0)=false:=Gj (by omega)
   have e2:decide (l.length=0)=false:=Gj h
   simp only[e1,e2,Bool.and_false,Lb];done)
 all_goals try rw[WN]
 all_goals try(
  generalize l.all _=b
  rw[DR];cases b<;>simp only[AY,Bf,Bl,and_false,and_true]<;>omega)
 ·rw[show decide (1≤(l.length:Int))=decide (1≤l.length) from OD.2 (by omega),show decide ((l.length:Int)≤12)=decide (l.length≤12) from OD.2 (by omega),←a8K (p:=Bg)]
  generalize Cs _ l 0=b
  cases decide (1≤l.length)<;>cases decide (l.length≤12)<;>cases b<;>rfl
 ·cases l with
  |nil=>rfl
  |cons c l=>
   rw[a8L]
   simp only[Nb,Na,GU]
   generalize Bg c=b;generalize l.all _=d
   rw[DR];cases b<;>cases d<;>simp only[AY,Bf,Bl,and_false,and_true]<;>omega
 ·cases l with
  |nil=>rfl
  |cons c l=>
   rw[a8L]
   simp only[Nb,Na,GU]
   generalize Bg c=b;generalize l.all _=d
   rw[DR];cases b<;>cases d<;>simp only[AY,Bf,Bl,and_false,and_true]<;>omega
 ·match l with
  |[]=>rfl
  |[c]=>rfl
  |[c,d]=>simp [Cs]
  |c::d::e::l=>
   have e1:decide (((c::d::e::l).length:Int)≤2)=false:=Gj (by simp;omega)
   have e2:decide ((c::d::e::l).length=2)=false:=Gj (by simp)
   rw[e1,e2];simp
 ·rw[show decide (1≤(l.length:Int))=decide (1≤l.length) from OD.2 (by omega),show decide ((l.length:Int)≤12)=decide (l.length≤12) from OD.2 (by omega),←a8K (p:=IE)]
  generalize Cs _ l 0=b
  cases decide (1≤l.length)<;>cases decide (l.length≤12)<;>cases b<;>rfl
theorem a8N(h:inn k 1 22=false):HB k l=false:=by
 have h:¬(1≤k∧k≤22):=by intro hh;simp [inn] at h;omega
 unfold HB
 have e:∀j:Int,1≤j→j≤22→k≠j:=fun j h1 h2 e=>h (by omega)
 simp [e]
theorem b8N{ns:List Nd}{x:Nd}{i c:Int}:Fk ns x i c=(IK x.kind x.kids.length i (Ai ns c)&&OU ns x i.toNat c):=by
 unfold Fk Pg OU Ai
 generalize hy:Ab ns c=y
 by_cases h5:y.kind=5
 ·simp only[h5,BN,decide_true,Kf]
  cases hk:y.kids with
  |nil=>simp
  |cons h t=>
   simp only[AE,Nb]
   have e0:decide (t.length+1=0)=false:=by simp
   rw[e0]
   by_cases hx:x.kind=10∧0<i
   ·have hi:0<i.toNat:=by omega
    simp only[hx,and_self,BN,decide_true,Kf,hi]
    generalize IK 10 _ _ _=a;generalize DW ns h=b
    by_cases hd:(Ab ns h).kind=1<;>cases a<;>cases b<;>simp [hd]
   ·rw[if_neg hx]
    have:(decide (x.kind=10)&&(decide (0<i.toNat)&& !decide ((Ab ns h).kind=1)))=false:=by
     by_cases h1:x.kind=10
     ·have:¬0<i.toNat:=by omega
      simp [this]
     ·simp [h1]
    rw[this]
    generalize IK _ _ _ _=a;generalize DW ns h=b
    cases a<;>cases b<;>rfl
 ·simp only[h5,Br,decide_false,Lb,Bool.not_false,Kf,Qu]
  by_cases hx:x.kind=10∧0<i
  ·rw[if_pos hx]
   have:IK x.kind x.kids.length i y.kind=false:=by
    simp [IK,hx,Nz,h5]
   rw[this];rfl
  ·rw[if_neg hx];simp
theorem b8O{ns:List Nd}{x:Nd}:TW ns k x=
 (inn x.kind 1 22&&(inn x.kids.length (Ci x.kind).1 (Ci x.kind).2&&(Fz x.kind x.text&&((NA x.kind|| !x.blank)&&((Gu x.kids k&&decide x.kids.Nodup)&&Cs (Fk ns x) x.kids 0))))):=by
 have e1:Cs (Fk ns x) x.kids 0=(Cs (fun i y=>IK x.kind (x.kids.map (Ai ns)).length i y) (x.kids.map (Ai ns)) 0&&TV ns x):=by
  have:(Fk ns x)=fun i c=>(IK x.kind x.kids.length i (Ai ns c)&&OU ns x i.toNat c):=by
   funext i c;exact b8N
  rw[this,a8E,a8F,Fv]
  congr 1
  unfold TV
  have:(fun p:Int×Nat=>OU ns x p.2 p.1)=fun p:Int×Nat=>(fun(i c:Int)=>OU ns x i.toNat c) p.2 p.1:=by
   funext p;simp
  rw[this]
  exact(a8H (f:=fun i c=>OU ns x i.toNat c) (i:=0)).symm
 unfold TW
 by_cases h:inn x.kind 1 22=true
 ·have hb:= @a8M x.kind (x.kids.map (Ai ns)) (by simp [inn] at h;omega) (by simp [inn] at h;omega)
  rw[Fv] at hb
  rw[e1,Fv,h]
  generalize decide (x.kids.length≤12)=a at hb ⊢;generalize HB x.kind _=b at hb ⊢;generalize inn _ _ _=c at hb ⊢
  generalize Cs _ _ 0=d at hb ⊢;generalize Fz _ _=e;generalize NA _=f;generalize TV _ _=g;generalize Gu _ _=h1;generalize decide x.kids.Nodup=h2
  cases a<;>cases b<;>cases c<;>cases d<;>simp at hb<;>cases e<;>cases f<;>cases g<;>cases h1<;>cases h2<;>simp
 ·simp only[Oz] at h
  rw[a8N h,h];simp
end Go.My
end
section
namespace Go.My
open Go.Eng Go.Proofs
variable {G:GInv}
variable {c i j k v:Int}{l:Ad}{n:Nat}{ns:List Nd}{x:List Nd×Int×Int}{y z:Nd}
theorem WO{a b:Int}:(a==b)=decide (a=b):=by rw[DR];simp
def b8P(x:Nd):Prop:=x.text.length<2^62∧x.kids.length<2^62
def Ew(l:List Nd):Prop:=l.length<2^62∧∀x∈l,b8P x
def nkI(k:Int)(l:Ad)(i:Int):Prop:=0≤i∧i≤l.length∧(∀c∈l.take i.toNat,0≤c∧c<k)∧(l.take i.toNat).Nodup
theorem b8Q:nkI k l 0:=⟨by omega,by omega,by simp,by simp⟩
theorem b8R(h:nkI k l i)(hc:l[i.toNat]? =some c)(h1:¬c<0)(h2:¬c≥k)(h3:(l.take i.toNat).elem c=false):nkI k l (i+1):=by
 obtain⟨ha,hb,hd,he⟩:=h
 have:=(Ec hc).1
 refine⟨by omega,by omega,?_,?_⟩
 ·rw[CW ha,FS hc];intro d hd'
  rcases FK.1 hd' with hd'|hd'
  ·exact hd d hd'
  ·simp at hd';subst hd';omega
 ·rw[CW ha,FS hc,List.nodup_append]
  refine⟨he,by simp,?_⟩
  intro a ha' b hb' hab
  simp at hb';subst hb';subst hab
  simp at h3;exact h3 ha'
theorem WP(h:nkI k l i)(hl:¬i<l.length):Gu l k=true∧l.Nodup:=by
 obtain⟨ha,hb,hd,he⟩:=h
 rw[EH (by omega)] at hd he
 exact⟨by simpa [Gu] using hd,he⟩
theorem nk_lt(hc:l[n]? =some c)(h1:c<0):Gu l k=false:=by
 rw[FI];intro h;simp only[Gu,CC,AY,Bf] at h
 have:=h c (Bq hc);omega
theorem b8S(hc:l[n]? =some c)(h1:(l.take n).elem c=true):¬l.Nodup:=by
 intro h
 have e:l=l.take n++l.drop n:=(Fw n l).symm
 rw[e,GI hc,List.nodup_append] at h
 exact h.2.2 c (by simpa using h1) c (by simp) rfl
theorem b8T(h:DW ns k=false):false=DC ns k:=by simp [DC,h]
theorem b8U{x:Nd}(hx:ns[k.toNat]? =some x)(h:DW ns k=true):DC ns k=TW ns k x:=by rw[DC,h,BR hx];rfl
theorem b8V{n:Int}(h:nkI k l i)(hl:¬i<l.length)(hk:k<n)(hc:c∈l):0≤c∧c<n:=by
 have:=(WP h hl).1
 simp only[Gu,CC,AY,Bf] at this
 have:=this c hc;omega
theorem b8W(h:DW ns k=false):0=DD ns k:=by simp [DD,h]
def cnt(n:Nat)(l:Ad):Ad:=(List.range n).map fun(c:Nat)=>(l.count (c:Int):Int)
theorem ND:(cnt n l).length=n:=by simp [cnt]
theorem Rr{c:Nat}(h:c<n):(cnt n l)[c]? =some (l.count (c:Int):Int):=by
 simp [cnt,LR,List.getElem?_range,h]
theorem b8X:List.replicate n 0=cnt n []:=by
 apply LP
 intro c
 by_cases h:c<n
 ·rw[Rr h];simp [h]
 ·rw[Gi (by simp;omega),Gi (by simp [cnt];omega)]
theorem b8Y(h0:0≤c)(h1:c<n)(hv:(cnt n l)[c.toNat]? =some v):(cnt n l).set c.toNat (v+1)=cnt n (l++[c]):=by
 apply LP
 intro d
 rw[Qw]
 by_cases hd:d<n
 ·rw[Rr hd,Rr hd,List.count_append]
  rw[Rr (by omega)] at hv
  by_cases e:c.toNat=d
  ·subst e
   rw[if_pos rfl,if_pos (by rw[ND];omega)]
   have e2:((c.toNat:Nat):Int)=c:=by omega
   rw[e2] at hv ⊢
   simp at hv ⊢;omega
  ·rw[if_neg e]
   have:¬c=(d:Int):=by omega
   simp [List.count_cons,this]
 ·rw[if_neg (by omega),Gi (by rw[ND];omega),Gi (by rw[ND];omega)]
def tk(ns:List Nd)(i j:Int):Ad:=Dn (ns.take i.toNat)++(Ab ns i).kids.take j.toNat
def tI(ns:List Nd):Prop:=1≤ns.length∧ns.length≤300∧Ai ns (ns.length-1)=22∧DD ns (ns.length-1)≠0
theorem b8Z(h:tI ns)(hy:ns[n]? =some y):DC ns n=true:=by
 exact(Ua h.2.2.2).2.2 n (by have:=(Ec hy).1;omega)
theorem WQ(h:tI ns)(hy:ns[n]? =some y):y.kids.length≤12∧∀c∈y.kids,0≤c∧c<ns.length:=by
 obtain⟨h1,h2,h3,h4,h5⟩:=CU (b8Z h hy)
 rw[BR (by simpa using hy)] at h2 h4
 exact⟨h2,fun c hc=>by have:=h4 c hc;omega⟩
theorem b9a{l:List Nd}(h:∀y∈l,y.kids.length≤12):(Dn l).length≤12*l.length:=by
 induction l with
 |nil=>simp [Dn]
 |cons y l ih=>
  have h1:=h y (by simp)
  have h2:=ih fun z hz=>h z (by simp [hz])
  simp only[Dn,GV,Ba,AE] at h2 ⊢;omega
theorem b9b{ns:List Nd}{i j:Int}(h:tI ns):(Dn (ns.take i.toNat)).length≤3600:=by
 have h1:∀y∈ns.take i.toNat,y.kids.length≤12:=by
  intro y hy
  obtain⟨n,hn⟩:=List.mem_iff_getElem?.1 (GX hy)
  exact(WQ h hn).1
 have:=b9a h1
 have h2:(ns.take i.toNat).length≤300:=by have:=h.2.1;simp;omega
 omega
theorem b9c{c:Nat}(hv:(cnt n l)[c]? =some v):0≤v∧v≤l.length:=by
 have h:c<n:=by have:=(Ec hv).1;rwa [ND] at this
 rw[Rr h] at hv;cases hv
 have:=List.count_le_length (a:=(c:Int)) (l:=l)
 omega
theorem b9d:tk ns i 0=Dn (ns.take i.toNat):=by simp [tk]
theorem b9e(h0:0≤j)(hc:(Ab ns i).kids[j.toNat]? =some c):tk ns i (j+1)=tk ns i j++[c]:=by
 rw[tk,CW h0,FS hc,tk,Bz]
theorem b9f(h0:0≤i)(hy:ns[i.toNat]? =some y)(hl:¬j<(Ab ns i).kids.length):tk ns i j=Dn (ns.take (i+1).toNat):=by
 rw[tk,EH (l:=(Ab ns i).kids) (by omega),CW h0,FS hy,BR hy];simp [Dn]
def tE(ns:List Nd)(i:Int):Prop:=0≤i∧i≤ns.length-1∧∀c:Nat,(c:Int)<i→(Dn ns).count (c:Int)=1
theorem b9g(h:tI ns)(he:tE ns i)(hl:¬i<(ns.length-1:Int)):true=CT ns:=by
 symm;unfold CT
 have h1:decide (1≤ns.length)=true:=Ht h.1
 have h2:decide (ns.length≤300)=true:=Ht h.2.1
 have h3:decide (Ai ns (ns.length-1)=22)=true:=Ht h.2.2.1
 have h4:decide (DD ns (ns.length-1)=0)=false:=Gj h.2.2.2
 rw[h1,h2,h3,h4]
 simp only[Qu,Bool.not_false,Kf,CC,Bf,List.mem_range]
 exact fun c hc=>he.2.2 c (by omega)
theorem b9h(hv:(Dn ns).count i=v)(h0:0≤i)(hl:i<(ns.length-1:Int))(hne:v≠1):false=CT ns:=by
 symm;rw[FI];intro h
 unfold CT at h
 simp only[AY,CC,Bf,List.mem_range] at h
 have:=h.2.2.2 i.toNat (by omega)
 have e2:((i.toNat:Nat):Int)=i:=by omega
 rw[e2] at this;omega
theorem a2g(h:¬tI ns):false=CT ns:=by
 symm;rw[FI];intro hh
 unfold CT at hh
 simp only[AY,Bf,EV,GY] at hh
 exact h ⟨hh.1.1,hh.1.2,hh.2.1,hh.2.2.1⟩
theorem b9i(h:tI ns)(hy:ns[i.toNat]? =some y):(Ab ns i).kids.length≤12:=by
 rw[BR hy];exact(WQ h hy).1
theorem b9j{ns:List Nd}{i j:Int}{y:Nd}(h:tI ns)(hy:ns[i.toNat]? =some y):(tk ns i j).length≤3612:=by
 have h1:= @b9b ns i j h;have h2:=b9i h hy
 rw[tk,Ba,DU];omega
theorem b9k{c:Nat}(h:tI ns)(hv:(cnt ns.length (tk ns i j))[c]? =some v)(hy:ns[i.toNat]? =some y):0≤v∧v≤3612:=by
 have h1:=b9c hv;have h2:= @b9j ns i j y h hy;omega
theorem Cm{x a b:Int}:inn x a b=true↔a≤x∧x≤b:=by simp [inn]
theorem b9l(h:inn ns.length 1 300=true)(hy:ns[(ns.length-1:Int).toNat]? =some y)(hk:y.kind=22)(hd:DD ns (ns.length-1)≠0):tI ns:=by
 have:=Cm.1 h
 exact⟨by omega,by omega,by rw[Ai,BR hy,hk],hd⟩
theorem b9m(h:inn ns.length 1 300=false):¬tI ns:=by
 intro hh;have:inn ns.length 1 300=true:=Cm.2 ⟨by have:=hh.1;omega,by have:=hh.2.1;omega⟩
 rw[h] at this;cases this
theorem b9n(hy:ns[(ns.length-1:Int).toNat]? =some y)(hk:y.kind≠22):¬tI ns:=by
 intro hh;have:=hh.2.2.1;rw[Ai,BR hy] at this;exact hk this
theorem b9o(hl:¬i<ns.length):Dn (ns.take i.toNat)=Dn ns:=by rw[EH (by omega)]
def Hf:Sig:=⟨Int,fun x=>[.q x],fun x=>True,Unit,fun x y=>True,fun x y=> .bool (Bg x),fun x y=>[.top],false,[],[]⟩
theorem a2h:CtG G 113 Hf:=
 vFq [(20,0,BZ)] [] (fun x=>[]) Tryz.func113 ⟨JK,trivial⟩ (fun(x:Int)=>U3∧cA BZ [.q x,.q 1,.q 11] fun x_1 y=>rA Hf x [.bool (inn x_1.1 x_1.2.1 x_1.2.2),.top]) (by kernel_rfl) fun(x:Int) (hx:True)=>(by
 dsimp only[U3,cA,rA,BZ,Hf,AB,AF,mvL,lnL,mvE,lnE,AV.q]
 (repeat' first|(with_reducible first|rfl|exact⟨⟩|apply AG|apply AM)|apply AL|(apply AK<;>try dsimp only)|apply AJ|((try refine AH.2 ?_);intro _;try dsimp only))<;>(try dsimp only at*)<;>(try simp only[Aw,AE,AX])<;>(try omega)
 all_goals simp [Bg,WO, *])
def Ln:Sig:=⟨Int,fun x=>[.q x],fun x=>True,Unit,fun x y=>True,fun x y=> .bool (Gt x),fun x y=>[.top],false,[],[]⟩
theorem a8O:CtG G 111 Ln:=
 vFq [(20,0,BZ)] [] (fun x=>[]) Tryz.func111 ⟨JK,trivial⟩ (fun(x:Int)=>U3∧cA BZ [.q x,.q 12,.q 17] fun x_1 y=>Ae (inn x_1.1 x_1.2.1 x_1.2.2) (rA Ln x [.bool true,.top]) (rA Ln x [.bool (x==19),.top])) (by kernel_rfl) fun(x:Int) (hx:True)=>(by
 dsimp only[U3,cA,rA,BZ,Ln,AB,AF,mvL,lnL,mvE,lnE,AV.q]
 (repeat' first|(with_reducible first|rfl|exact⟨⟩|apply AG|apply AM)|apply AL|(apply AK<;>try dsimp only)|apply AJ|((try refine AH.2 ?_);intro _;try dsimp only))<;>(try dsimp only at*)<;>(try simp only[Aw,AE,AX])<;>(try omega)
 all_goals simp [Gt,TU,WO, *])
def EK:Sig:=⟨Int,fun x=>[.q x],fun x=>True,Unit,fun x y=>True,fun x y=> .tup [.q (Ci x).1,.q (Ci x).2],fun x y=>[.top],false,[],[]⟩
theorem b9p:CtG G 109 EK:=
 vFq [] [] (fun x=>[]) Tryz.func109 trivial (fun(x:Int)=>(∀(y:Unit),True→(True∧True∧True)∧True∧True)∧Ae (x==4) (rA EK x [.tup [.q 0,.q 12],.top]) (Ae (x==18) (rA EK x [.tup [.q 0,.q 12],.top]) (Ae (x==21) (rA EK x [.tup [.q 0,.q 12],.top]) (Ae (x==22) (rA EK x [.tup [.q 0,.q 12],.top]) (Ae (x==5) (rA EK x [.tup [.q 1,.q 12],.top]) (Ae (x==9) (rA EK x [.tup [.q 1,.q 12],.top]) (Ae (x==20) (rA EK x [.tup [.q 1,.q 12],.top]) (Ae (x==6) (rA EK x [.tup [.q 1,.q 1],.top]) (Ae (x==11) (rA EK x [.tup [.q 1,.q 1],.top]) (Ae (x==13) (rA EK x [.tup [.q 1,.q 1],.top]) (Ae (x==14) (rA EK x [.tup [.q 1,.q 1],.top]) (Ae (x==7) (rA EK x [.tup [.q 2,.q 12],.top]) (Ae (x==10) (rA EK x [.tup [.q 2,.q 12],.top]) (Ae (x==8) (rA EK x [.tup [.q 3,.q 3],.top]) (Ae (x==12) (rA EK x [.tup [.q 0,.q 1],.top]) (Ae (x==15) (rA EK x [.tup [.q 0,.q 1],.top]) (Ae (x==16) (rA EK x [.tup [.q 2,.q 3],.top]) (Ae (x==17) (rA EK x [.tup [.q 2,.q 2],.top]) (rA EK x [.tup [.q 0,.q 0],.top]))))))))))))))))))) (by kernel_rfl) fun(x:Int) (hx:True)=>(by
 dsimp only[rA,EK,AB,AF,AV.q]
 (repeat' first|(with_reducible first|rfl|exact⟨⟩|apply AG|apply AM)|apply AL|(apply AK<;>try dsimp only)|apply AJ|((try refine AH.2 ?_);intro _;try dsimp only))<;>(try dsimp only at*)<;>(try simp only[Aw,AE,AX])<;>(try omega)
 all_goals simp [Ci, *])
def Kt(x:List Nd×Int×Int):Prop:=Ew x.1∧DW x.1 x.2.1=true∧((Ab x.1 x.2.1).kind=10→∀c,(Ab x.1 x.2.1).kids[x.2.2.toNat]? =some c→Ai x.1 c=5→∃h t,(Ab x.1 c).kids=h::t∧DW x.1 h=true)∧
 (0≤x.2.2∧x.2.2<(Ab x.1 x.2.1).kids.length)∧∀c,(Ab x.1 x.2.1).kids[x.2.2.toNat]? =some c→0≤c∧c<x.1.length
theorem a2i(h:Kt x)(hy:x.1[x.2.1.toNat]? =some y):0≤x.2.2∧x.2.2<y.kids.length:=by
 have:=h.2.2.2.1;rwa [BR hy] at this
theorem a8P(h:Kt x)(hy:x.1[x.2.1.toNat]? =some y)(hc:y.kids[x.2.2.toNat]? =some c):0≤c∧c<x.1.length:=by
 have:=h.2.2.2.2 c;rw[BR hy] at this;exact this hc
theorem a8Q(h:Kt x)(hy:x.1[x.2.1.toNat]? =some y)(hc:y.kids[x.2.2.toNat]? =some c)(hz:x.1[c.toNat]? =some z)(hk:y.kind=10)(hz5:z.kind=5):∃h t,z.kids=h::t∧DW x.1 h=true:=by
 have:=h.2.2.1;rw[BR hy] at this
 have:=this hk c hc;rw[Ai,BR hz] at this;exact this hz5
theorem a8R{d:Int}(h:Kt x)(hy:x.1[x.2.1.toNat]? =some y)(hc:y.kids[x.2.2.toNat]? =some c)(hz:x.1[c.toNat]? =some z)(hk:y.kind=10)(hz5:z.kind=5)(hd:z.kids[0]? =some d):(0≤d∧d<x.1.length)∧z.kids.headD 0=d:=by
 obtain⟨a,t,e,ha⟩:=a8Q h hy hc hz hk hz5
 rw[e] at hd ⊢;cases hd;exact⟨BF.1 ha,rfl⟩
theorem a8S(h:Kt x)(hy:x.1[x.2.1.toNat]? =some y)(hc:y.kids[x.2.2.toNat]? =some c)(hz:x.1[c.toNat]? =some z)(hk:y.kind=10)(hz5:z.kind=5):0<z.kids.length:=by
 obtain⟨a,t,e,ha⟩:=a8Q h hy hc hz hk hz5
 rw[e];simp
def Ph(x:List Nd×Int×Int):Bool:=Pg x.1 (Ab x.1 x.2.1) x.2.2 ((Ab x.1 x.2.1).kids.getD x.2.2.toNat 0)
theorem a8T(hy:x.1[x.2.1.toNat]? =some y)(hc:y.kids[x.2.2.toNat]? =some c)(hz:x.1[c.toNat]? =some z):
 Ph x=(IK y.kind y.kids.length x.2.2 z.kind&&(if y.kind=10∧0<x.2.2 then decide (Ai x.1 (z.kids.headD 0)=1) else true)):=by
 rw[Ph,BR hy,List.getD,hc,LT,Pg,Ai,BR hz]
def Ep:Sig:=⟨List Nd×Int×Int,fun x=>[nds x.1,.q x.2.1,.q x.2.2],fun x=>Kt x,Unit,fun x y=>True,fun x y=> .bool (Ph x),fun x y=>[.top,.top,.top],false,[],[]⟩
theorem b9q:CtG G 112 Ep:=
 vFq [(113,0,Hf),(111,0,Ln)] [] (fun x=>[]) Tryz.func112 ⟨a2h,a8O,trivial⟩ (fun x=>U5∧(0≤x.2.1∧x.2.1<(nL x.1))∧∀(e:Nd),x.1[Int.toNat x.2.1]? =some e→(0≤x.2.2∧x.2.2<(nL e.kids))∧∀(e_1:Int),e.kids[Int.toNat x.2.2]? =some e_1→(0≤e_1∧e_1<(nL x.1))∧∀(e_2:Nd),x.1[Int.toNat e_1]? =some e_2→Ae (e.kind==9) (inR .i64 (x.2.2+(1:Int))∧Ae (decide (x.2.2+1<(nL e.kids))) (rA Ep x [.bool (e_2.kind==1),.top,.top,.top]) (cA Hf [.q e_2.kind] fun x_1 y=>rA Ep x [.bool (Bg x_1),.top,.top,.top])) (Ae (e.kind==20) (inR .i64 (x.2.2+(1:Int))∧Ae (decide (x.2.2+1<(nL e.kids))) (rA Ep x [.bool (e_2.kind==1),.top,.top,.top]) (rA Ep x [.bool (e_2.kind==18),.top,.top,.top])) (Ae (e.kind==10) (Ae (decide (x.2.2>(0:Int))) (Ae (e_2.kind==5) (((0:Int)≤(0:Int)∧0<(nL e_2.kids))∧∀(e:Int),e_2.kids[(0:Nat)]? =some e→(0≤e∧e<(nL x.1))∧∀(e_3:Nd),x.1[Int.toNat e]? =some e_3→rA Ep x [.bool (e_3.kind==1),.top,.top,.top]) (rA Ep x [.bool false,.top,.top,.top])) (cA Hf [.q e_2.kind] fun x_1 y=>rA Ep x [.bool (Bg x_1),.top,.top,.top])) (Ae (e.kind==16) (Ae (decide (x.2.2>(0:Int))) (rA Ep x [.bool (e_2.kind==18),.top,.top,.top]) (cA Hf [.q e_2.kind] fun x_1 y=>rA Ep x [.bool (Bg x_1),.top,.top,.top])) (Ae (e.kind==17) (Ae (decide (x.2.2>(0:Int))) (rA Ep x [.bool (e_2.kind==18),.top,.top,.top]) (cA Hf [.q e_2.kind] fun x_1 y=>rA Ep x [.bool (Bg x_1),.top,.top,.top])) (Ae (e.kind==18) (cA Ln [.q e_2.kind] fun x_1 y=>rA Ep x [.bool (Gt x_1),.top,.top,.top]) (Ae (e.kind==21) (Ae (e_2.kind==12) (rA Ep x [.bool true,.top,.top,.top]) (Ae (e_2.kind==20) (rA Ep x [.bool true,.top,.top,.top]) (rA Ep x [.bool (e_2.kind==19),.top,.top,.top]))) (Ae (e.kind==22) (Ae (e_2.kind==21) (rA Ep x [.bool true,.top,.top,.top]) (Ae (e_2.kind==12) (rA Ep x [.bool true,.top,.top,.top]) (Ae (e_2.kind==20) (rA Ep x [.bool true,.top,.top,.top]) (rA Ep x [.bool (e_2.kind==19),.top,.top,.top])))) (cA Hf [.q e_2.kind] fun x_1 y=>rA Ep x [.bool (Bg x_1),.top,.top,.top]))))))))) (by kernel_rfl) fun(x:List Nd×Int×Int) (hx:Kt x)=>(by
 dsimp only[nL,U5,cA,Ce,nds,rA,Ep,Ln,Hf,AB,AF,mvL,lnL,mvE,lnE,AV.q]
 have h:=hx;have h1:=h.1;have hl:=h1.1;have hn:=BF.1 h.2.1
 (repeat' first|(with_reducible first|rfl|exact⟨⟩|apply AG|apply AM)|apply AL|(apply AK<;>try dsimp only)|apply AJ|((try refine AH.2 ?_);intro _;try dsimp only))
 all_goals first
  |omega
  |exact(a2i h ‹_›).1
  |exact(a2i h ‹_›).2
  |exact(a8P h ‹_› ‹_›).1
  |exact(a8P h ‹_› ‹_›).2
  |exact a8S h ‹_› ‹_› ‹_› ‹_› ‹_›
  |(have:=a8S h ‹_› ‹_› ‹_› ‹_› ‹_›;omega)
  |(have:=(a8R h ‹_› ‹_› ‹_› ‹_› ‹_› ‹_›).1;omega)
  |(have hk:=(h1.2 _ (Bq ‹x.1[x.2.1.toNat]? =some _›)).2;have:=a2i h ‹_›;(try simp only[Aw]);omega)
  |(rw[a8T ‹_› ‹_› ‹_›];simp [IK,JI,IE,GJ,Mk,Nz,WO, *];done)
  |(rw[a8T ‹_› ‹_› ‹_›,(a8R h ‹_› ‹_› ‹_› ‹_› ‹_› ‹_›).2,Ai,BR ‹_›];simp [IK,Nz,WO, *];done)
  |skip)
end Go.My
end
