/- A part of the proof: the engine and the contracts, joined. -/
import Derived.Test.YtplklcfglbkfhaaGreatDoorQH
section
set_option linter.unusedVariables false
set_option linter.unusedSimpArgs false
namespace Go.My
open Go.Eng Go.Proofs
variable {G:GInv}
def MJ:List (List UInt8):=[[38,38],[124,124],[61,61],[61,62],[46,46]]
def JN:List (List UInt8):=[[40],[41],[123],[125],[91],[93],[59],[44],[46],[61],[43],[45],[42],[60],[63],[58]]
def mks:List (List UInt8):=[[38,38],[124,124],[61,61],[61,62],[46,46],[40],[41],[123],[125],[91],[93],[59],[44],[46],[61],[43],[45],[42],[60],[63],[58]]
def EN(s:List UInt8):List UInt8:=(mks.find? fun m=>s.take m.length==m).getD []
theorem RZ{s:List UInt8}{k:Nat}:∀ {l:List (List UInt8)},(∀m∈l,m.length=k)→l.find? (fun m=>s.take m.length==m)=if l.elem (s.take k) then some (s.take k) else none
 |[],_=>rfl
 |m::l,h=>by
  have hm:=h m (by simp)
  rw[List.find?_cons,List.elem_cons,hm]
  cases he:(s.take k==m) with
  |true=>
   have:s.take k=m:=by simpa using he
   simp [this]
  |false=>
   rw[RZ (l:=l) (fun m hm=>h m (by simp [hm]))]
theorem Xb{s:List UInt8}:EN s=if MJ.elem (s.take 2) then s.take 2 else if JN.elem (s.take 1) then s.take 1 else []:=by
 have e:mks=MJ++JN:=rfl
 rw[EN,e,List.find?_append,RZ (k:=2) (l:=MJ) (by decide),RZ (k:=1) (l:=JN) (by decide)]
 split
 ·rfl
 ·split<;>rfl
theorem a5L{s:List UInt8}:MJ.elem s=mk2 s:=by
 rw[Bool.eq_iff_iff];simp [MJ,mk2]
theorem a5M{c:UInt8}:JN.elem [c]=mk1.elem c:=by
 simp [JN,mk1,List.elem_cons,List.elem_nil]
theorem Xc{c:UInt8}{s:List UInt8}:EN (c::s)=if Ck ((c::s).take 2) then(c::s).take 2 else if Ck ((c::s).take 1) then(c::s).take 1 else []:=by
 rw[Xb,a5L]
 have h1:JN.elem ((c::s).take 1)=Ck ((c::s).take 1):=by
  show JN.elem [c]=Ck [c]
  rw[a5M]
  simp [Ck,mk2]
 rw[h1]
 cases s with
 |nil=>
  show(if mk2 [c]=true then [c] else if Ck [c]=true then [c] else [])=if Ck [c]=true then [c] else if Ck [c]=true then [c] else []
  have:mk2 [c]=false:=by simp [mk2]
  rw[this];simp
 |cons d r=>
  have:Ck ((c::d::r).take 2)=mk2 ((c::d::r).take 2):=by
   show Ck [c,d]=mk2 [c,d]
   simp [Ck]
  rw[this]
def GK(x:List UInt8×Int)(i:Int):Prop:=(0≤i∧i≤21)∧EN (x.1.drop x.2.toNat)=((mks.drop i.toNat).find? fun m=>(x.1.drop x.2.toNat).take m.length==m).getD []
theorem a5N{x:List UInt8×Int}:GK x 0:=⟨by omega,rfl⟩
theorem Xd{x:List UInt8×Int}{i:Int}{m:List UInt8}(h:GK x i)(ha:mks[i.toNat]? =some m)(hg:((x.1.drop x.2.toNat).take m.length==m)=false):GK x (i+1):=by
 have hlt:=(List.getElem?_eq_some_iff.1 ha).1
 have h21:mks.length=21:=rfl
 obtain⟨h1,h2⟩:=h
 refine⟨by omega,?_⟩
 rw[h2,List.drop_eq_getElem_cons hlt,(List.getElem?_eq_some_iff.1 ha).2,List.find?_cons_of_neg (by simpa using hg),show(i+1).toNat=i.toNat+1 by omega]
theorem a5O{x:List UInt8×Int}{i:Int}{m:List UInt8}(h:GK x i)(ha:mks[i.toNat]? =some m)(hg:((x.1.drop x.2.toNat).take m.length==m)=true):m=EN (x.1.drop x.2.toNat):=by
 have hlt:=(List.getElem?_eq_some_iff.1 ha).1
 rw[h.2,List.drop_eq_getElem_cons hlt,(List.getElem?_eq_some_iff.1 ha).2,List.find?_cons_of_pos (by simpa using hg)];rfl
theorem a5P{x:List UInt8×Int}{i:Int}(h:GK x i)(hi:¬i<21):[]=EN (x.1.drop x.2.toNat):=by
 have e:mks.drop i.toNat=[]:=List.drop_eq_nil_of_le (by have h21:mks.length=21:=rfl;rw[h21];omega)
 rw[h.2,e];rfl
theorem OH{t:List UInt8}{a n:Int}(h0:0≤a)(hn:0≤n):List.drop a.toNat (List.take (a+n).toNat t)=(t.drop a.toNat).take n.toNat:=by
 rw[List.drop_take,show(a+n).toNat-a.toNat=n.toNat by omega]
theorem a5Q{x:List UInt8×Int}{m:List UInt8}(h0:0≤x.2)(h2:x.2≤x.1.length)(hl:¬x.2+(m.length:Int)≤x.1.length):((x.1.drop x.2.toNat).take m.length==m)=false:=by
 have:((x.1.drop x.2.toNat).take m.length)≠m:=by
  intro e
  have:=congrArg List.length e
  simp at this;omega
 simpa using this
theorem a5R{x:List UInt8×Int}{m:List UInt8}(h0:0≤x.2)(h:List.drop (Int.toNat x.2) (List.take (Int.toNat (x.2+(m.length:Int))) x.1)=m):((x.1.drop x.2.toNat).take m.length==m)=true:=by
 rw[OH h0 (by omega)] at h;simpa using h
theorem a5S{x:List UInt8×Int}{m:List UInt8}(h0:0≤x.2)(h:List.drop (Int.toNat x.2) (List.take (Int.toNat (x.2+(m.length:Int))) x.1)≠m):((x.1.drop x.2.toNat).take m.length==m)=false:=by
 rw[OH h0 (by omega)] at h;simpa using h
theorem a5T{i:Int}{m:List UInt8}(ha:mks[i.toNat]? =some m):m.length≤2:=by
 have:∀m∈mks,m.length≤2:=by decide
 exact this m (List.mem_of_getElem? ha)
theorem Xe{x:List UInt8×Int}{i:Int}(h:GK x i):0≤i∧i≤21:=h.1
attribute [local irreducible] GK EN
def Li:Sig:= {X:=Unit,args:=fun x=>[],pre:=fun x=>True,Y:=Unit,post:=fun x y=>True,res:=fun x y=> .sl false 0 1 (List UInt8) As mks,outs:=fun x y=>[],keep:=true}
theorem a5U:Am G Tryz.prog 186 Li:=
 vcFun_okP [] [(38,⟨List UInt8,As⟩)] false (fun x=>[]) Tryz.func186 rfl (by decide) trivial (fun(x:Unit)=>True∧∃(x_1:List UInt8),#[(38:UInt8),(38:UInt8)].toList=x_1∧∃(x_2:List UInt8),#[(124:UInt8),(124:UInt8)].toList=x_2∧∃(x_3:List UInt8),#[(61:UInt8),(61:UInt8)].toList=x_3∧∃(x_4:List UInt8),#[(61:UInt8),(62:UInt8)].toList=x_4∧∃(x_5:List UInt8),#[(46:UInt8),(46:UInt8)].toList=x_5∧∃(x_6:List UInt8),#[(40:UInt8)].toList=x_6∧∃(x_7:List UInt8),#[(41:UInt8)].toList=x_7∧∃(x_8:List UInt8),#[(123:UInt8)].toList=x_8∧∃(x_9:List UInt8),#[(125:UInt8)].toList=x_9∧∃(x_10:List UInt8),#[(91:UInt8)].toList=x_10∧∃(x_11:List UInt8),#[(93:UInt8)].toList=x_11∧∃(x_12:List UInt8),#[(59:UInt8)].toList=x_12∧∃(x_13:List UInt8),#[(44:UInt8)].toList=x_13∧∃(x_14:List UInt8),#[(46:UInt8)].toList=x_14∧∃(x_15:List UInt8),#[(61:UInt8)].toList=x_15∧∃(x_16:List UInt8),#[(43:UInt8)].toList=x_16∧∃(x_17:List UInt8),#[(45:UInt8)].toList=x_17∧∃(x_18:List UInt8),#[(42:UInt8)].toList=x_18∧∃(x_19:List UInt8),#[(60:UInt8)].toList=x_19∧∃(x_20:List UInt8),#[(63:UInt8)].toList=x_20∧∃(x_21:List UInt8),#[(58:UInt8)].toList=x_21∧rA Li x [AV.sl true (0:Nat) (1:Nat) (List UInt8) As [x_1,x_2,x_3,x_4,x_5,x_6,x_7,x_8,x_9,x_10,x_11,x_12,x_13,x_14,x_15,x_16,x_17,x_18,x_19,x_20,x_21]]) (fun x=>by kernel_rfl) fun(x:Unit) (hx:True)=>(by
 dsimp only[rA,Li,Az,AC]
 (repeat' first|(with_reducible first|rfl|exact True.intro|apply AN|apply And.intro|((first|apply AD|apply AL|apply AE|apply AM)<;>intro _))|(apply AA<;>intro _)|apply AK|refine Ae () ?_ ?_|((first|apply AR|apply AQ|apply AP|apply AO|apply AJ|apply AI|apply AH|apply AG|apply AF)<;>try dsimp only)|apply Ae|(refine Prod.forall.2 ?_;intro _;try dsimp only)|(intro _;try dsimp only))
 all_goals first
  |rfl
  |(simp [Bf];done)
  |skip)
def JO:Sig:= {X:=List UInt8×Int,args:=fun x=>[.str x.1,.int .i64 x.2],pre:=fun x=>0≤x.2∧x.2≤x.1.length∧x.1.length<2^62,Y:=Unit,post:=fun x y=>True,res:=fun x y=> .str (EN (x.1.drop x.2.toNat)),outs:=fun x y=>[.top,.top],keep:=false}
def MK(x:List UInt8×Int):LS:= {ι:=Int,inv:=fun i=>GK x i,regs:=fun i=>[(0,.str x.1),(1,.int .i64 x.2),(5,.sl false 0 1 (List UInt8) As mks),(6,.int .i64 i)],als:=[],meas:=fun i=>21-i.toNat}
theorem a5V:Am G Tryz.prog 170 JO:=
 vcFun_okP [(186,0,Li)] [(38,⟨List UInt8,As⟩)] false (fun x=>[(3,MK x)]) Tryz.func170 rfl (by decide) ⟨a5U,trivial⟩ (fun(x:List UInt8×Int)=>(∀(y:Unit),True→True∧True∧True∧True)∧cA Li [] fun x_1 y=>eA (MK x) [.str x.1,.int .i64 x.2,AV.sl false (0:Nat) (1:Nat) (List UInt8) As mks,.int .i64 (0:Int)]∧∀(i:Int),GK x i→Aa (decide (i<(↑(21:Nat):Int))) (((0:Int)≤i∧i<(↑(21:Nat):Int))∧∀(e:List UInt8),mks[Int.toNat i]? =some e→true=true∧true=true∧inR IntKind.i64 (x.2+(↑(List.length e):Int))∧Aa (decide (x.2+(↑(List.length e):Int)≤(↑(List.length x.1):Int))) (inR IntKind.i64 (x.2+(↑(List.length e):Int))∧((0:Int)≤x.2∧x.2≤x.2+(↑(List.length e):Int)∧x.2+(↑(List.length e):Int)≤(↑(List.length x.1):Int))∧((0:Int)≤i∧i<(↑(21:Nat):Int))∧∀(e_1:List UInt8),mks[Int.toNat i]? =some e_1→Aa (List.drop (Int.toNat x.2) (List.take (Int.toNat (x.2+(↑(List.length e):Int))) x.1)==e_1) (((0:Int)≤i∧i<(↑(21:Nat):Int))∧∀(e:List UInt8),mks[Int.toNat i]? =some e→rA JO x [.str e,.top,.top]) (inR IntKind.i64 (i+(1:Int))∧eN (MK x) i [.str x.1,.int .i64 x.2,AV.sl false (0:Nat) (1:Nat) (List UInt8) As mks,.int .i64 (i+(1:Int))])) (inR IntKind.i64 (i+(1:Int))∧eN (MK x) i [.str x.1,.int .i64 x.2,AV.sl false (0:Nat) (1:Nat) (List UInt8) As mks,.int .i64 (i+(1:Int))])) (rA JO x [.str #[].toList,.top,.top])) (fun x=>by kernel_rfl) fun(x:List UInt8×Int) (hx:0≤x.2∧x.2≤x.1.length∧x.1.length<2^62)=>(by
 dsimp only[cA,eA,eN,MK,rA,JO,Li,Az,AC,mvL,lnL,mvE,lnE,Bt]
 obtain⟨h1,h2,h3⟩:=hx
 (repeat' first|(with_reducible first|rfl|exact True.intro|apply AN|apply And.intro|((first|apply AD|apply AL|apply AE|apply AM)<;>intro _))|(apply AA<;>intro _)|apply AK|refine Ae () ?_ ?_|((first|apply AR|apply AQ|apply AP|apply AO|apply AJ|apply AI|apply AH|apply AG|apply AF)<;>try dsimp only)|apply Ae|(refine Prod.forall.2 ?_;intro _;try dsimp only)|(intro _;try dsimp only))
 all_goals(try(repeat(rename mks[_]? =some _=>hq;revert hq;rename mks[_]? =some _=>hr;intro hq;rw[hr] at hq;cases hq)))
 all_goals first
  |rfl
  |exact a5N
  |exact Xd ‹_› ‹_› (a5Q h1 h2 ‹_›)
  |exact Xd ‹_› ‹_› (a5S h1 ‹_›)
  |exact a5O ‹_› ‹_› (a5R h1 ‹_›)
  |exact a5P ‹_› (by omega)
  |(have hq:=Xe (show GK _ _ by assumption);(try simp only[AU]);omega)
  |(have hq:=Xe (show GK _ _ by assumption);have hm:=a5T ‹_›;(try simp only[AU]);omega)
  |skip)
def rwI(p:UInt8→Bool)(x:List UInt8×Int)(i:Int):Prop:=(x.2≤i∧i≤x.1.length)∧∀e∈(x.1.drop x.2.toNat).take (i-x.2).toNat,p e=true
theorem a5W{p:UInt8→Bool}{x:List UInt8×Int}(h:x.2≤x.1.length):rwI p x x.2:=by
 refine⟨⟨by omega,h⟩,fun e he=> ?_⟩
 rw[show(x.2-x.2).toNat=0 by omega] at he;simp at he
theorem Sa{p:UInt8→Bool}{x:List UInt8×Int}{i:Int}{c:UInt8}(h0:0≤x.2)(h:rwI p x i)(hi:i<x.1.length)(hc:x.1[i.toNat]? =some c)(hp:p c=true):rwI p x (i+1):=by
 obtain⟨⟨a,b⟩,h2⟩:=h
 exact⟨by omega,NM h2 (by rw[Mq h0 a];exact hc) hp (by omega)⟩
theorem Xf{p:UInt8→Bool}{x:List UInt8×Int}{i:Int}(h0:0≤x.2)(h:rwI p x i)(he:¬i<x.1.length∨∃c,x.1[i.toNat]? =some c∧p c=false):((x.1.drop x.2.toNat).takeWhile p)=List.drop (Int.toNat x.2) (List.take (Int.toNat i) x.1)∧((((x.1.drop x.2.toNat).takeWhile p).length:Nat):Int)=i-x.2:=by
 obtain⟨⟨a,b⟩,h2⟩:=h
 have e:=Ht h2 (by
  rcases he with he|⟨c,hc,hp⟩
  ·left;simp;omega
  ·right;exact⟨c,by rw[Mq h0 a];exact hc,hp⟩)
 rw[←e,List.drop_take]
 refine⟨by congr 1;omega,?_⟩
 simp;omega
theorem a5X{p:UInt8→Bool}{x:List UInt8×Int}{i:Int}(h:rwI p x i):x.2≤i∧i≤x.1.length:=h.1
def sgR(x:List UInt8×Int)(k:Int)(t:List UInt8)(p:Int)(b:Bool)(n:Int):Prop:=
 ((Bb (x.1.drop x.2.toNat)).ok=true∧(k=(Bb (x.1.drop x.2.toNat)).kind∧t=(Bb (x.1.drop x.2.toNat)).text∧p=x.2∧b=false)∧n=(Bb (x.1.drop x.2.toNat)).size)∨((Bb (x.1.drop x.2.toNat)).ok=false∧n=0)
theorem OI{x:List UInt8×Int}{c:UInt8}(hc:x.1[x.2.toNat]? =some c):x.1.drop x.2.toNat=c::x.1.drop (x.2.toNat+1):=by
 have hlt:=(List.getElem?_eq_some_iff.1 hc).1
 rw[List.drop_eq_getElem_cons hlt,(List.getElem?_eq_some_iff.1 hc).2]
theorem a5Y{x:List UInt8×Int}(h0:0≤x.2)(h:(Cc (x.1.drop x.2.toNat):Int)>0):sgR x 5 (Cl (List.drop (Int.toNat x.2) (List.take (Int.toNat (x.2+(Cc (x.1.drop x.2.toNat):Int))) x.1))) x.2 false (Cc (x.1.drop x.2.toNat)):=by
 rw[OH h0 (by omega)]
 unfold sgR
 generalize x.1.drop x.2.toNat=s at*
 unfold Cc at h ⊢
 split at h
 ·rename_i h2
  split at h
  ·rename_i hp
   rw[if_pos h2,if_pos hp]
   match s with
   |[]=>simp at h2
   |[_]=>simp at h2
   |b::c::r=>
    simp at h2
    obtain⟨rfl,rfl⟩:=h2
    left
    simp only[Bb,show Ce 47=false by decide,show Bl 47=false by decide,Bool.false_eq_true,if_false,show(47:UInt8).toNat≠39 by decide,List.take_succ_cons,List.take_zero,if_true]
    refine⟨hp,⟨trivial,?_,trivial,trivial⟩,trivial⟩
    congr 1
    have:=List.takeWhile_prefix BS (l:=47::47::r)
    rw[Int.toNat_natCast]
    exact(List.prefix_iff_eq_take.1 this).symm
  ·simp at h
 ·simp at h
theorem a5Z{s:List UInt8}{c:UInt8}(h:¬(Cc (c::s):Int)>0)(h2:(c::s).take 2=[47,47]):((c::s).takeWhile BS).all BT=false:=by
 cases hp:((c::s).takeWhile BS).all BT with
 |false=>rfl
 |true=>
  exfalso
  apply h
  rw[Cc,if_pos h2,if_pos hp]
  match s with
  |[]=>simp at h2
  |d::r=>
   simp at h2
   obtain⟨rfl,rfl⟩:=h2
   have:BS 47=true:=by decide
   simp [List.takeWhile_cons,this];omega
theorem OJ{x:List UInt8×Int}{i:Int}{c:UInt8}(h0:0≤x.2)(hc:x.1[x.2.toNat]? =some c)(hf:Ce c=true)(h:rwI BC x i)(he:¬i<x.1.length∨∃c,x.1[i.toNat]? =some c∧BC c=false):
 (i-x.2>30→sgR x 0 [] 0 false 0)∧(¬i-x.2>30→sgR x 1 (List.drop (Int.toNat x.2) (List.take (Int.toNat i) x.1)) x.2 false (i-x.2)):=by
 obtain⟨e1,e2⟩:=Xf h0 h he
 have e:=OI hc
 have es:Bb (x.1.drop x.2.toNat)=⟨1,(x.1.drop x.2.toNat).takeWhile BC,((x.1.drop x.2.toNat).takeWhile BC).length,decide (((x.1.drop x.2.toNat).takeWhile BC).length≤30)⟩:=by
  rw[e];simp only[Bb,hf,if_true]
 unfold sgR
 rw[es]
 refine⟨fun h3=> .inr ⟨by simp;omega,rfl⟩,fun h3=> .inl ⟨by simp;omega,⟨rfl,e1.symm,rfl,rfl⟩,by simp only;omega⟩⟩
theorem ML{x:List UInt8×Int}{i:Int}{c:UInt8}(h0:0≤x.2)(hc:x.1[x.2.toNat]? =some c)(hf:Ce c=false)(hg:Bl c=true)(h:rwI Bl x i)(he:¬i<x.1.length∨∃c,x.1[i.toNat]? =some c∧Bl c=false):
 (i-x.2>12→sgR x 0 [] 0 false 0)∧(¬i-x.2>12→sgR x 2 (List.drop (Int.toNat x.2) (List.take (Int.toNat i) x.1)) x.2 false (i-x.2)):=by
 obtain⟨e1,e2⟩:=Xf h0 h he
 have e:=OI hc
 have es:Bb (x.1.drop x.2.toNat)=⟨2,(x.1.drop x.2.toNat).takeWhile Bl,((x.1.drop x.2.toNat).takeWhile Bl).length,decide (((x.1.drop x.2.toNat).takeWhile Bl).length≤12)⟩:=by
  rw[e];simp only[Bb,hf,hg,Bool.false_eq_true,if_false,if_true]
 unfold sgR
 rw[es]
 refine⟨fun h3=> .inr ⟨by simp;omega,rfl⟩,fun h3=> .inl ⟨by simp;omega,⟨rfl,e1.symm,rfl,rfl⟩,by simp only;omega⟩⟩
theorem a6a{x:List UInt8×Int}{c:UInt8}(h0:0≤x.2)(hc:x.1[x.2.toNat]? =some c)(hf:Ce c=false)(hg:Bl c=false)(hq:(c.toNat:Int)=39):
 sgR x 3 (List.drop (Int.toNat x.2) (List.take (Int.toNat (x.2+(Ch (x.1.drop x.2.toNat):Int))) x.1)) x.2 false (Ch (x.1.drop x.2.toNat)):=by
 rw[OH h0 (by omega)]
 have e:=OI hc
 have hq2:isQ c=true:=by simp [isQ];omega
 unfold sgR
 rw[e]
 have es:Bb (c::x.1.drop (x.2.toNat+1))=⟨3,(CS (c::x.1.drop (x.2.toNat+1))).1,(CS (c::x.1.drop (x.2.toNat+1))).1.length,(CS (c::x.1.drop (x.2.toNat+1))).2⟩:=by
  simp only[Bb,hf,hg,Bool.false_eq_true,if_false,show c.toNat=39 by omega,if_true]
 rw[es]
 by_cases hz:Ch (c::x.1.drop (x.2.toNat+1))=0
 ·right
  refine⟨?_,by rw[hz];rfl⟩
  cases hb:(CS (c::x.1.drop (x.2.toNat+1))).2 with
  |false=>rfl
  |true=>exact((NL hq2).1 hb hz).elim
 ·left
  obtain⟨l1,l2⟩:=UU hq2 hz
  refine⟨(NL hq2).2 hz,⟨rfl,?_,rfl,rfl⟩,?_⟩
  ·simp only[l1,Int.toNat_natCast]
  ·simp only[l1,List.length_take];omega
theorem a6b{x:List UInt8×Int}{c:UInt8}(h0:0≤x.2)(hc:x.1[x.2.toNat]? =some c)(hn:¬(Cc (x.1.drop x.2.toNat):Int)>0)(hf:Ce c=false)(hg:Bl c=false)(hq:(c.toNat:Int)≠39):
 sgR x 4 (EN (x.1.drop x.2.toNat)) x.2 false (EN (x.1.drop x.2.toNat)).length:=by
 have e:=OI hc
 unfold sgR
 rw[e] at hn ⊢
 generalize x.1.drop (x.2.toNat+1)=s at*
 by_cases h2:(c::s).take 2=[47,47]
 ·right
  have e0:EN (c::s)=[]:=by
   rw[Xc,h2,if_neg (by decide)]
   have:(c::s).take 1=[47]:=by
    have:=congrArg (List.take 1) h2
    simpa using this
   rw[this,if_neg (by decide)]
  have hp:=a5Z hn h2
  refine⟨?_,by rw[e0];rfl⟩
  simp only[Bb,hf,hg,Bool.false_eq_true,if_false,if_neg (show¬c.toNat=39 by omega),h2,if_true]
  exact hp
 ·have es:Bb (c::s)=if Ck ((c::s).take 2) then⟨4,(c::s).take 2,((c::s).take 2).length,true⟩ else if Ck ((c::s).take 1) then⟨4,(c::s).take 1,1,true⟩ else⟨0,[],0,false⟩:=by
   simp only[Bb,hf,hg,Bool.false_eq_true,if_false,if_neg (show¬c.toNat=39 by omega),if_neg h2]
  rw[es,Xc]
  split
  ·left;exact⟨rfl,⟨rfl,rfl,rfl,rfl⟩,rfl⟩
  ·split
   ·left;exact⟨rfl,⟨rfl,rfl,rfl,rfl⟩,by simp⟩
   ·right;exact⟨rfl,rfl⟩
end Go.My
end
section
set_option linter.unusedVariables false
set_option linter.unusedSimpArgs false
namespace Go.My
open Go.Eng Go.Proofs
variable {G:GInv}
def srd(s:ST)(g:Gs):AV:= .box 0 [sgs s.sg,.int .i64 g.pos,.bool g.bad,.int .i64 g.deep,AX g.nodes]
theorem Xg{sg:List Sg}{g:Gs}(h:g.bad=true∨(sg.length:Int)≤g.pos):pkG sg g 0=DW:=a3v (by simpa using h)
theorem Sb{sg:List Sg}{g:Gs}{e:Sg}(he:sg[g.pos.toNat]? =some e)(hb:g.bad=false)(hl:g.pos<sg.length):pkG sg g 0=e:=a3w (by simpa using he) hb (by omega)
theorem Xh{sg:List Sg}{g:Gs}{k:Int}{t:List UInt8}(hk:k≠0)(h:g.bad=true∨(sg.length:Int)≤g.pos):isG sg g k t=false:=by
 simp [isG,Xg h,DW,Ne.symm hk]
theorem a6c{sg:List Sg}{g:Gs}{e:Sg}{k:Int}{t:List UInt8}(he:sg[g.pos.toNat]? =some e)(hb:g.bad=false)(hl:g.pos<sg.length):isG sg g k t=(decide (e.kind=k)&&(e.text==t)):=by
 rw[isG,Sb he hb hl]
def kdG(sg:List Sg)(g:Gs)(k:Int):Bool:=decide ((pkG sg g 0).kind=k)&&(decide (k≠1)|| !kw (pkG sg g 0).text)
theorem Lj{sg:List Sg}{g:Gs}{k:Int}(hk:k≠0)(h:g.bad=true∨(sg.length:Int)≤g.pos):kdG sg g k=false:=by
 simp [kdG,Xg h,DW,Ne.symm hk]
theorem Xi{sg:List Sg}{g:Gs}{e:Sg}{k:Int}(he:sg[g.pos.toNat]? =some e)(hb:g.bad=false)(hl:g.pos<sg.length):kdG sg g k=(decide (e.kind=k)&&(decide (k≠1)|| !kw e.text)):=by
 rw[kdG,Sb he hb hl]
theorem Hj{sg:List Sg}{g:Gs}:kdG sg g 1=nmG sg g 0:=by simp [kdG,nmG]
theorem OK{sg:List Sg}{g:Gs}{k:Int}(hk:k≠0)(h:kdG sg g k=true):g.bad=false∧g.pos<sg.length:=by
 cases hb:g.bad with
 |true=>rw[Lj hk (.inl hb)] at h;cases h
 |false=>
  refine⟨rfl,?_⟩
  rcases Int.lt_or_le g.pos sg.length with hh|hh
  ·exact hh
  ·rw[Lj hk (.inr hh)] at h;cases h
theorem a6d{e:Nd}{b:Bool}{q:Nd→Prop}(h:q ⟨e.kind,e.text,e.kids,b⟩):
 ∃x':Nd,([AV.int IntKind.i64 x'.kind,AV.str x'.text,AV.sl true 0 1 Int Bi x'.kids]=[AV.int IntKind.i64 e.kind,AV.str e.text,AV.sl true 0 1 Int Bi e.kids]∧(@List.nil AV)=[])∧b=x'.blank∧q x':=
 ⟨⟨e.kind,e.text,e.kids,b⟩,⟨rfl,rfl⟩,rfl,h⟩
def Bs(sg:List Sg)(g:Gs)(m:List UInt8):Gs:=if isG sg g 1 m then An g else g
def Bc(sg:List Sg)(g:Gs)(k:Int):Gs:=if kdG sg g k then An g else Bn g
def Bq(sg:List Sg)(g:Gs)(k:Int):List UInt8:=if kdG sg g k then(pkG sg g 0).text else []
def gBl(g:Gs)(k:Int)(b:Bool):Gs:=if g.bad=false∧k<g.nodes.length then⟨g.pos,g.deep,g.bad,g.nodes.set k.toNat ⟨(Ai g.nodes k).kind,(Ai g.nodes k).text,(Ai g.nodes k).kids,b⟩⟩ else g
theorem a6e{g:Gs}{k:Int}{b:Bool}{e:Nd}(he:g.nodes[k.toNat]? =some e)(hb:g.bad=false)(hk:k<g.nodes.length):g.nodes.set k.toNat ⟨e.kind,e.text,e.kids,b⟩=(gBl g k b).nodes:=by
 rw[gBl,if_pos ⟨hb,hk⟩,Br he]
def blG(sg:List Sg)(g:Gs):Bool:=decide (g.pos<sg.length)&&(sgO sg g.pos).blank
theorem a6f{sg:List Sg}{g:Gs}{e:Sg}{k:Int}(he:sg[(g.pos+1-1).toNat]? =some e)(hk:k≠0)(h:kdG sg g k=true):e.text=Bq sg g k:=by
 obtain⟨hb,hl⟩:=OK hk h
 rw[Bq,if_pos h,Sb (by rw[show g.pos=g.pos+1-1 by omega];exact he) hb hl]
def Dt:Sig:= {X:=ST×Int×Int×Bool×List Nd×Int×List UInt8,args:=fun x=>[srd x.1 (xh x),.int .i64 x.2.2.2.2.2.1,.str x.2.2.2.2.2.2],pre:=fun x=>rOk x.1 (xh x)∧x.2.2.2.2.2.1≠0,Y:=Unit,post:=fun x y=>True,res:=fun x y=> .bool (isG x.1.sg (xh x) x.2.2.2.2.2.1 x.2.2.2.2.2.2),outs:=fun x y=>[srd x.1 (xh x),.top,.top],keep:=true}
theorem MM:Am G Tryz.prog 171 Dt:=
 vcFun_okP [] [] false (fun x=>[]) Tryz.func171 rfl (by decide) trivial (fun(x:ST×Int×Int×Bool×List Nd×Int×List UInt8)=>True∧true=true∧true=true∧Aa (!(xh x).bad) (Aa (decide ((xh x).pos<(↑(List.length x.1.sg):Int))) (((0:Int)≤(xh x).pos∧(xh x).pos<(↑(List.length x.1.sg):Int))∧∀(e:Sg),x.1.sg[Int.toNat (xh x).pos]? =some e→Aa (e.kind==x.2.2.2.2.2.1) (((0:Int)≤(xh x).pos∧(xh x).pos<(↑(List.length x.1.sg):Int))∧∀(e:Sg),x.1.sg[Int.toNat (xh x).pos]? =some e→rA Dt x [.bool (e.text==x.2.2.2.2.2.2),srd x.1 (xh x),.top,.top]) (rA Dt x [.bool false,srd x.1 (xh x),.top,.top])) (rA Dt x [.bool false,srd x.1 (xh x),.top,.top])) (rA Dt x [.bool false,srd x.1 (xh x),.top,.top])) (fun x=>by kernel_rfl) fun(x:ST×Int×Int×Bool×List Nd×Int×List UInt8) (hx:rOk x.1 (xh x)∧x.2.2.2.2.2.1≠0)=>(by
 dsimp only[Bx,AX,rA,Dt,CE,sgs,srd,Az,AC]
 obtain⟨s,p,d,b,ns,k,m⟩:=x;dsimp only[xg,xh] at hx ⊢
 obtain⟨h1,h2⟩:=hx;have hs:=FG h1;dsimp only at hs
 (repeat' first|(with_reducible first|rfl|exact True.intro|apply AN|apply And.intro|((first|apply AD|apply AL|apply AE|apply AM)<;>intro _))|(apply AA<;>intro _)|apply AK|refine Ae () ?_ ?_|((first|apply AR|apply AQ|apply AP|apply AO|apply AJ|apply AI|apply AH|apply AG|apply AF)<;>try dsimp only)|apply Ae|(refine Prod.forall.2 ?_;intro _;try dsimp only)|(intro _;try dsimp only))
 all_goals(try(repeat(rename s.sg[_]? =some _=>hq;revert hq;rename s.sg[_]? =some _=>hr;intro hq;rw[hr] at hq;cases hq)))
 all_goals first
  |rfl
  |exact(Xh h2 (.inl ‹_›)).symm
  |exact(Xh h2 (.inr (by simp only;omega))).symm
  |(rw[a6c ‹_› ‹_› (by simp only;omega)];simp [*];done)
  |((try simp only[AU]);omega)
  |skip)
def BO:Sig:= {X:=ST×Int×Int×Bool×List Nd×List UInt8,args:=fun x=>[srd x.1 (xh x),.str x.2.2.2.2.2],pre:=fun x=>rOk x.1 (xh x),Y:=Unit,post:=fun x y=>True,res:=fun x y=> .bool (isG x.1.sg (xh x) 4 x.2.2.2.2.2),outs:=fun x y=>[srd x.1 (Au x.1.sg (xh x) x.2.2.2.2.2),.top],keep:=true}
theorem Gm:Am G Tryz.prog 142 BO:=
 vcFun_okP [(171,0,Dt)] [] false (fun x=>[]) Tryz.func142 rfl (by decide) ⟨MM,trivial⟩ (fun(x:ST×Int×Int×Bool×List Nd×List UInt8)=>True∧cA Dt [srd x.1 (xh x),.int .i64 (4:Int),.str x.2.2.2.2.2] fun x_1 y=>Aa (isG x_1.1.sg (xh x_1) x_1.2.2.2.2.2.1 x_1.2.2.2.2.2.2) (inR IntKind.i64 ((xh x_1).pos+(1:Int))∧rA BO x [.bool true,.box 0 [sgs x_1.1.sg,.int .i64 ((xh x_1).pos+(1:Int)),.bool (xh x_1).bad,.int .i64 (xh x_1).deep,AX (xh x_1).nodes],.top]) (rA BO x [.bool false,srd x_1.1 (xh x_1),.top])) (fun x=>by kernel_rfl) fun(x:ST×Int×Int×Bool×List Nd×List UInt8) (hx:rOk x.1 (xh x))=>(by
 dsimp only[cA,Bx,AX,rA,Dt,BO,CE,sgs,srd,Az,AC,mvL,lnL,mvE,lnE]
 obtain⟨s,p,d,b,ns,m⟩:=x;dsimp only[xg,xh] at hx ⊢
 have hx:rOk s ⟨p,d,b,ns⟩:=hx;have hs:=FG hx;dsimp only at hs
 (repeat' first|(with_reducible first|rfl|exact True.intro|apply AN|apply And.intro|((first|apply AD|apply AL|apply AE|apply AM)<;>intro _))|(apply AA<;>intro _)|apply AK|refine Ae () ?_ ?_|((first|apply AR|apply AQ|apply AP|apply AO|apply AJ|apply AI|apply AH|apply AG|apply AF)<;>try dsimp only)|apply Ae|(refine Prod.forall.2 ?_;intro _;try dsimp only)|(intro _;try dsimp only))
 all_goals first
  |rfl
  |exact hx
  |omega
  |(simp [Au,An, *];done)
  |((try simp only[AU]);omega)
  |skip)
def Ea:Sig:= {X:=ST×Int×Int×Bool×List Nd×List UInt8,args:=fun x=>[srd x.1 (xh x),.str x.2.2.2.2.2],pre:=fun x=>rOk x.1 (xh x),Y:=Unit,post:=fun x y=>True,res:=fun x y=> .bool (isG x.1.sg (xh x) 1 x.2.2.2.2.2),outs:=fun x y=>[srd x.1 (Bs x.1.sg (xh x) x.2.2.2.2.2),.top],keep:=true}
theorem Sc:Am G Tryz.prog 139 Ea:=
 vcFun_okP [(171,0,Dt)] [] false (fun x=>[]) Tryz.func139 rfl (by decide) ⟨MM,trivial⟩ (fun(x:ST×Int×Int×Bool×List Nd×List UInt8)=>True∧cA Dt [srd x.1 (xh x),.int .i64 (1:Int),.str x.2.2.2.2.2] fun x_1 y=>Aa (isG x_1.1.sg (xh x_1) x_1.2.2.2.2.2.1 x_1.2.2.2.2.2.2) (inR IntKind.i64 ((xh x_1).pos+(1:Int))∧rA Ea x [.bool true,.box 0 [sgs x_1.1.sg,.int .i64 ((xh x_1).pos+(1:Int)),.bool (xh x_1).bad,.int .i64 (xh x_1).deep,AX (xh x_1).nodes],.top]) (rA Ea x [.bool false,srd x_1.1 (xh x_1),.top])) (fun x=>by kernel_rfl) fun(x:ST×Int×Int×Bool×List Nd×List UInt8) (hx:rOk x.1 (xh x))=>(by
 dsimp only[cA,Bx,AX,rA,Dt,Ea,CE,sgs,srd,Az,AC,mvL,lnL,mvE,lnE]
 obtain⟨s,p,d,b,ns,m⟩:=x;dsimp only[xg,xh] at hx ⊢
 have hx:rOk s ⟨p,d,b,ns⟩:=hx;have hs:=FG hx;dsimp only at hs
 (repeat' first|(with_reducible first|rfl|exact True.intro|apply AN|apply And.intro|((first|apply AD|apply AL|apply AE|apply AM)<;>intro _))|(apply AA<;>intro _)|apply AK|refine Ae () ?_ ?_|((first|apply AR|apply AQ|apply AP|apply AO|apply AJ|apply AI|apply AH|apply AG|apply AF)<;>try dsimp only)|apply Ae|(refine Prod.forall.2 ?_;intro _;try dsimp only)|(intro _;try dsimp only))
 all_goals first
  |rfl
  |exact hx
  |omega
  |(simp [Bs,An, *];done)
  |((try simp only[AU]);omega)
  |skip)
def BB:Sig:= {X:=ST×Int×Int×Bool×List Nd×List UInt8,args:=fun x=>[srd x.1 (xh x),.str x.2.2.2.2.2],pre:=fun x=>rOk x.1 (xh x),Y:=Unit,post:=fun x y=>True,res:=fun x y=> .tup [],outs:=fun x y=>[srd x.1 (Aq x.1.sg (xh x) x.2.2.2.2.2),.top],keep:=true}
theorem GL:Am G Tryz.prog 141 BB:=
 vcFun_okP [(142,0,BO)] [] false (fun x=>[]) Tryz.func141 rfl (by decide) ⟨Gm,trivial⟩ (fun(x:ST×Int×Int×Bool×List Nd×List UInt8)=>True∧cA BO [srd x.1 (xh x),.str x.2.2.2.2.2] fun x_1 y=>Aa (!isG x_1.1.sg (xh x_1) (4:Int) x_1.2.2.2.2.2) (rA BB x [.tup [],.box 0 [sgs x_1.1.sg,.int .i64 (Au x_1.1.sg (xh x_1) x_1.2.2.2.2.2).pos,.bool true,.int .i64 (Au x_1.1.sg (xh x_1) x_1.2.2.2.2.2).deep,AX (Au x_1.1.sg (xh x_1) x_1.2.2.2.2.2).nodes],.top]) (rA BB x [.tup [],srd x_1.1 (Au x_1.1.sg (xh x_1) x_1.2.2.2.2.2),.top])) (fun x=>by kernel_rfl) fun(x:ST×Int×Int×Bool×List Nd×List UInt8) (hx:rOk x.1 (xh x))=>(by
 dsimp only[cA,Bx,AX,rA,BO,BB,CE,sgs,srd,Az,AC,mvL,lnL,mvE,lnE]
 obtain⟨s,p,d,b,ns,m⟩:=x;dsimp only[xg,xh] at hx ⊢
 have hx:rOk s ⟨p,d,b,ns⟩:=hx;have hs:=FG hx;dsimp only at hs
 (repeat' first|(with_reducible first|rfl|exact True.intro|apply AN|apply And.intro|((first|apply AD|apply AL|apply AE|apply AM)<;>intro _))|(apply AA<;>intro _)|apply AK|refine Ae () ?_ ?_|((first|apply AR|apply AQ|apply AP|apply AO|apply AJ|apply AI|apply AH|apply AG|apply AF)<;>try dsimp only)|apply Ae|(refine Prod.forall.2 ?_;intro _;try dsimp only)|(intro _;try dsimp only))
 all_goals first
  |rfl
  |exact hx
  |(simp [Aq,Au,An,Bn, *];done)
  |((try simp only[AU]);omega)
  |skip)
def Du:Sig:= {X:=ST×Int×Int×Bool×List Nd×Int,args:=fun x=>[srd x.1 (xh x),.int .i64 x.2.2.2.2.2],pre:=fun x=>rOk x.1 (xh x)∧x.2.2.2.2.2≠0,Y:=Unit,post:=fun x y=>True,res:=fun x y=> .bool (kdG x.1.sg (xh x) x.2.2.2.2.2),outs:=fun x y=>[srd x.1 (xh x),.top],keep:=true}
theorem OL:Am G Tryz.prog 137 Du:=
 vcFun_okP [(125,0,Fa)] [] false (fun x=>[]) Tryz.func137 rfl (by decide) ⟨RB,trivial⟩ (fun(x:ST×Int×Int×Bool×List Nd×Int)=>True∧true=true∧true=true∧Aa (!(xh x).bad) (Aa (decide ((xh x).pos<(↑(List.length x.1.sg):Int))) (((0:Int)≤(xh x).pos∧(xh x).pos<(↑(List.length x.1.sg):Int))∧∀(e:Sg),x.1.sg[Int.toNat (xh x).pos]? =some e→Aa (e.kind==x.2.2.2.2.2) (Aa (x.2.2.2.2.2 != (1:Int)) (rA Du x [.bool true,srd x.1 (xh x),.top]) (((0:Int)≤(xh x).pos∧(xh x).pos<(↑(List.length x.1.sg):Int))∧∀(e:Sg),x.1.sg[Int.toNat (xh x).pos]? =some e→∃(x_1:List UInt8),True∧e.text=x_1∧∃(y0:Unit),(∀(y:Unit),True→AV.bool (kw x_1)=AV.bool (kw x_1))∧true=true∧rA Du x [.bool !kw x_1,srd x.1 (xh x),.top])) (rA Du x [.bool false,srd x.1 (xh x),.top])) (rA Du x [.bool false,srd x.1 (xh x),.top])) (rA Du x [.bool false,srd x.1 (xh x),.top])) (fun x=>by kernel_rfl) fun(x:ST×Int×Int×Bool×List Nd×Int) (hx:rOk x.1 (xh x)∧x.2.2.2.2.2≠0)=>(by
 dsimp only[Bx,AX,rA,Du,CE,sgs,srd,Az,AC]
 obtain⟨s,p,d,b,ns,k⟩:=x;dsimp only[xg,xh] at hx ⊢
 obtain⟨h1,h2⟩:=hx;have hs:=FG h1;dsimp only at hs
 (repeat' first|(with_reducible first|rfl|exact True.intro|apply AN|apply And.intro|((first|apply AD|apply AL|apply AE|apply AM)<;>intro _))|(apply AA<;>intro _)|apply AK|refine Ae () ?_ ?_|((first|apply AR|apply AQ|apply AP|apply AO|apply AJ|apply AI|apply AH|apply AG|apply AF)<;>try dsimp only)|apply Ae|(refine Prod.forall.2 ?_;intro _;try dsimp only)|(intro _;try dsimp only))
 all_goals(try(repeat(rename s.sg[_]? =some _=>hq;revert hq;rename s.sg[_]? =some _=>hr;intro hq;rw[hr] at hq;cases hq)))
 all_goals first
  |rfl
  |exact(Lj h2 (.inl ‹_›)).symm
  |exact(Lj h2 (.inr (by simp only;omega))).symm
  |(rw[Xi ‹_› ‹_› (by simp only;omega)];simp [*];done)
  |((try simp only[AU]);omega)
  |skip)
def Ci:Sig:= {X:=ST×Int×Int×Bool×List Nd×Int,args:=fun x=>[srd x.1 (xh x),.int .i64 x.2.2.2.2.2],pre:=fun x=>rOk x.1 (xh x)∧x.2.2.2.2.2≠0,Y:=Unit,post:=fun x y=>True,res:=fun x y=> .str (Bq x.1.sg (xh x) x.2.2.2.2.2),outs:=fun x y=>[srd x.1 (Bc x.1.sg (xh x) x.2.2.2.2.2),.top],keep:=true}
theorem IG:Am G Tryz.prog 138 Ci:=
 vcFun_okP [(137,0,Du)] [] false (fun x=>[]) Tryz.func138 rfl (by decide) ⟨OL,trivial⟩ (fun(x:ST×Int×Int×Bool×List Nd×Int)=>True∧cA Du [srd x.1 (xh x),.int .i64 x.2.2.2.2.2] fun x_1 y=>Aa (!kdG x_1.1.sg (xh x_1) x_1.2.2.2.2.2) (rA Ci x [.str #[].toList,.box 0 [sgs x_1.1.sg,.int .i64 (xh x_1).pos,.bool true,.int .i64 (xh x_1).deep,AX (xh x_1).nodes],.top]) (inR IntKind.i64 ((xh x_1).pos+(1:Int))∧true=true∧true=true∧inR IntKind.i64 ((xh x_1).pos+(1:Int)-(1:Int))∧((0:Int)≤(xh x_1).pos+(1:Int)-(1:Int)∧(xh x_1).pos+(1:Int)-(1:Int)<(↑(List.length x_1.1.sg):Int))∧∀(e:Sg),x_1.1.sg[Int.toNat ((xh x_1).pos+(1:Int)-(1:Int))]? =some e→rA Ci x [.str e.text,.box 0 [sgs x_1.1.sg,.int .i64 ((xh x_1).pos+(1:Int)),.bool (xh x_1).bad,.int .i64 (xh x_1).deep,AX (xh x_1).nodes],.top])) (fun x=>by kernel_rfl) fun(x:ST×Int×Int×Bool×List Nd×Int) (hx:rOk x.1 (xh x)∧x.2.2.2.2.2≠0)=>(by
 dsimp only[cA,Bx,AX,rA,Du,Ci,CE,sgs,srd,Az,AC,mvL,lnL,mvE,lnE]
 obtain⟨s,p,d,b,ns,k⟩:=x;dsimp only[xg,xh] at hx ⊢
 obtain⟨h1,h2⟩:=hx;have hs:=FG h1;dsimp only at hs
 (repeat' first|(with_reducible first|rfl|exact True.intro|apply AN|apply And.intro|((first|apply AD|apply AL|apply AE|apply AM)<;>intro _))|(apply AA<;>intro _)|apply AK|refine Ae () ?_ ?_|((first|apply AR|apply AQ|apply AP|apply AO|apply AJ|apply AI|apply AH|apply AG|apply AF)<;>try dsimp only)|apply Ae|(refine Prod.forall.2 ?_;intro _;try dsimp only)|(intro _;try dsimp only))
 all_goals first
  |rfl
  |exact h1
  |exact h2
  |(simp [Bc,Bq,An,Bn, *];done)
  |exact a6f ‹_› h2 ‹_›
  |(have hl:=OK h2 (show kdG _ _ _=true by assumption);dsimp only at hl;(try simp only[AU]);omega)
  |((try simp only[AU]);omega)
  |skip)
def Bg:Sig:= {X:=ST×Int×Int×Bool×List Nd×Int×List UInt8×List Int,args:=fun x=>[srd x.1 (xh x),.int .i64 x.2.2.2.2.2.1,.str x.2.2.2.2.2.2.1,Ag x.2.2.2.2.2.2.2],pre:=fun x=>rOk x.1 (xh x),Y:=Unit,post:=fun x y=>True,res:=fun x y=> .int .i64 (AB (xh x)),outs:=fun x y=>[srd x.1 (Al (xh x) ⟨x.2.2.2.2.2.1,x.2.2.2.2.2.2.1,x.2.2.2.2.2.2.2,false⟩),.top,.top,.top],keep:=true}
theorem Gn:Am G Tryz.prog 117 Bg:=
 vcFun_okP [] [(24,⟨Nd,ndA true⟩)] false (fun x=>[]) Tryz.func117 rfl (by decide) trivial (fun(x:ST×Int×Int×Bool×List Nd×Int×List UInt8×List Int)=>True∧Aa (xh x).bad (rA Bg x [.int .i64 (0:Int),.box 0 [sgs x.1.sg,.int .i64 (xh x).pos,.bool true,.int .i64 (xh x).deep,AX (xh x).nodes],.top,.top,.top]) (Aa (decide ((↑(List.length (xh x).nodes):Int)≥(300:Int))) (rA Bg x [.int .i64 (0:Int),.box 0 [sgs x.1.sg,.int .i64 (xh x).pos,.bool true,.int .i64 (xh x).deep,AX (xh x).nodes],.top,.top,.top]) (∃(x_1:Nd),x.2.2.2.2.2.1=x_1.kind∧x.2.2.2.2.2.2.1=x_1.text∧Ag x.2.2.2.2.2.2.2=Ag x_1.kids∧false=x_1.blank∧∃(zs:List Nd),AX [x_1]=AX zs∧Cd (ndA true)∧Bf (List.length (xh x).nodes+List.length zs) (56:Nat)∧inR IntKind.i64 ((↑(List.length ((xh x).nodes++zs)):Int)-(1:Int))∧∃(y:Unit),True∧(↑(List.length ((xh x).nodes++zs)):Int)-(1:Int)=AB (xh x)∧sgs x.1.sg=sgs x.1.sg∧(xh x).pos=(Al (xh x) {kind:=x.2.2.2.2.2.1,text:=x.2.2.2.2.2.2.1,kids:=x.2.2.2.2.2.2.2,blank:=false}).pos∧(xh x).bad=(Al (xh x) {kind:=x.2.2.2.2.2.1,text:=x.2.2.2.2.2.2.1,kids:=x.2.2.2.2.2.2.2,blank:=false}).bad∧(xh x).deep=(Al (xh x) {kind:=x.2.2.2.2.2.1,text:=x.2.2.2.2.2.2.1,kids:=x.2.2.2.2.2.2.2,blank:=false}).deep∧AX ((xh x).nodes++zs)=AX (Al (xh x) {kind:=x.2.2.2.2.2.1,text:=x.2.2.2.2.2.2.1,kids:=x.2.2.2.2.2.2.2,blank:=false}).nodes∧True))) (fun x=>by kernel_rfl) fun(x:ST×Int×Int×Bool×List Nd×Int×List UInt8×List Int) (hx:rOk x.1 (xh x))=>(by
 dsimp only[Bx,Ag,AX,rA,Bg,CE,sgs,srd,Az,AC]
 obtain⟨s,p,d,b,ns,k,t,ks⟩:=x;dsimp only[xg,xh] at hx ⊢
 have hx:rOk s ⟨p,d,b,ns⟩:=hx;have hs:=FG hx;dsimp only at hs
 (repeat' first|refine a3u ?_|(with_reducible first|rfl|exact True.intro|apply AN|apply And.intro|((first|apply AD|apply AL|apply AE|apply AM)<;>intro _))|(apply AA<;>intro _)|apply AK|refine Ae () ?_ ?_|((first|apply AR|apply AQ|apply AP|apply AO|apply AJ|apply AI|apply AH|apply AG|apply AF)<;>try dsimp only)|apply Ae|(refine Prod.forall.2 ?_;intro _;try dsimp only)|(intro _;try dsimp only))
 all_goals first
  |rfl
  |(simp [Al,AB,Dd,Bn, *];done)
  |(have hn:ns.length=300:=by omega
    simp [Al,AB,Dd,Bn, *];done)
  |(have hn:ns.length≠300:=by omega
    simp [Al,AB,Dd,Bn, *];done)
  |((try simp only[AU,Bf,List.length_append,List.length_cons,List.length_nil]);omega)
  |skip)
def EO:Sig:= {X:=ST×Int×Int×Bool×List Nd,args:=fun x=>[srd x.1 (xg x)],pre:=fun x=>rOk x.1 (xg x),Y:=Unit,post:=fun x y=>True,res:=fun x y=> .bool (blG x.1.sg (xg x)),outs:=fun x y=>[srd x.1 (xg x)],keep:=true}
theorem OM:Am G Tryz.prog 114 EO:=
 vcFun_okP [] [] false (fun x=>[]) Tryz.func114 rfl (by decide) trivial (fun(x:ST×Int×Int×Bool×List Nd)=>True∧true=true∧true=true∧Aa (decide ((xg x).pos<(↑(List.length x.1.sg):Int))) (((0:Int)≤(xg x).pos∧(xg x).pos<(↑(List.length x.1.sg):Int))∧∀(e:Sg),x.1.sg[Int.toNat (xg x).pos]? =some e→rA EO x [.bool e.blank,srd x.1 (xg x)]) (rA EO x [.bool false,srd x.1 (xg x)])) (fun x=>by kernel_rfl) fun(x:ST×Int×Int×Bool×List Nd) (hx:rOk x.1 (xg x))=>(by
 dsimp only[Bx,AX,rA,EO,CE,sgs,srd,Az,AC]
 obtain⟨s,p,d,b,ns⟩:=x;dsimp only[xg,xh] at hx ⊢
 have hx:rOk s ⟨p,d,b,ns⟩:=hx;have hs:=FG hx;dsimp only at hs
 (repeat' first|(with_reducible first|rfl|exact True.intro|apply AN|apply And.intro|((first|apply AD|apply AL|apply AE|apply AM)<;>intro _))|(apply AA<;>intro _)|apply AK|refine Ae () ?_ ?_|((first|apply AR|apply AQ|apply AP|apply AO|apply AJ|apply AI|apply AH|apply AG|apply AF)<;>try dsimp only)|apply Ae|(refine Prod.forall.2 ?_;intro _;try dsimp only)|(intro _;try dsimp only))
 all_goals first
  |rfl
  |(simp [blG,HA (show s.sg[_]? =some _ by assumption), *];done)
  |(simp [blG, *];done)
  |((try simp only[AU]);omega)
  |skip)
def DB:Sig:= {X:=ST×Int×Int×Bool×List Nd×Int×Bool,args:=fun x=>[srd x.1 (xh x),.int .i64 x.2.2.2.2.2.1,.bool x.2.2.2.2.2.2],pre:=fun x=>rOk x.1 (xh x)∧((xh x).bad=false→0≤x.2.2.2.2.2.1),Y:=Unit,post:=fun x y=>True,res:=fun x y=> .tup [],outs:=fun x y=>[srd x.1 (gBl (xh x) x.2.2.2.2.2.1 x.2.2.2.2.2.2),.top,.top],keep:=true}
theorem ON:Am G Tryz.prog 116 DB:=
 vcFun_okP [] [(24,⟨Nd,ndA true⟩)] false (fun x=>[]) Tryz.func116 rfl (by decide) trivial (fun(x:ST×Int×Int×Bool×List Nd×Int×Bool)=>True∧Aa (!(xh x).bad) (Aa (decide (x.2.2.2.2.2.1<(↑(List.length (xh x).nodes):Int))) (((0:Int)≤x.2.2.2.2.2.1∧x.2.2.2.2.2.1<(↑(List.length (xh x).nodes):Int))∧Int.toNat x.2.2.2.2.2.1<List.length (xh x).nodes∧∀(x_1:Nd),(xh x).nodes[Int.toNat x.2.2.2.2.2.1]? =some x_1→∃(x':Nd),([AV.int .i64 x'.kind,.str x'.text,Ag x'.kids]=[.int .i64 x_1.kind,.str x_1.text,Ag x_1.kids]∧(@List.nil AV)=[])∧x.2.2.2.2.2.2=x'.blank∧rA DB x [.tup [],.box 0 [sgs x.1.sg,.int .i64 (xh x).pos,.bool (xh x).bad,.int .i64 (xh x).deep,AX (List.set (xh x).nodes (Int.toNat x.2.2.2.2.2.1) x')],.top,.top]) (rA DB x [.tup [],srd x.1 (xh x),.top,.top])) (rA DB x [.tup [],srd x.1 (xh x),.top,.top])) (fun x=>by kernel_rfl) fun(x:ST×Int×Int×Bool×List Nd×Int×Bool) (hx:rOk x.1 (xh x)∧((xh x).bad=false→0≤x.2.2.2.2.2.1))=>(by
 dsimp only[Bx,Ag,AX,rA,DB,CE,sgs,srd,Az,AC]
 obtain⟨s,p,d,b,ns,k,bl⟩:=x;dsimp only[xg,xh] at hx ⊢
 obtain⟨hx,hk⟩:=hx
 have hx:rOk s ⟨p,d,b,ns⟩:=hx;have hs:=FG hx;dsimp only at hs
 (repeat' first|refine a6d ?_|(with_reducible first|rfl|exact True.intro|apply AN|apply And.intro|((first|apply AD|apply AL|apply AE|apply AM)<;>intro _))|(apply AA<;>intro _)|apply AK|refine Ae () ?_ ?_|((first|apply AR|apply AQ|apply AP|apply AO|apply AJ|apply AI|apply AH|apply AG|apply AF)<;>try dsimp only)|apply Ae|(refine Prod.forall.2 ?_;intro _;try dsimp only)|(intro _;try dsimp only))
 all_goals first
  |rfl
  |(simp [gBl, *];done)
  |exact a6e (g:=⟨p,d,b,ns⟩) ‹_› ‹_› ‹_›
  |(have hk2:=hk ‹_›;(try simp only[AU]);omega)
  |((try simp only[AU]);omega)
  |skip)
end Go.My
end
section
set_option linter.unusedVariables false
set_option linter.unusedSimpArgs false
namespace Go.My
open Go.Eng
theorem Lk{sg:List Sg}{x:Gs}{f:Ps→PR}{k k':Int}{y y':Gs}(h:Af sg x f (k,y))(h1:gsOk sg y')(h2:y'.deep=y.deep)(h3:y.pos≤y'.pos)(h4:pur y'=pur y)(h5:y'.bad=false→k'=k):Af sg x f (k',y'):=by
 obtain⟨⟨a1,a2,a3,a4,a5⟩,b⟩:=h
 simp only at a1 a2 a3 a4 a5 b
 have hb:y'.bad=y.bad:=by
  cases hy:y.bad with
  |true=>exact Wi.1 (h4.trans (Dq hy))
  |false=>
   cases hy':y'.bad with
   |false=>rfl
   |true=>rw[Dq hy',CH hy] at h4;cases h4
 refine⟨⟨h1,by simp only;omega,by simp only;omega,by simp only;rw[h4];exact a4,fun p hp=> ?_⟩,fun hw=> ?_⟩
 ·simp only
  have:=a5 p hp
  rw[h5 ?_]
  ·exact this
  ·cases hy:y'.bad with
   |false=>rfl
   |true=>rw[←h4,Dq hy,hp] at a4;cases a4
 ·simp only at hw ⊢
  have:=b (by rw[←hb];exact hw);omega
theorem Sd{α:Type}{sg:List Sg}{x y y':Gs}{f g:Ps→Option (α×Ps)}{d:Int}(h:restP sg x f y g d)(h1:gsOk sg y')(h2:y'.deep=y.deep)(h3:y.pos≤y'.pos)(h4:pur y'=pur y):restP sg x f y' g d:=by
 obtain⟨a1,a2,a3,a4⟩:=h
 exact⟨h1,by omega,by omega,by rw[h4];exact a4⟩
theorem Se{sg:List Sg}{g:Gs}{w:Nd}(h:gsOk sg g)(hl:g.pos<sg.length)(hw:CG w):gsOk sg (Al (An g) w)∧(Al (An g) w).deep=(CJ (Al g w)).deep∧(CJ (Al g w)).pos≤(Al (An g) w).pos∧pur (Al (An g) w)=pur (CJ (Al g w))∧AB (An g)=AB g:=by
 refine⟨MB (Fi h hl) hw,?_⟩
 cases hf:Dd g with
 |true=>
  have hf2:Dd (An g)=true:=hf
  simp only[Al,AB,hf,hf2,if_true]
  simp [CJ,Bn,An,pur];omega
 |false=>
  have hf2:Dd (An g)=false:=hf
  have:=(Ot hf).1
  simp only[Al,AB,hf,hf2,Bool.false_eq_true,if_false]
  simp [CJ,Bn,An,pur,this]
theorem GM{sg:List Sg}{x g:Gs}{f:Ps→PR}{m:List UInt8}{w:Nd}(hg:gsOk sg g)(hw:CG w)(h:Af sg x f (Cp sg g m,Co sg g m w)):Af sg x f (AB (Aq sg g m),Al (Aq sg g m) w):=by
 cases hq:isG sg g 4 m with
 |true=>
  obtain⟨a,b,c,d,e⟩:=Se hg (CI hq (by omega)).2 hw
  simp only[Co,Cp,Aq,hq,if_true] at h ⊢
  exact Lk h a b c d (fun _=>e)
 |false=>
  simp only[Co,Cp,Aq,hq,Bool.false_eq_true,if_false] at h ⊢
  have hf:Dd (Bn g)=true:=by simp [Dd,Bn]
  simp only[Al,AB,hf,if_true]
  exact Lk h hg rfl (Int.le_refl _) rfl (fun _=>rfl)
theorem MN{sg:List Sg}{g:Gs}{k:Int}(hk:k≠1):kdG sg g k=decide ((pkG sg g 0).kind=k):=by simp [kdG,hk]
theorem Ll{sg:List Sg}{x g:Gs}{f:Ps→PR}{k c:Int}(hs:sgB sg)(hg:gsOk sg g)(hk:k≠0)(hq:kdG sg g k=true)(h:Af sg x f (AB g,DJ sg g c false)):Af sg x f (AB (Bc sg g k),Al (Bc sg g k) ⟨c,Bq sg g k,[],false⟩):=by
 have hl:=OK hk hq
 have hw:CG ⟨c,(pkG sg g 0).text,[],false⟩:=⟨MC hs,by simp⟩
 obtain⟨a1,a2,a3,a4,a5⟩:=Se hg hl.2 hw
 simp only[Bc,Bq,hq,if_true]
 exact Lk h a1 a2 a3 a4 (fun _=>a5)
theorem a6g{sg:List Sg}{g:Gs}(hs:sgB sg)(hg:gsOk sg g):Af sg g (BM sg) (AB (Bc sg g 1),Al (Bc sg g 1) ⟨1,Bq sg g 1,[],false⟩):=by
 have h:=Ov hs hg
 cases hq:nmG sg g 0 with
 |true=>
  refine Ll hs hg (by omega) (by rw[Hj];exact hq) ?_
  simp only[Dr,DA,hq,if_true] at h;exact h
 |false=>
  have hq2:kdG sg g 1=false:=by rw[Hj];exact hq
  simp only[Dr,DA,hq,Bool.false_eq_true,if_false] at h
  have hf:Dd (Bn g)=true:=by simp [Dd,Bn]
  simp only[Bc,Bq,hq2,Bool.false_eq_true,if_false,Al,AB,hf,if_true]
  exact Lk h hg rfl (Int.le_refl _) rfl (fun _=>rfl)
theorem GN{sg:List Sg}{g:Gs}:Bc sg g 1=Cr sg g∧Bq sg g 1=CC sg g:=by
 simp only[Bc,Cr,Bq,CC,Hj];exact⟨trivial,trivial⟩
theorem OO{sg:List Sg}{g:Gs}{m:List UInt8}(h:g.bad=true):Aq sg g m=g:=by
 have:isG sg g 4 m=false:=Wj (Dq h) (by omega)
 simp only[Aq,this,Bool.false_eq_true,if_false,Bn]
 cases g;simp only at h;simp [h]
theorem HI{sg:List Sg}{g:Gs}{m:List UInt8}(h:isG sg g 4 m=true):Aq sg g m=An g:=by simp [Aq,h]
theorem MO{sg:List Sg}{g:Gs}{m:List UInt8}(h:isG sg g 4 m=false):Aq sg g m=Bn g:=by simp [Aq,h]
theorem Sf{w:Nd}{s:Ps}(h:¬300≤s.nodes.length):AZ w s=some ((s.nodes.length:Int),⟨s.pos,s.deep,s.nodes++[w]⟩):=if_neg h
theorem Sh{w:Nd}{s:Ps}(h:300≤s.nodes.length):AZ w s=none:=if_pos h
def chS(sg:List Sg)(n l:Nat)(x y:Gs)(t:List UInt8)(ks:List Int)(N:Nat):Prop:=
 restP sg x (pE sg (n+1) (.chain l)) y (chF sg n l N t ks) 0∧(2*((sg.length:Int)-y.pos)+4≤N∨(t=[]∧2*((sg.length:Int)-y.pos)+3≤N))∧(ks.length:Int)≤y.pos+1∧(y.bad=false→x.pos<y.pos)∧(t=[]→ks.length=1)∧(t≠[]→2≤ks.length∧t∈BE l)
theorem a6h{sg:List Sg}{x:Gs}{n l:Nat}{z:Int×Gs}(h:gsOk sg x)(hl:l≠6)(h1:Af sg x (pE sg n (.chain (l+1))) z):chS sg n l x z.2 [] [z.1] (2*sg.length+4):=by
 obtain⟨a,b,c⟩:=a3P h hl h1
 have:=a.1.1
 exact⟨a,.inr ⟨rfl,b⟩,by simp;omega,c,fun _=>rfl,fun h=>(h rfl).elim⟩
theorem Si{sg:List Sg}{l:Nat}{m:List UInt8}{ks:List Int}(hs:sgB sg)(hml:m∈BE l)(hk:(ks.length:Int)≤sg.length+1):CG ⟨7,m,ks,false⟩:=by
 refine⟨?_,by have:=hs.1;simp only;omega⟩
 simp only
 unfold BE at hml
 split at hml<;>simp at hml<;>(first|(subst hml;simp)|(rcases hml with rfl|rfl<;>simp))
theorem a6i{sg:List Sg}{n l:Nat}{x y:Gs}{t:List UInt8}{ks:List Int}{N:Nat}{z:Int×Gs}(h:chS sg n l x y t ks N)(hm:CL sg l y≠[])(ht:t=[]∨CL sg l y=t)(hz:Af sg (An y) (pE sg n (.chain (l+1))) z):
 chS sg n l x z.2 (CL sg l y) (ks++[z.1]) (N-1)∧N-1<N:=by
 obtain⟨h1,hN,hk,hb,hk1,hk2⟩:=h
 have hq:=(Iz hm).1
 have hp:=h1.1.1
 have hl:=CI hq (by omega)
 match N with
 |0=>omega
 |M+1=>
  refine⟨?_,by omega⟩
  have k1:=FI (g':=fun s=>(pE sg n (.chain (l+1)) s).bind fun p=>chF sg n l M (CL sg l y) (ks++[p.1]) p.2) h1 (by omega) hq (fun s hs hts=>by
   rw[chF,FE,if_neg ?_,if_neg (by rw[Iy hs];exact hm),Iy hs];rfl
   rw[Iy hs];rintro⟨q1,q2⟩;rcases ht with ht|ht
   ·exact q1 ht
   ·exact q2 ht)
  have k2:=BH (k:=fun k s=>chF sg n l M (CL sg l y) (ks++[k]) s) k1 hz.1 (fun _ _=>rfl)
  have e:=Ct hz
  simp only[An] at e
  have:=h1.2.2.1
  simp only[Nat.add_sub_cancel]
  refine⟨k2,.inl (by omega),by simp;omega,fun hb2=>by omega,fun he=>(hm he).elim,fun _=>⟨?_,(Iz hm).2⟩⟩
  simp only[List.length_append,List.length_cons,List.length_nil]
  rcases Classical.em (t=[]) with e0|e0
  ·have:=hk1 e0;omega
  ·have:=(hk2 e0).1;omega
theorem a6j{sg:List Sg}{n l:Nat}{x y:Gs}{t:List UInt8}{ks:List Int}{N:Nat}{z:Int×Gs}(hs:sgB sg)(h:chS sg n l x y t ks N)(hm:CL sg l y≠[])(ht:t≠[])(hne:CL sg l y≠t)(hz:Af sg (Al (An y) ⟨7,t,ks,false⟩) (pE sg n (.chain (l+1))) z):
 chS sg n l x z.2 (CL sg l y) ([AB (An y)]++[z.1]) (N-2)∧N-2<N:=by
 obtain⟨h1,hN,hk,hb,hk1,hk2⟩:=h
 have hq:=(Iz hm).1
 have hp:=h1.1.1
 have hl:=CI hq (by omega)
 have hN2:2*((sg.length:Int)-y.pos)+4≤N:=by
  rcases hN with h|h
  ·exact h
  ·exact(ht h.1).elim
 match N with
 |0=>omega
 |1=>omega
 |M+2=>
  refine⟨?_,by omega⟩
  have hw:CG ⟨7,t,ks,false⟩:=Si hs (hk2 ht).2 (by omega)
  have k1:=FI (g':=fun s=>(AZ ⟨7,t,ks,false⟩ s).bind fun p=>(pE sg n (.chain (l+1)) p.2).bind fun q=>chF sg n l M (CL sg l y) ([p.1]++[q.1]) q.2) h1 (by omega) hq (fun s hs hts=>by
   rw[chF,FE,if_pos ⟨ht,by rw[Iy hs];exact hne⟩]
   by_cases h3:300≤s.nodes.length
   ·rw[Sh h3,Sh (s:=adv s) h3];rfl
   ·rw[Sf h3,Sf (s:=adv s) h3]
    simp only[Option.bind_some]
    have e:Hz sg l ⟨s.pos,s.deep,s.nodes++[⟨7,t,ks,false⟩]⟩=CL sg l y:=by rw[←Iy hs];rfl
    rw[FE,if_neg (by simp),if_neg (by rw[e];exact hm),e];rfl)
  have k2:=BH (k:=fun k s=>(pE sg n (.chain (l+1)) s).bind fun q=>chF sg n l M (CL sg l y) ([k]++[q.1]) q.2) k1 (Ou k1.1 hw) (fun _ _=>rfl)
  have k3:=BH (k:=fun k s=>chF sg n l M (CL sg l y) ([AB (An y)]++[k]) s) k2 hz.1 (fun _ _=>rfl)
  have e:=Ct hz
  obtain⟨d1,d2,d3⟩:= @HF (An y) ⟨7,t,ks,false⟩
  rw[d2] at e;simp only[An] at e
  have:=h1.2.2.1
  simp only[Nat.add_sub_cancel]
  refine⟨k3,.inl (by omega),by simp;omega,fun hb2=>by omega,fun he=>(hm he).elim,fun _=>⟨by simp,(Iz hm).2⟩⟩
theorem Xj{sg:List Sg}{n l:Nat}{x y:Gs}{t:List UInt8}{ks:List Int}{N:Nat}{k:Int}(h:chS sg n l x y t ks N)(hm:y.bad=true∨CL sg l y=[])(hl:ks.length=1)(hk:ks[0]? =some k):Af sg x (pE sg (n+1) (.chain l)) (k,y):=by
 obtain⟨h1,hN,hk0,hb,hk1,hk2⟩:=h
 rcases hm with hm|hm
 ·exact⟨ME h1 hm,fun hb2=>by simp only at hb2;rw[hm] at hb2;cases hb2⟩
 ·have ht:t=[]:=by
   rcases Classical.em (t=[]) with e0|e0
   ·exact e0
   ·have:=(hk2 e0).1;omega
  subst ht
  have hp:=h1.1.1
  match ks,hl with
  |[k0],_=>
   simp at hk;subst hk
   match N with
   |0=>omega
   |N+1=>exact⟨FH (Ds h1 (g':=fun s=>some (k0,s)) (fun s hs=>by rw[chF,FE,if_neg (by simp),if_pos (by rw[Iy hs,hm])];rfl)),hb⟩
theorem Xk{sg:List Sg}{n l:Nat}{x y:Gs}{t:List UInt8}{ks:List Int}{N:Nat}(hs:sgB sg)(h:chS sg n l x y t ks N)(hm:y.bad=true∨CL sg l y=[])(hl:ks.length≠1):Af sg x (pE sg (n+1) (.chain l)) (AB y,Al y ⟨7,t,ks,false⟩):=by
 obtain⟨h1,hN,hk0,hb,hk1,hk2⟩:=h
 have ht:t≠[]:=fun e=>hl (hk1 e)
 have hp:=h1.1.1
 have hw:CG ⟨7,t,ks,false⟩:=Si hs (hk2 ht).2 (by omega)
 obtain⟨d1,d2,d3⟩:= @HF y ⟨7,t,ks,false⟩
 have hN2:2*((sg.length:Int)-y.pos)+4≤N:=by
  rcases hN with h|h
  ·exact h
  ·exact(ht h.1).elim
 match N with
 |0=>omega
 |1=>omega
 |M+2=>
  have k1:restP sg x (pE sg (n+1) (.chain l)) y (AZ ⟨7,t,ks,false⟩) 0:=by
   rcases hm with hm|hm
   ·exact Ds h1 (fun s hs=>by rw[Dq hm] at hs;cases hs)
   ·refine Ds h1 (fun s hs=> ?_)
    rw[chF,FE,if_pos ⟨ht,by rw[Iy hs,hm];exact Ne.symm ht⟩,AZ]
    split
    ·rfl
    ·simp only[Option.bind_some]
     have e:Hz sg l ⟨s.pos,s.deep,s.nodes++[⟨7,t,ks,false⟩]⟩=[]:=by rw[←hm,←Iy hs];rfl
     rw[FE,if_neg (by simp),if_pos e];rfl
  exact⟨Oy k1 hw,fun hb2=>by simp only[d2];exact hb (d3 hb2)⟩
def gM(y:Gs)(m:List UInt8):Gs:=if m=[] then y else An y
theorem Sj{y:Gs}:gM y []=y:=rfl
theorem OP{y:Gs}{m:List UInt8}(h:m≠[]):gM y m=An y:=if_neg h
def mkQ(sg:List Sg)(y:Gs)(l:Nat)(i:Int)(m:List UInt8):Prop:=(0≤i∧i≤(BE l).length)∧((m=[]∧CL sg l y=(((BE l).drop i.toNat).find? fun m=>isG sg y 4 m).getD [])∨(m≠[]∧m=CL sg l y))
theorem a6k{sg:List Sg}{y:Gs}{l:Nat}:mkQ sg y l 0 []:=⟨by omega,.inl ⟨rfl,rfl⟩⟩
theorem a6l{sg:List Sg}{y:Gs}{l:Nat}{i:Int}{m v:List UInt8}(h:mkQ sg y l i m)(hm:m=[])(ha:(BE l)[i.toNat]? =some v)(hg:isG sg (gM y m) 4 v=false):mkQ sg y l (i+1) m:=by
 subst hm
 have hlt:=(List.getElem?_eq_some_iff.1 ha).1
 refine⟨by have:=h.1;omega,?_⟩
 rcases h.2 with h2|h2
 ·left;refine⟨rfl,?_⟩
  rw[h2.2,List.drop_eq_getElem_cons hlt,(List.getElem?_eq_some_iff.1 ha).2,List.find?_cons_of_neg (by simp;exact hg),show(i+1).toNat=i.toNat+1 by have:=h.1;omega]
 ·exact(h2.1 rfl).elim
theorem Sk{sg:List Sg}{y:Gs}{l:Nat}{i:Int}{m v:List UInt8}(h:mkQ sg y l i m)(hm:m=[])(ha:(BE l)[i.toNat]? =some v)(hg:isG sg (gM y m) 4 v=true):mkQ sg y l (i+1) v∧Au sg (gM y m) v=gM y v:=by
 subst hm
 have hlt:=(List.getElem?_eq_some_iff.1 ha).1
 have hv:=a3Q (List.mem_of_getElem? ha)
 refine⟨⟨by have:=h.1;omega,.inr ⟨hv,?_⟩⟩,?_⟩
 ·exact(a3S (List.mem_of_getElem? ha) hg).symm
 ·rw[Sj] at hg ⊢;rw[OP hv];exact DM hg
theorem a6m{sg:List Sg}{y:Gs}{l:Nat}{i:Int}{m:List UInt8}(h:mkQ sg y l i m)(hi:i<((BE l).length:Int))(hm:m≠[]):mkQ sg y l (i+1) m:=by
 refine⟨by have:=h.1;omega,?_⟩
 rcases h.2 with h2|h2
 ·exact(hm h2.1).elim
 ·exact .inr h2
theorem OQ{sg:List Sg}{y:Gs}{l:Nat}{i:Int}{m:List UInt8}(h:mkQ sg y l i m)(hi:¬i<((BE l).length:Int)):m=CL sg l y:=by
 rcases h.2 with h2|h2
 ·rw[h2.2,List.drop_eq_nil_of_le (by omega),h2.1];rfl
 ·exact h2.2
theorem Xl{sg:List Sg}{x:Gs}{f:Ps→PR}{a:Int}(h:gsOk sg x)(hb:x.bad=true):Af sg x f (a,x):=⟨ME (CK h) hb,fun hb2=>by simp only at hb2;rw[hb] at hb2;cases hb2⟩
theorem a6n{sg:List Sg}{n:Nat}{x y y':Gs}{k k':Int}{N:Nat}(h:enI sg n x y k N)(h1:gsOk sg y')(h2:y'.deep=y.deep)(h3:y.pos≤y'.pos)(h4:pur y'=pur y)(h5:y'.bad=false→k'=k):enI sg n x y' k' N:=by
 obtain⟨a,b,c⟩:=h
 cases hb:y'.bad with
 |false=>
  have hy:y.bad=false:=by
   cases hy:y.bad with
   |false=>rfl
   |true=>rw[Dq hy,CH hb] at h4;cases h4
  rw[h5 hb]
  exact⟨Sd a h1 h2 h3 h4,fun _=>by have:=b hy;omega,fun _=>by have:=c hy;omega⟩
 |true=>
  have hy:y.bad=true:=by
   cases hy:y.bad with
   |true=>rfl
   |false=>rw[Dq hb,CH hy] at h4;cases h4
  refine⟨Ds (Sd a h1 h2 h3 h4) (fun s hs=>by rw[Dq hb] at hs;cases hs),fun e=>(Bool.noConfusion (hb.symm.trans e)),fun e=>(Bool.noConfusion (hb.symm.trans e))⟩
theorem a6o{sg:List Sg}{n:Nat}{x y:Gs}{a k:Int}{N:Nat}(h:Af sg x (pE sg (n+1) .fin) (a,y))(hb:y.bad=true):enI sg n x y k N:=
 ⟨Ds (a3x h.1) (fun s hs=>by rw[Dq hb] at hs;cases hs),fun e=>(Bool.noConfusion (hb.symm.trans e)),fun e=>(Bool.noConfusion (hb.symm.trans e))⟩
theorem a6p{sg:List Sg}{n:Nat}{x y:Gs}{k:Int}{N:Nat}(hs:sgB sg)(h:enI sg n x y k N)(hp:isG sg y 4 [40]=false)(hq:isG sg y 4 [46]=true):
 enI sg n x (Al (Bc sg (An y) 1) ⟨6,Bq sg (An y) 1,[k],false⟩) (AB (Bc sg (An y) 1)) (N-1)∧N-1<N:=by
 have hl:=CI hq (by omega)
 obtain⟨M,rfl⟩:=MG h hl.1
 refine⟨?_,by omega⟩
 have ho:=Fi h.1.1 hl.2
 have hw:CG ⟨6,(pkG sg (An y) 0).text,[k],false⟩:=⟨MC hs,by simp⟩
 cases hn:nmG sg (An y) 0 with
 |true=>
  obtain⟨M',e,h2⟩:=a3W hs h hp hq hn
  have:M'=M:=by omega
  subst this
  obtain⟨a1,a2,a3,a4,a5⟩:=Se ho (by have:=(Oo hn).2;omega) hw
  have e1:Bc sg (An y) 1=An (An y):=by rw[Bc,Hj,if_pos hn]
  have e2:Bq sg (An y) 1=(pkG sg (An y) 0).text:=by rw[Bq,Hj,if_pos hn]
  rw[e1,e2]
  exact a6n h2 a1 a2 a3 a4 (fun _=>a5)
 |false=>
  have h2:=a3X (a:=0) h hp hq hn
  have e1:Bc sg (An y) 1=Bn (An y):=by rw[Bc,Hj,if_neg (by simp [hn])]
  have hf:Dd (Bn (An y))=true:=by simp [Dd,Bn]
  rw[e1]
  have e3:Al (Bn (An y)) ⟨6,Bq sg (An y) 1,[k],false⟩=Bn (Bn (An y)):=if_pos hf
  rw[e3]
  exact a6o (a:=0) (Lk h2 ho rfl (Int.le_refl _) rfl (fun _=>rfl)) rfl
def vlQ(sg:List Sg)(one:Ps→PR)(m:List UInt8)(ks0:List Int)(x:Gs)(y:List Int×Gs):Prop:=∃l:List Int×Gs,(Bu sg x (Bo sg one m (sg.length+1) []) l∧l.1.length≤3001)∧y=(ks0++l.1,Aq sg l.2 m)
theorem Sl{s:ST}{one:Ps→PR}{m:List UInt8}{ks0:List Int}{x:Gs}{y:List Int×Gs}(hs:sgB s.sg)(h:vlQ s.sg one m ks0 x y):rOk s y.2∧y.1.length≤ks0.length+3001∧y.2.deep=x.deep∧x.pos≤y.2.pos:=by
 obtain⟨l,⟨h1,h2⟩,rfl⟩:=h
 have t:=Gl (m:=m) h1.1
 have:=h1.2.1;have:=h1.2.2.1
 exact⟨⟨hs,t.1⟩,by simp;omega,by simp only;omega,by simp only;omega⟩
theorem Xm{sg:List Sg}{x:Gs}{one:Ps→PR}{k:Int}{y:List Int×Gs}(hx:gsOk sg x)(h:vlQ sg one [41] [k] (Aq sg x [40]) y):Af sg x (CF sg one k) (AB y.2,Al y.2 ⟨5,[],y.1,false⟩):=by
 obtain⟨l,⟨h1,h2⟩,rfl⟩:=h
 exact GM h1.1 ⟨by simp,by simp;omega⟩ (a4k hx ⟨h1,h2⟩)
theorem a6q{sg:List Sg}{x y:Gs}{n N:Nat}{ks:List Int}{c w:Int×Gs}(h:Ix sg n x y ks N)(hq:isG sg y 4 [46,46]=true)(hc:Af sg (An y) (BM sg) c)
 (h2:Af sg c.2 (CF sg (pE sg n .value) c.1) w):∃M,N=M+1∧Ix sg n x w.2 (ks++[w.1]) M:=by
 obtain⟨h1,hN,hk,hb⟩:=h
 obtain⟨hl1,hl⟩:=CI hq (by omega)
 match N with
 |0=>omega
 |M+1=>
  refine⟨M,rfl,?_⟩
  have k1:=FI (g':=fun s=>((BM sg s).bind fun p=>(CF sg (pE sg n .value) p.1 p.2).bind fun q=>EL sg (pE sg n .value) M (ks++[q.1]) q.2).bind fun q=>AZ ⟨10,[],q.1,false⟩ q.2)
   h1 (by omega) hq (fun s hs ht=>by rw[EL,if_pos (show isM sg s [46,46]=true from ht)])
  have k2:=BH (k:=fun k s=>((CF sg (pE sg n .value) k s).bind fun q=>EL sg (pE sg n .value) M (ks++[q.1]) q.2).bind fun q=>AZ ⟨10,[],q.1,false⟩ q.2) k1 hc.1 (fun s _=>by simp only[Option.bind_assoc])
  have k3:=BH (k:=fun k s=>(EL sg (pE sg n .value) M (ks++[k]) s).bind fun q=>AZ ⟨10,[],q.1,false⟩ q.2) k2 h2.1 (fun s _=>by simp only[Option.bind_assoc])
  have e0:(An y).pos≤c.2.pos:=hc.1.2.2.1
  have e1:=Ct h2
  have ea:(An y).pos=y.pos+1:=rfl
  refine⟨k3,by omega,by simp;omega,fun hb2=> ?_⟩
  have:=h1.2.2.1
  omega
theorem a6r{sg:List Sg}(hm:sgM sg){s:Ps}(h0:0≤s.pos)(h:Iu sg s=true):Iw sg s=true:=by
 have hp:∀(n:Nat) (i:Int),0≤i→0≤Dz sg n i:=by
  intro n
  induction n with
  |zero=>intro i hi;simpa [Dz] using hi
  |succ n ih=>
   intro i hi;rw[Dz];split
   ·split
    ·exact ih _ (by omega)
    ·omega
   ·exact hi
 exact Wr hm _ _ (by omega) (by rw[←RU hm (hp _ _ (by omega))];exact h)
theorem a6s{sg:List Sg}(hm:sgM sg){s:Ps}(h0:0≤s.pos)(h1:Iw sg s=true)(h2:Iu sg s=false)(N:Nat):Bo sg (BM sg) [41] N [] (adv s)=none:=by
 have hp:∀(n:Nat) (i:Int),0≤i→0≤Dz sg n i:=by
  intro n
  induction n with
  |zero=>intro i hi;simpa [Dz] using hi
  |succ n ih=>
   intro i hi;rw[Dz];split
   ·split
    ·exact ih _ (by omega)
    ·omega
   ·exact hi
 exact Ws hm (sg.length+1) (s.pos+1) (by omega) h1 (by rw[←RU hm (hp _ _ (by omega))];exact h2) N [] (adv s) rfl
theorem a6t{sg:List Sg}{x:Gs}{n:Nat}{z:Int×Gs}(hm:sgM sg)(hx:gsOk sg x)(h1:(pkG sg x 0).kind≠1)(h2:(pkG sg x 0).kind≠2)(h3:(pkG sg x 0).kind≠3)(hn:isG sg x 4 [91]=false)(hq:isG sg x 4 [40]=true)
 (ha:∀s,pur x=some s→Iw sg s=true) (hz:Af sg x (fnR sg n) z):Af sg x (pE sg (n+1) .base) z:=by
 refine IA hz (fun s hs=> ?_)
 have h0:0≤s.pos:=by obtain⟨_,rfl⟩:=DX.1 hs;exact hx.1.1
 cases har:Iu sg s with
 |true=>rw[MH hs h1 h2 h3,if_neg (by simp [DY hs hn]),if_pos (by simp [HD hs hq,har]),fnR,Bv,if_pos (HD hs hq)];rfl
 |false=>
  rw[MH hs h1 h2 h3,if_neg (by simp [DY hs hn]),if_neg (by simp [har]),if_pos (HD hs hq),a3A (x:=⟨0,[],[],false⟩) hm h0 (ha s hs) har (fun k=>⟨11,[],[k],false⟩),fnR,Bv,if_pos (HD hs hq)]
  simp only[Option.bind_some]
  rw[a6s hm h0 (ha s hs) har];rfl
theorem a6u{sg:List Sg}{x:Gs}{n:Nat}{z:Int×Gs}(hm:sgM sg)(h:gsOk sg x)(h1:(pkG sg x 0).kind≠1)(h2:(pkG sg x 0).kind≠2)(h3:(pkG sg x 0).kind≠3)(hn:isG sg x 4 [91]=false)(hq:isG sg x 4 [40]=true)
 (ha:∀s,pur x=some s→Iw sg s=false) (hz:Af sg (An x) (pE sg n .value) z):
 Af sg x (pE sg (n+1) .base) (AB (Aq sg z.2 [41]),Al (Aq sg z.2 [41]) ⟨11,[],[z.1],false⟩):=by
 refine GM (EM hz) ⟨by simp,by simp⟩ (a4b h h1 h2 h3 hn hq (fun s hs=> ?_) hz)
 have h0:0≤s.pos:=by obtain⟨_,rfl⟩:=DX.1 hs;exact h.1.1
 cases har:Iu sg s with
 |false=>rfl
 |true=>have:=a6r hm h0 har;rw[ha s hs] at this;cases this
end Go.My
end
section
set_option linter.unusedVariables false
set_option linter.unusedSimpArgs false
namespace Go.My
open Go.Eng Go.Proofs
variable {G:GInv}
def vQ(r n:Nat)(s:ST)(g:Gs):Prop:=vP r n s g∧sgM s.sg
def wQ(r n:Nat)(s:ST)(g:Gs):Prop:=wP r n s g∧sgM s.sg
def JP(n:Nat):Sig:= {X:=ST×Int×Int×Bool×List Nd,args:=fun x=>[srd x.1 (xg x)],pre:=fun x=>vQ 11 n x.1 (xg x),Y:=Int×Int×Int×Bool×List Nd,post:=fun x y=>Af x.1.sg (xg x) (pE x.1.sg n .value) (yS y),res:=fun x y=> .int .i64 y.1,outs:=fun x y=>[srd x.1 (yG y.2)],keep:=true}
def FL(n:Nat):Sig:= {X:=ST×Int×Int×Bool×List Nd,args:=fun x=>[srd x.1 (xg x)],pre:=fun x=>vQ 10 n x.1 (xg x),Y:=Int×Int×Int×Bool×List Nd,post:=fun x y=>Af x.1.sg (xg x) (pE x.1.sg n .pick) (yS y),res:=fun x y=> .int .i64 y.1,outs:=fun x y=>[srd x.1 (yG y.2)],keep:=true}
def GP(n:Nat):Sig:= {X:=ST×Int×Int×Bool×List Nd×Int,args:=fun x=>[srd x.1 (xh x),.int .i64 x.2.2.2.2.2],pre:=fun x=>wQ (9-x.2.2.2.2.2.toNat) n x.1 (xh x)∧0≤x.2.2.2.2.2∧x.2.2.2.2.2≤6,Y:=Int×Int×Int×Bool×List Nd,post:=fun x y=>Af x.1.sg (xh x) (pE x.1.sg n (.chain x.2.2.2.2.2.toNat)) (yS y),res:=fun x y=> .int .i64 y.1,outs:=fun x y=>[srd x.1 (yG y.2),.top],keep:=true}
def OT(n:Nat):Sig:= {X:=ST×Int×Int×Bool×List Nd,args:=fun x=>[srd x.1 (xg x)],pre:=fun x=>wQ 2 n x.1 (xg x),Y:=Int×Int×Int×Bool×List Nd,post:=fun x y=>Af x.1.sg (xg x) (pE x.1.sg n .fin) (yS y),res:=fun x y=> .int .i64 y.1,outs:=fun x y=>[srd x.1 (yG y.2)],keep:=true}
def OU(n:Nat):Sig:= {X:=ST×Int×Int×Bool×List Nd,args:=fun x=>[srd x.1 (xg x)],pre:=fun x=>wQ 1 n x.1 (xg x),Y:=Int×Int×Int×Bool×List Nd,post:=fun x y=>Af x.1.sg (xg x) (pE x.1.sg n .base) (yS y),res:=fun x y=> .int .i64 y.1,outs:=fun x y=>[srd x.1 (yG y.2)],keep:=true}
structure qAll (G:GInv) (n:Nat):Prop where
 val:Am G Go.Proofs.Tryz.prog 172 (JP n)
 pick:Am G Go.Proofs.Tryz.prog 187 (FL n)
 chain:Am G Go.Proofs.Tryz.prog 202 (GP n)
 fin:Am G Go.Proofs.Tryz.prog 212 (OT n)
 base:Am G Go.Proofs.Tryz.prog 222 (OU n)
def saI(sg:List Sg)(p:Int)(i:Int)(N:Nat):Prop:=(p+1≤i∧i≤sg.length+1∧(sg.length:Int)-i<N)∧DL sg (sg.length+1) (p+1)=DL sg N i
def arG(sg:List Sg)(x:Gs):Bool:=isG sg x 4 [40]&&Iw sg ⟨x.pos,x.deep,x.nodes⟩
theorem a6v{sg:List Sg}{p i:Int}{N:Nat}(h:saI sg p i N):p+1≤i∧i≤sg.length+1:=⟨h.1.1,h.1.2.1⟩
theorem a6w{sg:List Sg}{p:Int}(h0:0≤p)(h:p≤sg.length):saI sg p (p+1) (sg.length+1):=⟨by omega,rfl⟩
theorem Xn{sg:List Sg}{p i:Int}{N:Nat}(h0:0≤p)(h:saI sg p i N)(h1:i+1<sg.length)(hk:(sgO sg i).kind=1)(ht:((sgO sg (i+1)).text==[44])=true):saI sg p (i+1+1) (N-1)∧N-1<N:=by
 obtain⟨⟨a1,a2,a3⟩,h4⟩:=h
 match N with
 |0=>omega
 |N+1=>
  refine⟨⟨⟨by omega,by omega,by simp;omega⟩,?_⟩,by omega⟩
  rw[h4,DL,if_pos ⟨h1,hk⟩,if_pos (by simpa using ht)]
  simp only[Nat.add_sub_cancel];congr 1;omega
theorem a6x{sg:List Sg}{p i:Int}{N:Nat}(h:saI sg p i N)(h1:i+1<sg.length)(hk:(sgO sg i).kind=1)(ht:((sgO sg (i+1)).text==[44])=false):DL sg (sg.length+1) (p+1)=i+1:=by
 obtain⟨⟨a1,a2,a3⟩,h4⟩:=h
 match N with
 |0=>omega
 |N+1=>rw[h4,DL,if_pos ⟨h1,hk⟩,if_neg (by simpa using ht)]
theorem a6y{sg:List Sg}{p i:Int}{N:Nat}(h:saI sg p i N)(h1:¬i+1<sg.length):DL sg (sg.length+1) (p+1)=i:=by
 rw[h.2]
 match N with
 |0=>rfl
 |N+1=>rw[DL,if_neg (fun hh=>h1 hh.1)]
theorem a6z{sg:List Sg}{p i:Int}{N:Nat}(h:saI sg p i N)(hk:(sgO sg i).kind≠1):DL sg (sg.length+1) (p+1)=i:=by
 rw[h.2]
 match N with
 |0=>rfl
 |N+1=>rw[DL,if_neg (fun hh=>hk hh.2)]
theorem a6A{sg:List Sg}{x:Gs}(h:isG sg x 4 [40]=false):false=arG sg x:=by simp [arG,h]
theorem Sm{sg:List Sg}{x:Gs}{i:Int}{b:Bool}(h:isG sg x 4 [40]=true)(hi:DL sg (sg.length+1) (x.pos+1)=i)(hb:b=Ew sg i):b=arG sg x:=by
 rw[arG,h,Bool.true_and,Iw];simp only[hi];exact hb
theorem Xo{sg:List Sg}{i k:Int}{e:Sg}(he:sg[i.toNat]? =some e)(hk:e.kind=k):(sgO sg i).kind=k:=by rw[HA he];exact hk
theorem Xp{sg:List Sg}{i:Int}{e:Sg}{m:List UInt8}{b:Bool}(he:sg[i.toNat]? =some e)(hk:(e.text==m)=b):((sgO sg i).text==m)=b:=by rw[HA he];exact hk
def lqJ(sg:List Sg)(one:Ps→PR)(m:List UInt8)(x y:Gs)(ks:List Int)(N:Nat):Prop:=Hi sg one m x y ks N∧(y.bad=false→x.bad=false)
theorem Xq{sg:List Sg}{one:Ps→PR}{m:List UInt8}{x:Gs}(h:gsOk sg x):lqJ sg one m x x [] (sg.length+1):=⟨a3I h,fun h=>h⟩
theorem HJ{s:ST}{one:Ps→PR}{m:List UInt8}{x y:Gs}{ks:List Int}{N:Nat}(hs:sgB s.sg)(h:lqJ s.sg one m x y ks N):rOk s y:=a4j hs h
theorem MP{s:ST}{one:Ps→PR}{m:List UInt8}{x y:Gs}{ks:List Int}{N:Nat}(hs:sgB s.sg)(h:lqJ s.sg one m x y ks N):ks.length≤3000:=a4h hs h
theorem a6B{s:ST}{one:Ps→PR}{m:List UInt8}{x y:Gs}{ks:List Int}{N n:Nat}(hx:wQ 11 n s x)(h:lqJ s.sg one m x y ks N)(hb:y.bad=false)(hq:isG s.sg y 4 m=false):vQ 11 n s (Au s.sg y m):=by
 rw[CY hq];exact⟨a4i hx.1.1.1.1 h hb hx.1.1.2 hx.1.2,hx.2⟩
theorem OV{sg:List Sg}{one:Ps→PR}{m:List UInt8}{x y:Gs}{ks:List Int}{N:Nat}{z:Int×Gs}(h:lqJ sg one m x y ks N)(hq:isG sg y 4 m=false)(hz:Af sg (Au sg y m) one z)(hc:isG sg z.2 4 [44]=true):
 lqJ sg one m x (Au sg z.2 [44]) (ks++[z.1]) (N-1)∧N-1<N:=by
 rw[CY hq] at hz;exact a4g h hz hq hc
theorem Xr{s:ST}{one:Ps→PR}{m:List UInt8}{ks0:List Int}{x y:Gs}{ks:List Int}{N:Nat}{z:Int×Gs}(hs:sgB s.sg)(h:lqJ s.sg one m x y ks N)(hq:isG s.sg y 4 m=false)(hz:Af s.sg (Au s.sg y m) one z)(hc:isG s.sg z.2 4 [44]=false):
 vlQ s.sg one m ks0 x (ks0++ks++[z.1],Aq s.sg (Au s.sg z.2 [44]) m):=by
 rw[CY hq] at hz
 have a:=a4f h hz hq hc
 refine⟨_,⟨a,?_⟩,?_⟩
 ·have:=MP hs h;simp;omega
 ·simp only[List.append_assoc]
theorem Xs{s:ST}{one:Ps→PR}{m:List UInt8}{ks0:List Int}{x y:Gs}{ks:List Int}{N:Nat}(hs:sgB s.sg)(h:lqJ s.sg one m x y ks N)(hb:y.bad=true):vlQ s.sg one m ks0 x (ks0++ks,y):=by
 refine⟨_,⟨a3J h.1 hb,?_⟩,by simp only[OO hb]⟩
 have:=MP hs h;simp only;omega
theorem Xt{s:ST}{one:Ps→PR}{m:List UInt8}{ks0:List Int}{x y:Gs}{ks:List Int}{N:Nat}(hs:sgB s.sg)(h:lqJ s.sg one m x y ks N)(hq:isG s.sg y 4 m=true):vlQ s.sg one m ks0 x (ks0++ks,Au s.sg y m):=by
 refine⟨_,⟨a3K h.1 hq,?_⟩,by simp only[DM hq,HI hq]⟩
 have:=MP hs h;simp only;omega
theorem Ez{s:ST}{y:Gs}{m:List UInt8}(h:rOk s y):rOk s (Au s.sg y m):=by
 cases hq:isG s.sg y 4 m with
 |true=>rw[DM hq];exact⟨h.1,Fi h.2 (CI hq (by omega)).2⟩
 |false=>rw[CY hq];exact h
theorem Gp{s:ST}{y:Gs}{k:Int}(h:rOk s y)(hk:k≠0):rOk s (Bc s.sg y k):=by
 unfold Bc;split
 ·rename_i hq;exact⟨h.1,Fi h.2 (OK hk hq).2⟩
 ·exact h
theorem Lm{s:ST}{y:Gs}{m:List UInt8}(h:rOk s y):Af s.sg (Au s.sg y m) (BM s.sg) (AB (Bc s.sg (Au s.sg y m) 1),Al (Bc s.sg (Au s.sg y m) 1) ⟨1,Bq s.sg (Au s.sg y m) 1,[],false⟩):=a6g h.1 (Ez h).2
theorem Sn{s:ST}{y:Gs}{m:List UInt8}(h:rOk s y):rOk s (Al (Bc s.sg (Au s.sg y m) 1) ⟨1,Bq s.sg (Au s.sg y m) 1,[],false⟩):=⟨h.1,EM (Lm (m:=m) h)⟩
attribute [local irreducible] pE Bo CF fnR Af Bu gsOk Aq Co Al CJ DJ Au Dr DA AB Cp pkG isG nmG kdG Bc Bq BM vlQ lqJ saI
def Dv:Sig:= {X:=ST×Int×Int×Bool×List Nd,args:=fun x=>[srd x.1 (xg x)],pre:=fun x=>rOk x.1 (xg x),Y:=Unit,post:=fun x y=>True,res:=fun x y=> .bool (arG x.1.sg (xg x)),outs:=fun x y=>[srd x.1 (xg x)],keep:=true}
def OW(x:ST×Int×Int×Bool×List Nd):LS:= {ι:=Int×Nat,inv:=fun i=>saI x.1.sg (xg x).pos i.1 i.2,regs:=fun i=>[(0,srd x.1 (xg x)),(3,.int .i64 i.1)],als:=[],meas:=fun i=>i.2}
theorem a6C:Am G Tryz.prog 226 Dv:=
 vcFun_okP [(171,0,Dt)] [] false (fun x=>[(5,OW x)]) Tryz.func226 rfl (by decide) ⟨MM,trivial⟩ (fun(x:ST×Int×Int×Bool×List Nd)=>True∧cA Dt [srd x.1 (xg x),.int .i64 (4:Int),.str #[(40:UInt8)].toList] fun x_1 y=>Aa (!isG x_1.1.sg (xh x_1) x_1.2.2.2.2.2.1 x_1.2.2.2.2.2.2) (rA Dv x [.bool false,srd x_1.1 (xh x_1)]) (inR IntKind.i64 ((xg x).pos+(1:Int))∧eA (OW x) [srd x_1.1 (xh x_1),.int .i64 ((xg x).pos+(1:Int))]∧∀(i:Int×Nat),saI x.1.sg (xg x).pos i.1 i.2→inR IntKind.i64 (i.1+(1:Int))∧Aa (decide (i.1+(1:Int)<(↑(List.length x.1.sg):Int))) (((0:Int)≤i.1∧i.1<(↑(List.length x.1.sg):Int))∧∀(e:Sg),x.1.sg[Int.toNat i.1]? =some e→Aa (e.kind==(1:Int)) (inR IntKind.i64 (i.1+(1:Int))∧((0:Int)≤i.1+(1:Int)∧i.1+(1:Int)<(↑(List.length x.1.sg):Int))∧∀(e:Sg),x.1.sg[Int.toNat (i.1+(1:Int))]? =some e→Aa (!e.text== #[(44:UInt8)].toList) (inR IntKind.i64 (i.1+(1:Int)+(1:Int))∧Aa (decide (i.1+(1:Int)+(1:Int)<(↑(List.length x.1.sg):Int))) (((0:Int)≤i.1+(1:Int)∧i.1+(1:Int)<(↑(List.length x.1.sg):Int))∧∀(e:Sg),x.1.sg[Int.toNat (i.1+(1:Int))]? =some e→Aa (e.text== #[(41:UInt8)].toList) (((0:Int)≤i.1+(1:Int)∧i.1+(1:Int)<(↑(List.length x.1.sg):Int))∧∀(e:Sg),x.1.sg[Int.toNat (i.1+(1:Int))]? =some e→Aa (e.kind==(4:Int)) (inR IntKind.i64 (i.1+(1:Int)+(1:Int))∧((0:Int)≤i.1+(1:Int)+(1:Int)∧i.1+(1:Int)+(1:Int)<(↑(List.length x.1.sg):Int))∧∀(e:Sg),x.1.sg[Int.toNat (i.1+(1:Int)+(1:Int))]? =some e→Aa (e.text== #[(61:UInt8),(62:UInt8)].toList) (inR IntKind.i64 (i.1+(1:Int)+(1:Int))∧((0:Int)≤i.1+(1:Int)+(1:Int)∧i.1+(1:Int)+(1:Int)<(↑(List.length x.1.sg):Int))∧∀(e:Sg),x.1.sg[Int.toNat (i.1+(1:Int)+(1:Int))]? =some e→rA Dv x [.bool (e.kind==(4:Int)),srd x.1 (xg x)]) (rA Dv x [.bool false,srd x.1 (xg x)])) (rA Dv x [.bool false,srd x.1 (xg x)])) (rA Dv x [.bool false,srd x.1 (xg x)])) (rA Dv x [.bool false,srd x.1 (xg x)])) (inR IntKind.i64 (i.1+(1:Int)+(1:Int))∧eN (OW x) i [srd x.1 (xg x),.int .i64 (i.1+(1:Int)+(1:Int))])) (inR IntKind.i64 (i.1+(1:Int))∧Aa (decide (i.1+(1:Int)<(↑(List.length x.1.sg):Int))) (((0:Int)≤i.1∧i.1<(↑(List.length x.1.sg):Int))∧∀(e:Sg),x.1.sg[Int.toNat i.1]? =some e→Aa (e.text== #[(41:UInt8)].toList) (((0:Int)≤i.1∧i.1<(↑(List.length x.1.sg):Int))∧∀(e:Sg),x.1.sg[Int.toNat i.1]? =some e→Aa (e.kind==(4:Int)) (inR IntKind.i64 (i.1+(1:Int))∧((0:Int)≤i.1+(1:Int)∧i.1+(1:Int)<(↑(List.length x.1.sg):Int))∧∀(e:Sg),x.1.sg[Int.toNat (i.1+(1:Int))]? =some e→Aa (e.text== #[(61:UInt8),(62:UInt8)].toList) (inR IntKind.i64 (i.1+(1:Int))∧((0:Int)≤i.1+(1:Int)∧i.1+(1:Int)<(↑(List.length x.1.sg):Int))∧∀(e:Sg),x.1.sg[Int.toNat (i.1+(1:Int))]? =some e→rA Dv x [.bool (e.kind==(4:Int)),srd x.1 (xg x)]) (rA Dv x [.bool false,srd x.1 (xg x)])) (rA Dv x [.bool false,srd x.1 (xg x)])) (rA Dv x [.bool false,srd x.1 (xg x)])) (rA Dv x [.bool false,srd x.1 (xg x)]))) (inR IntKind.i64 (i.1+(1:Int))∧Aa (decide (i.1+(1:Int)<(↑(List.length x.1.sg):Int))) (((0:Int)≤i.1∧i.1<(↑(List.length x.1.sg):Int))∧∀(e:Sg),x.1.sg[Int.toNat i.1]? =some e→Aa (e.text== #[(41:UInt8)].toList) (((0:Int)≤i.1∧i.1<(↑(List.length x.1.sg):Int))∧∀(e:Sg),x.1.sg[Int.toNat i.1]? =some e→Aa (e.kind==(4:Int)) (inR IntKind.i64 (i.1+(1:Int))∧((0:Int)≤i.1+(1:Int)∧i.1+(1:Int)<(↑(List.length x.1.sg):Int))∧∀(e:Sg),x.1.sg[Int.toNat (i.1+(1:Int))]? =some e→Aa (e.text== #[(61:UInt8),(62:UInt8)].toList) (inR IntKind.i64 (i.1+(1:Int))∧((0:Int)≤i.1+(1:Int)∧i.1+(1:Int)<(↑(List.length x.1.sg):Int))∧∀(e:Sg),x.1.sg[Int.toNat (i.1+(1:Int))]? =some e→rA Dv x [.bool (e.kind==(4:Int)),srd x.1 (xg x)]) (rA Dv x [.bool false,srd x.1 (xg x)])) (rA Dv x [.bool false,srd x.1 (xg x)])) (rA Dv x [.bool false,srd x.1 (xg x)])) (rA Dv x [.bool false,srd x.1 (xg x)])))) (fun x=>by kernel_rfl) fun(x:ST×Int×Int×Bool×List Nd) (hx:rOk x.1 (xg x))=>(by
 dsimp only[cA,eA,eN,OW,Bx,AX,rA,Dv,Dt,CE,sgs,srd,Az,AC,mvL,lnL,mvE,lnE,Bt]
 obtain⟨s,p,d,b,ns⟩:=x;dsimp only[xg,xh] at hx ⊢
 have hx:rOk s ⟨p,d,b,ns⟩:=hx;have hs:=FG hx;dsimp only at hs
 (repeat' first|(with_reducible first|rfl|exact True.intro|apply AN|apply And.intro|((first|apply AD|apply AL|apply AE|apply AM)<;>intro _))|(apply AA<;>intro _)|apply AK|refine Ae () ?_ ?_|((first|apply AR|apply AQ|apply AP|apply AO|apply AJ|apply AI|apply AH|apply AG|apply AF)<;>try dsimp only)|apply Ae|(refine Prod.forall.2 ?_;intro _;try dsimp only)|(intro _;try dsimp only))
 all_goals(try dsimp only[xg,xh,yG,yS,iG] at*)
 all_goals first
  |(show Nat;skip)
  |rfl
  |exact hx
  |exact a6w hs.1.1.1 hs.1.1.2
  |exact a6A (x:=⟨p,d,b,ns⟩) ‹_›
  |exact(Xn hs.1.1.1 ‹_› ‹_› (Xo ‹_› ‹_›) (Xp ‹_› ‹_›)).1
  |(have hq:=a6v (show saI _ _ _ _ by assumption);(try simp only[AU]);omega)
  |omega
  |skip
 all_goals first
  |exact(Xn hs.1.1.1 ‹_› ‹_› (Xo ‹_› ‹_›) (Xp ‹_› ‹_›)).2
  |skip
 all_goals(repeat(rename s.sg[_]? =some _=>hq;have hq2:=HA hq;clear hq;subst hq2))
 all_goals first
  |(refine Sm (x:=⟨p,d,b,ns⟩) ‹_› (a6x ‹_› ‹_› ‹_› ‹_›) ?_;rw[Bool.eq_iff_iff];simp [Ew,HE, *];done)
  |(refine Sm (x:=⟨p,d,b,ns⟩) ‹_› (a6y ‹_› ‹_›) ?_;rw[Bool.eq_iff_iff];simp [Ew,HE, *];done)
  |(refine Sm (x:=⟨p,d,b,ns⟩) ‹_› (a6z ‹_› ‹_›) ?_;rw[Bool.eq_iff_iff];simp [Ew,HE, *];done)
  |skip)
def Fl(n:Nat):Sig:= {X:=ST×Int×Int×Bool×List Nd×List UInt8×List Int,args:=fun x=>[srd x.1 (xh x),.str x.2.2.2.2.2.1,Ag x.2.2.2.2.2.2],pre:=fun x=>wQ 11 n x.1 (xh x)∧x.2.2.2.2.2.2.length≤1,Y:=List Int×Int×Int×Bool×List Nd,post:=fun x y=>vlQ x.1.sg (pE x.1.sg n .value) x.2.2.2.2.2.1 x.2.2.2.2.2.2 (xh x) (yS y),res:=fun x y=>Ag y.1,outs:=fun x y=>[srd x.1 (yG y.2),.top,.top],keep:=true}
def OX(n:Nat)(x:ST×Int×Int×Bool×List Nd×List UInt8×List Int):LS:= {ι:=Int×Int×Bool×List Nd×List Int×Nat,inv:=fun i=>lqJ x.1.sg (pE x.1.sg n .value) x.2.2.2.2.2.1 (xh x) (iG i) i.2.2.2.2.1 i.2.2.2.2.2,regs:=fun i=>[(0,srd x.1 (iG i)),(1,.str x.2.2.2.2.2.1),(2,Ag (x.2.2.2.2.2.2++i.2.2.2.2.1))],als:=[],meas:=fun i=>i.2.2.2.2.2}
theorem So(n:Nat)(h:qAll G n):Am G Tryz.prog 188 (Fl n):=
 vcFun_okP [(142,0,BO),(172,0,(JP n)),(141,0,BB)] [(26,⟨Int,Bi⟩)] false (fun x=>[(1,OX n x)]) Tryz.func188 rfl (by decide) ⟨Gm,h.val,GL,trivial⟩ (fun(x:ST×Int×Int×Bool×List Nd×List UInt8×List Int)=>True∧eA (OX n x) [srd x.1 (xh x),.str x.2.2.2.2.2.1,Ag x.2.2.2.2.2.2]∧∀(i:Int×Int×Bool×List Nd×List Int×Nat),lqJ x.1.sg (pE x.1.sg n NT.value) x.2.2.2.2.2.1 (xh x) (iG i) i.2.2.2.2.1 i.2.2.2.2.2→Aa (!(iG i).bad) (cA BO [srd x.1 (iG i),.str x.2.2.2.2.2.1] fun x_1 y=>Aa (!isG x_1.1.sg (xh x_1) (4:Int) x_1.2.2.2.2.2) (cA (JP n) [srd x_1.1 (Au x_1.1.sg (xh x_1) x_1.2.2.2.2.2)] fun x_2 y=>∃(x_3:Int),y.1=x_3∧∃(zs:List Int),Ag [x_3]=Ag zs∧Cd Bi∧Bf (List.length (x.2.2.2.2.2.2++i.2.2.2.2.1)+List.length zs) (8:Nat)∧cA BO [srd x_2.1 (yG y.2),.str #[(44:UInt8)].toList] fun x_4 y=>Aa (!isG x_4.1.sg (xh x_4) (4:Int) x_4.2.2.2.2.2) (cA BB [srd x_4.1 (Au x_4.1.sg (xh x_4) x_4.2.2.2.2.2),.str x.2.2.2.2.2.1] fun x_5 y=>rA (Fl n) x [Ag (x.2.2.2.2.2.2++i.2.2.2.2.1++zs),srd x_5.1 (Aq x_5.1.sg (xh x_5) x_5.2.2.2.2.2),.top,.top]) (eN (OX n x) i [srd x_4.1 (Au x_4.1.sg (xh x_4) x_4.2.2.2.2.2),.str x.2.2.2.2.2.1,Ag (x.2.2.2.2.2.2++i.2.2.2.2.1++zs)])) (rA (Fl n) x [Ag (x.2.2.2.2.2.2++i.2.2.2.2.1),srd x_1.1 (Au x_1.1.sg (xh x_1) x_1.2.2.2.2.2),.top,.top])) (rA (Fl n) x [Ag (x.2.2.2.2.2.2++i.2.2.2.2.1),srd x.1 (iG i),.top,.top])) (fun x=>by kernel_rfl) fun(x:ST×Int×Int×Bool×List Nd×List UInt8×List Int) (hx:wQ 11 n x.1 (xh x)∧x.2.2.2.2.2.2.length≤1)=>(by
 dsimp only[cA,eA,eN,OX,Bx,Ag,AX,rA,BO,JP,Fl,BB,CE,sgs,srd,Az,AC,mvL,lnL,mvE,lnE,Bt]
 obtain⟨s,p,d,b,ns,m,ks0⟩:=x;dsimp only[xg,xh] at hx ⊢
 obtain⟨hx,hk0⟩:=hx
 have hx:wQ 11 n s ⟨p,d,b,ns⟩:=hx
 have hs:=hx.1.1.1.1;have h1:=hx.1.1.1
 (repeat' first|(with_reducible first|rfl|exact True.intro|apply AN|apply And.intro|((first|apply AD|apply AL|apply AE|apply AM)<;>intro _))|(apply AA<;>intro _)|apply AK|refine Ae () ?_ ?_|((first|apply AR|apply AQ|apply AP|apply AO|apply AJ|apply AI|apply AH|apply AG|apply AF)<;>try dsimp only)|apply Ae|(refine Prod.forall.2 ?_;intro _;try dsimp only)|(intro _;try dsimp only))
 all_goals(try dsimp only[xg,xh,yG,yS,iG] at*)
 all_goals(try simp only[Fj] at*)
 all_goals first
  |(show Nat;skip)
  |rfl
  |exact h1
  |exact Xq h1.2
  |exact HJ hs ‹_›
  |exact a6B hx ‹_› ‹_› ‹_›
  |exact Ei h1 ‹_›
  |exact Ez (Ei h1 ‹_›)
  |exact(OV ‹_› ‹_› ‹_› ‹_›).1
  |exact Xr hs ‹_› ‹_› ‹_› ‹_›
  |exact Xs hs ‹_› ‹_›
  |exact Xt hs ‹_› ‹_›
  |(simp;done)
  |(have hq:=MP hs (show lqJ _ _ _ _ _ _ _ by assumption);(try simp only[Bf,List.length_append,List.length_cons,List.length_nil]);omega)
  |skip
 all_goals first
  |exact(OV ‹_› ‹_› ‹_› ‹_›).2
  |(simp;done)
  |skip)
def Fm:Sig:= {X:=ST×Int×Int×Bool×List Nd,args:=fun x=>[srd x.1 (xg x)],pre:=fun x=>rOk x.1 (xg x),Y:=List Int×Int×Int×Bool×List Nd,post:=fun x y=>vlQ x.1.sg (BM x.1.sg) [41] [] (Aq x.1.sg (xg x) [40]) (yS y),res:=fun x y=>Ag y.1,outs:=fun x y=>[srd x.1 (yG y.2)],keep:=true}
def OY(x:ST×Int×Int×Bool×List Nd):LS:= {ι:=Int×Int×Bool×List Nd×List Int×Nat,inv:=fun i=>lqJ x.1.sg (BM x.1.sg) [41] (Aq x.1.sg (xg x) [40]) (iG i) i.2.2.2.2.1 i.2.2.2.2.2,regs:=fun i=>[(0,srd x.1 (iG i)),(3,Ag i.2.2.2.2.1)],als:=[],meas:=fun i=>i.2.2.2.2.2}
theorem Sp:Am G Tryz.prog 143 Fm:=
 vcFun_okP [(142,0,BO),(141,0,BB),(117,0,Bg),(138,0,Ci)] [(26,⟨Int,Bi⟩)] false (fun x=>[(3,OY x)]) Tryz.func143 rfl (by decide) ⟨Gm,GL,Gn,IG,trivial⟩ (fun(x:ST×Int×Int×Bool×List Nd)=>True∧cA BB [srd x.1 (xg x),.str #[(40:UInt8)].toList] fun x_1 y=>eA (OY x) [srd x_1.1 (Aq x_1.1.sg (xh x_1) x_1.2.2.2.2.2),Ag []]∧∀(i:Int×Int×Bool×List Nd×List Int×Nat),lqJ x.1.sg (BM x.1.sg) [(41:UInt8)] (Aq x.1.sg (xg x) [(40:UInt8)]) (iG i) i.2.2.2.2.1 i.2.2.2.2.2→Aa (!(iG i).bad) (cA BO [srd x.1 (iG i),.str #[(41:UInt8)].toList] fun x_2 y=>Aa (!isG x_2.1.sg (xh x_2) (4:Int) x_2.2.2.2.2.2) (cA Ci [srd x_2.1 (Au x_2.1.sg (xh x_2) x_2.2.2.2.2.2),.int .i64 (1:Int)] fun x_3 y=>cA Bg [srd x_3.1 (Bc x_3.1.sg (xh x_3) x_3.2.2.2.2.2),.int .i64 (1:Int),.str (Bq x_3.1.sg (xh x_3) x_3.2.2.2.2.2),Ag []] fun x_4 y=>∃(x_5:Int),AB (xh x_4)=x_5∧∃(zs:List Int),Ag [x_5]=Ag zs∧Cd Bi∧Bf (List.length i.2.2.2.2.1+List.length zs) (8:Nat)∧cA BO [srd x_4.1 (Al (xh x_4) {kind:=x_4.2.2.2.2.2.1,text:=x_4.2.2.2.2.2.2.1,kids:=x_4.2.2.2.2.2.2.2,blank:=false}),.str #[(44:UInt8)].toList] fun x_6 y=>Aa (!isG x_6.1.sg (xh x_6) (4:Int) x_6.2.2.2.2.2) (cA BB [srd x_6.1 (Au x_6.1.sg (xh x_6) x_6.2.2.2.2.2),.str #[(41:UInt8)].toList] fun x_7 y=>rA Fm x [Ag (i.2.2.2.2.1++zs),srd x_7.1 (Aq x_7.1.sg (xh x_7) x_7.2.2.2.2.2)]) (eN (OY x) i [srd x_6.1 (Au x_6.1.sg (xh x_6) x_6.2.2.2.2.2),Ag (i.2.2.2.2.1++zs)])) (rA Fm x [Ag i.2.2.2.2.1,srd x_2.1 (Au x_2.1.sg (xh x_2) x_2.2.2.2.2.2)])) (rA Fm x [Ag i.2.2.2.2.1,srd x.1 (iG i)])) (fun x=>by kernel_rfl) fun(x:ST×Int×Int×Bool×List Nd) (hx:rOk x.1 (xg x))=>(by
 dsimp only[cA,eA,eN,OY,Bx,Ag,AX,rA,BO,Fm,Bg,Ci,BB,CE,sgs,srd,Az,AC,mvL,lnL,mvE,lnE,Bt]
 obtain⟨s,p,d,b,ns⟩:=x;dsimp only[xg,xh] at hx ⊢
 have h1:rOk s ⟨p,d,b,ns⟩:=hx;have hs:=h1.1
 have t:=FK (m:=[40]) h1
 (repeat' first|(with_reducible first|rfl|exact True.intro|apply AN|apply And.intro|((first|apply AD|apply AL|apply AE|apply AM)<;>intro _))|(apply AA<;>intro _)|apply AK|refine Ae () ?_ ?_|((first|apply AR|apply AQ|apply AP|apply AO|apply AJ|apply AI|apply AH|apply AG|apply AF)<;>try dsimp only)|apply Ae|(refine Prod.forall.2 ?_;intro _;try dsimp only)|(intro _;try dsimp only))
 all_goals(try dsimp only[xg,xh,yG,yS,iG] at*)
 all_goals(try simp only[Fj] at*)
 all_goals first
  |(show Nat;skip)
  |rfl
  |exact h1
  |omega
  |exact Xq t.1.2
  |exact HJ hs ‹_›
  |exact Ez (HJ hs ‹_›)
  |exact Gp (Ez (HJ hs ‹_›)) (by omega)
  |exact Sn (HJ hs ‹_›)
  |exact Ez (Sn (HJ hs ‹_›))
  |exact(OV ‹_› ‹_› (Lm (HJ hs ‹_›)) ‹_›).1
  |exact Xr (ks0:=[]) hs ‹_› ‹_› (Lm (HJ hs ‹_›)) ‹_›
  |exact Xs (ks0:=[]) hs ‹_› ‹_›
  |exact Xt (ks0:=[]) hs ‹_› ‹_›
  |(have hq:=MP hs (show lqJ _ _ _ _ _ _ _ by assumption);(try simp only[Bf,List.length_append,List.length_cons,List.length_nil]);omega)
  |skip
 all_goals first
  |exact(OV ‹_› ‹_› (Lm (HJ hs ‹_›)) ‹_›).2
  |skip)
end Go.My
end
section
set_option linter.unusedVariables false
set_option linter.unusedSimpArgs false
namespace Go.My
open Go.Eng Go.Proofs
variable {G:GInv}
theorem HK{sg:List Sg}{x:Gs}{k:Int}(h:kdG sg x k=false)(hk:k≠1):(pkG sg x 0).kind≠k:=by
 rw[MN hk] at h;simpa using h
theorem a6D{sg:List Sg}{x:Gs}{n:Nat}{k:Int}{y:Gs}(hs:sgB sg)(h:gsOk sg x)(h1:kdG sg x 1=false)(hk:(pkG sg x 0).kind=1)(hy:y=Bn x):Af sg x (pE sg (n+1) .base) (k,y):=by
 have a:=Wy (n:=n) hs h hk
 rw[Hj] at h1
 rw[DA,Dr,if_neg (by simp [h1]),if_neg (by simp [h1])] at a
 subst hy
 exact Lk a h rfl (Int.le_refl _) rfl (fun hb=>by simp [Bn] at hb)
theorem a6E{sg:List Sg}{x:Gs}{n:Nat}(hs:sgB sg)(h:gsOk sg x)(h1:kdG sg x 1=true):Af sg x (pE sg (n+1) .base) (AB (Bc sg x 1),Al (Bc sg x 1) ⟨1,Bq sg x 1,[],false⟩):=by
 have hn:=h1
 rw[Hj] at hn
 have a:=Wy (n:=n) hs h (by simp [nmG] at hn;exact hn.1)
 rw[DA,Dr,if_pos hn,if_pos hn] at a
 exact Ll hs h (by omega) h1 a
theorem Xu{sg:List Sg}{x:Gs}{n:Nat}{k:Int}(hs:sgB sg)(h:gsOk sg x)(hk:k=2∨k=3)(h1:kdG sg x k=true):Af sg x (pE sg (n+1) .base) (AB (Bc sg x k),Al (Bc sg x k) ⟨k,Bq sg x k,[],false⟩):=by
 have hn:=h1
 rw[MN (by omega)] at hn
 exact Ll hs h (by omega) h1 (a3Z hs h (by simpa using hn) hk)
theorem Sq{sg:List Sg}{x:Gs}{m:List UInt8}(hq:isG sg x 4 m=true):(pkG sg x 0).kind≠1:=by
 simp [isG] at hq;rw[hq.1];omega
theorem a6F{s:ST}{x:Gs}{n:Nat}{v:List Int×Gs}(h:rOk s x)(h1:kdG s.sg x 1=false)(h2:kdG s.sg x 2=false)(h3:kdG s.sg x 3=false)(hq:isG s.sg x 4 [91]=true)(hv:vlQ s.sg (pE s.sg n .value) [93] [] (Au s.sg x [91]) v):
 Af s.sg x (pE s.sg (n+1) .base) (AB v.2,Al v.2 ⟨4,[],v.1,false⟩):=by
 rw[DM hq] at hv
 obtain⟨l,⟨a,b⟩,rfl⟩:=hv
 exact GM a.1 ⟨by simp,by simp;omega⟩ (a4a h.2 (Sq hq) (HK h2 (by omega)) (HK h3 (by omega)) hq a b)
theorem a6G{s:ST}{x:Gs}{n:Nat}{v:List Int×Gs}{z:Int×Gs}(hm:sgM s.sg)(h:rOk s x)(h1:kdG s.sg x 1=false)(h2:kdG s.sg x 2=false)(h3:kdG s.sg x 3=false)(hn:isG s.sg x 4 [91]=false)(ha:arG s.sg (Au s.sg x [91])=true)
 (hv:vlQ s.sg (BM s.sg) [41] [] (Aq s.sg (Au s.sg x [91]) [40]) v) (hz:Af s.sg (Aq s.sg v.2 [61,62]) (pE s.sg n .pick) z):Af s.sg x (pE s.sg (n+1) .base) (AB z.2,Al z.2 ⟨9,[],v.1++[z.1],false⟩):=by
 rw[CY hn] at ha hv
 simp only[arG,Bool.and_eq_true] at ha
 obtain⟨l,⟨a,b⟩,rfl⟩:=hv
 refine a6t hm h.2 (Sq ha.1) (HK h2 (by omega)) (HK h3 (by omega)) hn ha.1 (fun s0 hs=> ?_) (a4d (l:=l) h.2 a b hz)
 obtain⟨_,rfl⟩:=DX.1 hs;exact ha.2
theorem a6H{s:ST}{x:Gs}{n:Nat}{z:Int×Gs}(hm:sgM s.sg)(h:rOk s x)(h1:kdG s.sg x 1=false)(h2:kdG s.sg x 2=false)(h3:kdG s.sg x 3=false)(hn:isG s.sg x 4 [91]=false)(ha:arG s.sg (Au s.sg x [91])=false)(hb:(Aq s.sg (Au s.sg x [91]) [40]).bad=false)
 (hz:Af s.sg (Aq s.sg (Au s.sg x [91]) [40]) (pE s.sg n .value) z):Af s.sg x (pE s.sg (n+1) .base) (AB (Aq s.sg z.2 [41]),Al (Aq s.sg z.2 [41]) ⟨11,[],[z.1],false⟩):=by
 rw[CY hn] at ha hb hz
 have hq:isG s.sg x 4 [40]=true:=by
  cases hq:isG s.sg x 4 [40] with
  |true=>rfl
  |false=>rw[MO hq] at hb;cases hb
 rw[HI hq] at hz
 simp only[arG,hq,Bool.true_and] at ha
 refine a6u hm h.2 (Sq hq) (HK h2 (by omega)) (HK h3 (by omega)) hn hq (fun s0 hs=> ?_) hz
 obtain⟨_,rfl⟩:=DX.1 hs;exact ha
theorem a6I{s:ST}{x:Gs}{n:Nat}{k:Int}(h:rOk s x)(h1:kdG s.sg x 1=false)(h2:kdG s.sg x 2=false)(h3:kdG s.sg x 3=false)(hn:isG s.sg x 4 [91]=false)(hx:x.bad=false)(hb:(Aq s.sg (Au s.sg x [91]) [40]).bad=true):
 Af s.sg x (pE s.sg (n+1) .base) (k,Aq s.sg (Au s.sg x [91]) [40]):=by
 rw[CY hn] at hb ⊢
 have hq:isG s.sg x 4 [40]=false:=by
  cases hq:isG s.sg x 4 [40] with
  |false=>rfl
  |true=>rw[HI hq] at hb;simp only[An] at hb;rw[hx] at hb;cases hb
 rw[MO hq]
 rcases Classical.em ((pkG s.sg x 0).kind=1) with e|e
 ·exact a6D h.1 h.2 h1 e rfl
 ·exact a4c h.2 e (HK h2 (by omega)) (HK h3 (by omega)) hn hq
theorem a6J{s:ST}{x:Gs}{n:Nat}(hx:wQ 1 (n+1) s x)(hq:isG s.sg x 4 [91]=true):wQ 11 n s (Au s.sg x [91]):=by
 rw[DM hq];exact⟨(Wz hq (by omega) hx.1.1.1 hx.1.1.2 hx.1.2 (by omega)).1,hx.2⟩
theorem a6K{s:ST}{x:Gs}{n:Nat}{v:List Int×Gs}(hx:wQ 1 (n+1) s x)(hn:isG s.sg x 4 [91]=false)(ha:arG s.sg (Au s.sg x [91])=true)(hv:vlQ s.sg (BM s.sg) [41] [] (Aq s.sg (Au s.sg x [91]) [40]) v):vQ 10 n s (Aq s.sg v.2 [61,62]):=by
 rw[CY hn] at ha hv
 simp only[arG,Bool.and_eq_true] at ha
 obtain⟨l,a,rfl⟩:=hv
 exact⟨a4l (x:=x) (n:=n) (l:=l) hx.1.1.1 (hx.1.1.2 (CI ha.1 (by omega)).1) ha.1 (by have:=hx.1.2;omega) a,hx.2⟩
theorem a6L{s:ST}{x:Gs}{n:Nat}(hx:wQ 1 (n+1) s x)(hn:isG s.sg x 4 [91]=false)(hb:(Aq s.sg (Au s.sg x [91]) [40]).bad=false):vQ 11 n s (Aq s.sg (Au s.sg x [91]) [40]):=by
 rw[CY hn] at hb ⊢
 have hq:isG s.sg x 4 [40]=true:=by
  cases hq:isG s.sg x 4 [40] with
  |true=>rfl
  |false=>rw[MO hq] at hb;cases hb
 rw[HI hq];exact⟨(Wz hq (by omega) hx.1.1.1 hx.1.1.2 hx.1.2 (by omega)).2,hx.2⟩
theorem Sr{s:ST}{one:Ps→PR}{m:List UInt8}{ks0:List Int}{x:Gs}{y:List Int×Gs}(hs:sgB s.sg)(h:vlQ s.sg one m ks0 x y):rOk s y.2:=(Sl hs h).1
theorem Ss{s:ST}{one:Ps→PR}{m:List UInt8}{ks0:List Int}{x:Gs}{y:List Int×Gs}(hs:sgB s.sg)(h:vlQ s.sg one m ks0 x y):y.1.length≤ks0.length+3001:=(Sl hs h).2.1
def eqJ(sg:List Sg)(n:Nat)(x y:Gs)(k:Int)(N:Nat):Prop:=enI sg n x y k N∧(y.bad=false→y.deep≤20)
theorem a6M{s:ST}{x:Gs}{n:Nat}{z:Int×Gs}(hx:wQ 2 (n+1) s x)(hz:Af s.sg x (pE s.sg n .base) z):eqJ s.sg n x z.2 z.1 (s.sg.length+1):=a4n hx.1.1.1 hx.1.1.2 hz
theorem Xv{s:ST}{x y:Gs}{n:Nat}{k:Int}{N:Nat}(hx:wQ 2 (n+1) s x)(h:eqJ s.sg n x y k N):rOk s y:=⟨hx.1.1.1.1,h.1.1.1⟩
theorem a6N{s:ST}{x y:Gs}{n:Nat}{k:Int}{N:Nat}(hx:wQ 2 (n+1) s x)(h:eqJ s.sg n x y k N)(hq:isG s.sg y 4 [40]=true):wQ 11 n s (Au s.sg y [40]):=by
 have hb:=(CI hq (by omega)).1
 have:=h.1.2.2 hb;have:=hx.1.2
 have hl:=CI hq (by omega)
 rw[DM hq]
 have e1:(An y).pos=y.pos+1:=rfl
 have e2:(An y).deep=y.deep:=rfl
 exact⟨⟨⟨⟨hx.1.1.1.1,Fi h.1.1.1 hl.2⟩,fun _=>by rw[e2];exact h.2 hb⟩,by omega⟩,hx.2⟩
theorem Xw{s:ST}{x y:Gs}{n:Nat}{k:Int}{N:Nat}{v:List Int×Gs}(hx:wQ 2 (n+1) s x)(h:eqJ s.sg n x y k N)(hq:isG s.sg y 4 [40]=true)(hv:vlQ s.sg (pE s.sg n .value) [41] [k] (Au s.sg y [40]) v):
 eqJ s.sg n x (Al v.2 ⟨5,[],v.1,false⟩) (AB v.2) (N-1)∧N-1<N:=by
 rw[DM hq,←HI hq] at hv
 have hw:=Xm h.1.1.1 hv
 exact a4o h hw hq
theorem Xx{s:ST}{x y:Gs}{n:Nat}{k:Int}{N:Nat}(hx:wQ 2 (n+1) s x)(h:eqJ s.sg n x y k N)(hp:isG s.sg y 4 [40]=false)(hq:isG s.sg (Au s.sg y [40]) 4 [46]=true):
 eqJ s.sg n x (Al (Bc s.sg (Au s.sg (Au s.sg y [40]) [46]) 1) ⟨6,Bq s.sg (Au s.sg (Au s.sg y [40]) [46]) 1,[k],false⟩) (AB (Bc s.sg (Au s.sg (Au s.sg y [40]) [46]) 1)) (N-1)∧N-1<N:=by
 rw[CY hp] at hq ⊢
 rw[DM hq]
 obtain⟨a,b⟩:=a6p hx.1.1.1.1 h.1 hp hq
 refine⟨⟨a,fun _=> ?_⟩,b⟩
 rw[RV]
 have:=h.2 (CI hq (by omega)).1
 have e:(Bc s.sg (An y) 1).deep=y.deep:=by unfold Bc;split<;>rfl
 omega
theorem Su{s:ST}{x y:Gs}{n:Nat}{k:Int}{N:Nat}(hx:wQ 2 (n+1) s x)(h:eqJ s.sg n x y k N):rOk s (Au s.sg y [40])∧rOk s (Au s.sg (Au s.sg y [40]) [46])∧rOk s (Bc s.sg (Au s.sg (Au s.sg y [40]) [46]) 1):=
 have a:=Ez (m:=[40]) (Xv hx h)
 ⟨a,Ez a,Gp (Ez a) (by omega)⟩
theorem a6O{s:ST}{x y:Gs}{n:Nat}{k:Int}{N:Nat}(h:eqJ s.sg n x y k N)(hb:y.bad=true):Af s.sg x (pE s.sg (n+1) .fin) (k,y):=a3U h.1 hb
theorem a6P{s:ST}{x y:Gs}{n:Nat}{k:Int}{N:Nat}(h:eqJ s.sg n x y k N)(hb:y.bad=false)(hp:isG s.sg y 4 [40]=false)(hq:isG s.sg (Au s.sg y [40]) 4 [46]=false):Af s.sg x (pE s.sg (n+1) .fin) (k,Au s.sg (Au s.sg y [40]) [46]):=by
 rw[CY hp] at hq ⊢
 rw[CY hq];exact a3Y h.1 hb hp hq
attribute [local irreducible] pE Bo CF fnR Af Bu gsOk Aq Co Al CJ DJ Au Dr DA AB Cp pkG isG nmG kdG Bc Bq BM vlQ lqJ saI arG eqJ
def Hk(n:Nat):Sig:= {X:=ST×Int×Int×Bool×List Nd,args:=fun x=>[srd x.1 (xg x)],pre:=fun x=>wQ 1 (n+1) x.1 (xg x),Y:=Int×Int×Int×Bool×List Nd,post:=fun x y=>Af x.1.sg (xg x) (pE x.1.sg (n+1) .base) (yS y),res:=fun x y=> .int .i64 y.1,outs:=fun x y=>[srd x.1 (yG y.2)],keep:=true}
theorem a6Q(n:Nat)(h:qAll G n):Am G Tryz.prog 222 (Hk n):=
 vcFun_okP [(137,0,Du),(138,0,Ci),(117,0,Bg),(142,0,BO),(188,0,(Fl n)),(226,0,Dv),(143,0,Fm),(141,0,BB),(187,0,(FL n)),(172,0,(JP n))] [(26,⟨Int,Bi⟩)] false (fun x=>[]) Tryz.func222 rfl (by decide) ⟨OL,IG,Gn,Gm,(So n h),a6C,Sp,GL,h.pick,h.val,trivial⟩ (fun(x:ST×Int×Int×Bool×List Nd)=>True∧Aa (xg x).bad (rA (Hk n) x [.int .i64 (0:Int),srd x.1 (xg x)]) (cA Du [srd x.1 (xg x),.int .i64 (1:Int)] fun x_1 y=>Aa (kdG x_1.1.sg (xh x_1) x_1.2.2.2.2.2) (cA Ci [srd x_1.1 (xh x_1),.int .i64 (1:Int)] fun x_2 y=>cA Bg [srd x_2.1 (Bc x_2.1.sg (xh x_2) x_2.2.2.2.2.2),.int .i64 (1:Int),.str (Bq x_2.1.sg (xh x_2) x_2.2.2.2.2.2),Ag []] fun x_3 y=>rA (Hk n) x [.int .i64 (AB (xh x_3)),srd x_3.1 (Al (xh x_3) {kind:=x_3.2.2.2.2.2.1,text:=x_3.2.2.2.2.2.2.1,kids:=x_3.2.2.2.2.2.2.2,blank:=false})]) (cA Du [srd x_1.1 (xh x_1),.int .i64 (2:Int)] fun x_2 y=>Aa (kdG x_2.1.sg (xh x_2) x_2.2.2.2.2.2) (cA Ci [srd x_2.1 (xh x_2),.int .i64 (2:Int)] fun x_3 y=>cA Bg [srd x_3.1 (Bc x_3.1.sg (xh x_3) x_3.2.2.2.2.2),.int .i64 (2:Int),.str (Bq x_3.1.sg (xh x_3) x_3.2.2.2.2.2),Ag []] fun x_4 y=>rA (Hk n) x [.int .i64 (AB (xh x_4)),srd x_4.1 (Al (xh x_4) {kind:=x_4.2.2.2.2.2.1,text:=x_4.2.2.2.2.2.2.1,kids:=x_4.2.2.2.2.2.2.2,blank:=false})]) (cA Du [srd x_2.1 (xh x_2),.int .i64 (3:Int)] fun x_3 y=>Aa (kdG x_3.1.sg (xh x_3) x_3.2.2.2.2.2) (cA Ci [srd x_3.1 (xh x_3),.int .i64 (3:Int)] fun x_4 y=>cA Bg [srd x_4.1 (Bc x_4.1.sg (xh x_4) x_4.2.2.2.2.2),.int .i64 (3:Int),.str (Bq x_4.1.sg (xh x_4) x_4.2.2.2.2.2),Ag []] fun x_5 y=>rA (Hk n) x [.int .i64 (AB (xh x_5)),srd x_5.1 (Al (xh x_5) {kind:=x_5.2.2.2.2.2.1,text:=x_5.2.2.2.2.2.2.1,kids:=x_5.2.2.2.2.2.2.2,blank:=false})]) (cA BO [srd x_3.1 (xh x_3),.str #[(91:UInt8)].toList] fun x_4 y=>Aa (isG x_4.1.sg (xh x_4) (4:Int) x_4.2.2.2.2.2) (cA (Fl n) [srd x_4.1 (Au x_4.1.sg (xh x_4) x_4.2.2.2.2.2),.str #[(93:UInt8)].toList,Ag []] fun x_5 y=>cA Bg [srd x_5.1 (yG y.2),.int .i64 (4:Int),.str #[].toList,Ag y.1] fun x_6 y=>rA (Hk n) x [.int .i64 (AB (xh x_6)),srd x_6.1 (Al (xh x_6) {kind:=x_6.2.2.2.2.2.1,text:=x_6.2.2.2.2.2.2.1,kids:=x_6.2.2.2.2.2.2.2,blank:=false})]) (cA Dv [srd x_4.1 (Au x_4.1.sg (xh x_4) x_4.2.2.2.2.2)] fun x_5 y=>Aa (arG x_5.1.sg (xg x_5)) (cA Fm [srd x_5.1 (xg x_5)] fun x_6 y=>cA BB [srd x_6.1 (yG y.2),.str #[(61:UInt8),(62:UInt8)].toList] fun x_7 y_1=>cA (FL n) [srd x_7.1 (Aq x_7.1.sg (xh x_7) x_7.2.2.2.2.2)] fun x_8 y_2=>∃(x_9:Int),y_2.1=x_9∧∃(zs:List Int),Ag [x_9]=Ag zs∧Cd Bi∧Bf (List.length y.1+List.length zs) (8:Nat)∧cA Bg [srd x_8.1 (yG y_2.2),.int .i64 (9:Int),.str #[].toList,Ag (y.1++zs)] fun x_10 y=>rA (Hk n) x [.int .i64 (AB (xh x_10)),srd x_10.1 (Al (xh x_10) {kind:=x_10.2.2.2.2.2.1,text:=x_10.2.2.2.2.2.2.1,kids:=x_10.2.2.2.2.2.2.2,blank:=false})]) (cA BB [srd x_5.1 (xg x_5),.str #[(40:UInt8)].toList] fun x_6 y=>Aa (Aq x_6.1.sg (xh x_6) x_6.2.2.2.2.2).bad (rA (Hk n) x [.int .i64 (0:Int),srd x_6.1 (Aq x_6.1.sg (xh x_6) x_6.2.2.2.2.2)]) (cA (JP n) [srd x_6.1 (Aq x_6.1.sg (xh x_6) x_6.2.2.2.2.2)] fun x_7 y=>cA BB [srd x_7.1 (yG y.2),.str #[(41:UInt8)].toList] fun x_8 y_1=>∃(x_9:Int),y.1=x_9∧cA Bg [srd x_8.1 (Aq x_8.1.sg (xh x_8) x_8.2.2.2.2.2),.int .i64 (11:Int),.str #[].toList,Ag [x_9]] fun x_10 y=>rA (Hk n) x [.int .i64 (AB (xh x_10)),srd x_10.1 (Al (xh x_10) {kind:=x_10.2.2.2.2.2.1,text:=x_10.2.2.2.2.2.2.1,kids:=x_10.2.2.2.2.2.2.2,blank:=false})])))))))) (fun x=>by kernel_rfl) fun(x:ST×Int×Int×Bool×List Nd) (hx:wQ 1 (n+1) x.1 (xg x))=>(by
 dsimp only[cA,Bx,Ag,AX,rA,Dv,Hk,Du,BO,Fm,FL,Bg,Ci,JP,Fl,BB,CE,sgs,srd,Az,AC,mvL,lnL,mvE,lnE]
 obtain⟨s,p,d,b,ns⟩:=x;dsimp only[xg,xh] at hx ⊢
 have hx:wQ 1 (n+1) s ⟨p,d,b,ns⟩:=hx
 have h1:=hx.1.1.1;have hs:=h1.1
 (repeat' first|(with_reducible first|rfl|exact True.intro|apply AN|apply And.intro|((first|apply AD|apply AL|apply AE|apply AM)<;>intro _))|(apply AA<;>intro _)|apply AK|refine Ae () ?_ ?_|((first|apply AR|apply AQ|apply AP|apply AO|apply AJ|apply AI|apply AH|apply AG|apply AF)<;>try dsimp only)|apply Ae|(refine Prod.forall.2 ?_;intro _;try dsimp only)|(intro _;try dsimp only))
 all_goals(try dsimp only[xg,xh,yG,yS,iG] at*)
 all_goals(try simp only[Fj] at*)
 all_goals first
  |rfl
  |exact h1
  |omega
  |(simp;done)
  |exact Xl h1.2 ‹_›
  |exact a6E hs h1.2 ‹_›
  |exact Xu hs h1.2 (.inl rfl) ‹_›
  |exact Xu hs h1.2 (.inr rfl) ‹_›
  |exact Gp h1 (by omega)
  |exact a6J hx ‹_›
  |exact a6F h1 ‹_› ‹_› ‹_› ‹_› ‹_›
  |exact Sr hs ‹_›
  |exact Ez h1
  |exact a6K hx ‹_› ‹_› ‹_›
  |exact a6L hx ‹_› ‹_›
  |exact(FK (Ez h1)).1
  |exact Ei h1 ‹_›
  |exact(FK (Ei h1 ‹_›)).1
  |exact a6G hx.2 h1 ‹_› ‹_› ‹_› ‹_› ‹_› ‹_› ‹_›
  |exact a6H hx.2 h1 ‹_› ‹_› ‹_› ‹_› ‹_› ‹_› ‹_›
  |exact a6I h1 ‹_› ‹_› ‹_› ‹_› ‹_› ‹_›
  |(have hq:=Ss hs (show vlQ _ _ _ [] _ _ by assumption);(try simp only[Bf,List.length_append,List.length_cons,List.length_nil] at*);omega)
  |skip)
def OZ(n:Nat):Sig:= {X:=ST×Int×Int×Bool×List Nd,args:=fun x=>[srd x.1 (xg x)],pre:=fun x=>wQ 2 (n+1) x.1 (xg x),Y:=Int×Int×Int×Bool×List Nd,post:=fun x y=>Af x.1.sg (xg x) (pE x.1.sg (n+1) .fin) (yS y),res:=fun x y=> .int .i64 y.1,outs:=fun x y=>[srd x.1 (yG y.2)],keep:=true}
def MQ(n:Nat)(x:ST×Int×Int×Bool×List Nd):LS:= {ι:=Int×Int×Bool×List Nd×Int×Nat,inv:=fun i=>eqJ x.1.sg n (xg x) (iG i) i.2.2.2.2.1 i.2.2.2.2.2,regs:=fun i=>[(0,srd x.1 (iG i)),(3,.int .i64 i.2.2.2.2.1)],als:=[],meas:=fun i=>i.2.2.2.2.2}
theorem a6R(n:Nat)(h:qAll G n):Am G Tryz.prog 212 (OZ n):=
 vcFun_okP [(222,0,(OU n)),(142,0,BO),(188,0,(Fl n)),(117,0,Bg),(138,0,Ci)] [(26,⟨Int,Bi⟩)] false (fun x=>[(2,MQ n x)]) Tryz.func212 rfl (by decide) ⟨h.base,Gm,(So n h),Gn,IG,trivial⟩ (fun(x:ST×Int×Int×Bool×List Nd)=>True∧cA (OU n) [srd x.1 (xg x)] fun x_1 y=>eA (MQ n x) [srd x_1.1 (yG y.2),.int .i64 y.1]∧∀(i:Int×Int×Bool×List Nd×Int×Nat),eqJ x.1.sg n (xg x) (iG i) i.2.2.2.2.1 i.2.2.2.2.2→Aa (!(iG i).bad) (cA BO [srd x.1 (iG i),.str #[(40:UInt8)].toList] fun x_2 y=>Aa (isG x_2.1.sg (xh x_2) (4:Int) x_2.2.2.2.2.2) (∃(x_3:Int),i.2.2.2.2.1=x_3∧cA (Fl n) [srd x_2.1 (Au x_2.1.sg (xh x_2) x_2.2.2.2.2.2),.str #[(41:UInt8)].toList,Ag [x_3]] fun x_4 y=>cA Bg [srd x_4.1 (yG y.2),.int .i64 (5:Int),.str #[].toList,Ag y.1] fun x_5 y=>eN (MQ n x) i [srd x_5.1 (Al (xh x_5) {kind:=x_5.2.2.2.2.2.1,text:=x_5.2.2.2.2.2.2.1,kids:=x_5.2.2.2.2.2.2.2,blank:=false}),.int .i64 (AB (xh x_5))]) (cA BO [srd x_2.1 (Au x_2.1.sg (xh x_2) x_2.2.2.2.2.2),.str #[(46:UInt8)].toList] fun x_3 y=>Aa (isG x_3.1.sg (xh x_3) (4:Int) x_3.2.2.2.2.2) (cA Ci [srd x_3.1 (Au x_3.1.sg (xh x_3) x_3.2.2.2.2.2),.int .i64 (1:Int)] fun x_4 y=>∃(x_5:Int),i.2.2.2.2.1=x_5∧cA Bg [srd x_4.1 (Bc x_4.1.sg (xh x_4) x_4.2.2.2.2.2),.int .i64 (6:Int),.str (Bq x_4.1.sg (xh x_4) x_4.2.2.2.2.2),Ag [x_5]] fun x_6 y=>eN (MQ n x) i [srd x_6.1 (Al (xh x_6) {kind:=x_6.2.2.2.2.2.1,text:=x_6.2.2.2.2.2.2.1,kids:=x_6.2.2.2.2.2.2.2,blank:=false}),.int .i64 (AB (xh x_6))]) (rA (OZ n) x [.int .i64 i.2.2.2.2.1,srd x_3.1 (Au x_3.1.sg (xh x_3) x_3.2.2.2.2.2)]))) (rA (OZ n) x [.int .i64 i.2.2.2.2.1,srd x.1 (iG i)])) (fun x=>by kernel_rfl) fun(x:ST×Int×Int×Bool×List Nd) (hx:wQ 2 (n+1) x.1 (xg x))=>(by
 dsimp only[cA,eA,eN,MQ,Bx,Ag,AX,rA,OU,OZ,BO,Bg,Ci,Fl,CE,sgs,srd,Az,AC,mvL,lnL,mvE,lnE,Bt]
 obtain⟨s,p,d,b,ns⟩:=x;dsimp only[xg,xh] at hx ⊢
 have hx:wQ 2 (n+1) s ⟨p,d,b,ns⟩:=hx
 have h1:=hx.1.1.1;have hs:=h1.1
 (repeat' first|(with_reducible first|rfl|exact True.intro|apply AN|apply And.intro|((first|apply AD|apply AL|apply AE|apply AM)<;>intro _))|(apply AA<;>intro _)|apply AK|refine Ae () ?_ ?_|((first|apply AR|apply AQ|apply AP|apply AO|apply AJ|apply AI|apply AH|apply AG|apply AF)<;>try dsimp only)|apply Ae|(refine Prod.forall.2 ?_;intro _;try dsimp only)|(intro _;try dsimp only))
 all_goals(try dsimp only[xg,xh,yG,yS,iG] at*)
 all_goals(try simp only[Fj] at*)
 all_goals first
  |(show Nat;skip)
  |rfl
  |exact⟨a4p hx.1.1.1 hx.1.1.2 hx.1.2,hx.2⟩
  |exact a6M hx ‹_›
  |exact Xv hx ‹_›
  |exact a6N hx ‹_› ‹_›
  |exact(Su hx ‹_›).1
  |exact(Su hx ‹_›).2.1
  |exact(Su hx ‹_›).2.2
  |exact Sr hs ‹_›
  |exact(Xw hx ‹_› ‹_› ‹_›).1
  |exact(Xx hx ‹_› ‹_› ‹_›).1
  |exact a6O ‹_› ‹_›
  |exact a6P ‹_› ‹_› ‹_› ‹_›
  |omega
  |(simp;done)
  |skip
 all_goals first
  |exact(Xw hx ‹_› ‹_› ‹_›).2
  |exact(Xx hx ‹_› ‹_› ‹_›).2
  |skip)
end Go.My
end
