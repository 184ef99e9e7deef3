/- joined -/
import Derived.Test.YtglbamflbnldhaaGreatDoorQK
set_option linter.unusedSimpArgs false
set_option linter.unusedVariables false
section
namespace Go.My
open Go.Eng Go.Proofs
variable {G:GInv}
def PU:List (List UInt8):=[[38,38],[124,124],[61,61],[61,62],[46,46]]
def Mq:List (List UInt8):=[[40],[41],[123],[125],[91],[93],[59],[44],[46],[61],[43],[45],[42],[60],[63],[58]]
def mks:List (List UInt8):=[[38,38],[124,124],[61,61],[61,62],[46,46],[40],[41],[123],[125],[91],[93],[59],[44],[46],[61],[43],[45],[42],[60],[63],[58]]
def FQ(s:List UInt8):List UInt8:=(mks.find? fun m=>s.take m.length==m).getD []
theorem Xg{s:List UInt8}{k:Nat}:∀ {l:List (List UInt8)},(∀m∈l,m.length=k)→l.find? (fun m=>s.take m.length==m)=if l.elem (s.take k) then some (s.take k) else none
 |[],_=>rfl
 |m::l,h=>by
  have hm:=h m (by simp)
  rw[List.find?_cons,List.elem_cons,hm]
  cases he:(s.take k==m) with
  |true=>
   have:s.take k=m:=by simpa using he
   simp [this]
  |false=>
   rw[Xg (l:=l) (fun m hm=>h m (by simp [hm]))]
theorem a4x{s:List UInt8}:FQ s=if PU.elem (s.take 2) then s.take 2 else if Mq.elem (s.take 1) then s.take 1 else []:=by
 have e:mks=PU++Mq:=rfl
 rw[FQ,e,List.find?_append,Xg (k:=2) (l:=PU) (by decide),Xg (k:=1) (l:=Mq) (by decide)]
 split
 ·rfl
 ·split<;>rfl
theorem b5T{s:List UInt8}:PU.elem s=mk2 s:=by
 rw[Bool.eq_iff_iff];simp [PU,mk2]
theorem b5U{c:UInt8}:Mq.elem [c]=mk1.elem c:=by
 simp [Mq,mk1,List.elem_cons,List.elem_nil]
theorem a4y{c:UInt8}{s:List UInt8}:FQ (c::s)=if CK ((c::s).take 2) then(c::s).take 2 else if CK ((c::s).take 1) then(c::s).take 1 else []:=by
 rw[a4x,b5T]
 have h1:Mq.elem ((c::s).take 1)=CK ((c::s).take 1):=by
  show Mq.elem [c]=CK [c]
  rw[b5U]
  simp [CK,mk2]
 rw[h1]
 cases s with
 |nil=>
  show(if mk2 [c]=true then [c] else if CK [c]=true then [c] else [])=if CK [c]=true then [c] else if CK [c]=true then [c] else []
  have:mk2 [c]=false:=by simp [mk2]
  rw[this];simp
 |cons d r=>
  have:CK ((c::d::r).take 2)=mk2 ((c::d::r).take 2):=by
   show CK [c,d]=mk2 [c,d]
   simp [CK]
  rw[this]
def Iq(x:List UInt8×Int)(i:Int):Prop:=(0≤i∧i≤21)∧FQ (x.1.drop x.2.toNat)=((mks.drop i.toNat).find? fun m=>(x.1.drop x.2.toNat).take m.length==m).getD []
theorem b5V{x:List UInt8×Int}:Iq x 0:=⟨by omega,rfl⟩
theorem a4z{x:List UInt8×Int}{i:Int}{m:List UInt8}(h:Iq x i)(ha:mks[i.toNat]? =some m)(hg:((x.1.drop x.2.toNat).take m.length==m)=false):Iq x (i+1):=by
 have hlt:=(List.getElem?_eq_some_iff.1 ha).1
 have h21:mks.length=21:=rfl
 obtain⟨h1,h2⟩:=h
 refine⟨by omega,?_⟩
 rw[h2,List.drop_eq_getElem_cons hlt,(List.getElem?_eq_some_iff.1 ha).2,List.find?_cons_of_neg (by simpa using hg),show(i+1).toNat=i.toNat+1 by omega]
theorem b5W{x:List UInt8×Int}{i:Int}{m:List UInt8}(h:Iq x i)(ha:mks[i.toNat]? =some m)(hg:((x.1.drop x.2.toNat).take m.length==m)=true):m=FQ (x.1.drop x.2.toNat):=by
 have hlt:=(List.getElem?_eq_some_iff.1 ha).1
 rw[h.2,List.drop_eq_getElem_cons hlt,(List.getElem?_eq_some_iff.1 ha).2,List.find?_cons_of_pos (by simpa using hg)];rfl
theorem b5X{x:List UInt8×Int}{i:Int}(h:Iq x i)(hi:¬i<21):[]=FQ (x.1.drop x.2.toNat):=by
 have e:mks.drop i.toNat=[]:=List.drop_eq_nil_of_le (by have h21:mks.length=21:=rfl;rw[h21];omega)
 rw[h.2,e];rfl
theorem SU{t:List UInt8}{a n:Int}(h0:0≤a)(hn:0≤n):List.drop a.toNat (List.take (a+n).toNat t)=(t.drop a.toNat).take n.toNat:=by
 rw[List.drop_take,show(a+n).toNat-a.toNat=n.toNat by omega]
theorem b5Y{x:List UInt8×Int}{m:List UInt8}(h0:0≤x.2)(h2:x.2≤x.1.length)(hl:¬x.2+(m.length:Int)≤x.1.length):((x.1.drop x.2.toNat).take m.length==m)=false:=by
 have:((x.1.drop x.2.toNat).take m.length)≠m:=by
  intro e
  have:=congrArg List.length e
  simp at this;omega
 simpa using this
theorem b5Z{x:List UInt8×Int}{m:List UInt8}(h0:0≤x.2)(h:List.drop (Int.toNat x.2) (List.take (Int.toNat (x.2+(m.length:Int))) x.1)=m):((x.1.drop x.2.toNat).take m.length==m)=true:=by
 rw[SU h0 (by omega)] at h;simpa using h
theorem b6a{x:List UInt8×Int}{m:List UInt8}(h0:0≤x.2)(h:List.drop (Int.toNat x.2) (List.take (Int.toNat (x.2+(m.length:Int))) x.1)≠m):((x.1.drop x.2.toNat).take m.length==m)=false:=by
 rw[SU h0 (by omega)] at h;simpa using h
theorem b6b{i:Int}{m:List UInt8}(ha:mks[i.toNat]? =some m):m.length≤2:=by
 have:∀m∈mks,m.length≤2:=by decide
 exact this m (List.mem_of_getElem? ha)
theorem a4A{x:List UInt8×Int}{i:Int}(h:Iq x i):0≤i∧i≤21:=h.1
attribute [local irreducible] Iq FQ
def NV:Sig:= {X:=Unit,args:=fun x=>[],pre:=fun x=>True,Y:=Unit,post:=fun x y=>True,res:=fun x y=> .sl false 0 1 (List UInt8) Bg mks,outs:=fun x y=>[],keep:=true}
theorem b6c:Ai G Tryz.prog 108 NV:=
 vcFun_okP [] [(91,⟨List UInt8,Bg⟩)] false (fun x=>[]) Tryz.func108 rfl (by decide) trivial (fun(x:Unit)=>True∧∃(x_1:List UInt8),#[(38:UInt8),(38:UInt8)].toList=x_1∧∃(x_2:List UInt8),#[(124:UInt8),(124:UInt8)].toList=x_2∧∃(x_3:List UInt8),#[(61:UInt8),(61:UInt8)].toList=x_3∧∃(x_4:List UInt8),#[(61:UInt8),(62:UInt8)].toList=x_4∧∃(x_5:List UInt8),#[(46:UInt8),(46:UInt8)].toList=x_5∧∃(x_6:List UInt8),#[(40:UInt8)].toList=x_6∧∃(x_7:List UInt8),#[(41:UInt8)].toList=x_7∧∃(x_8:List UInt8),#[(123:UInt8)].toList=x_8∧∃(x_9:List UInt8),#[(125:UInt8)].toList=x_9∧∃(x_10:List UInt8),#[(91:UInt8)].toList=x_10∧∃(x_11:List UInt8),#[(93:UInt8)].toList=x_11∧∃(x_12:List UInt8),#[(59:UInt8)].toList=x_12∧∃(x_13:List UInt8),#[(44:UInt8)].toList=x_13∧∃(x_14:List UInt8),#[(46:UInt8)].toList=x_14∧∃(x_15:List UInt8),#[(61:UInt8)].toList=x_15∧∃(x_16:List UInt8),#[(43:UInt8)].toList=x_16∧∃(x_17:List UInt8),#[(45:UInt8)].toList=x_17∧∃(x_18:List UInt8),#[(42:UInt8)].toList=x_18∧∃(x_19:List UInt8),#[(60:UInt8)].toList=x_19∧∃(x_20:List UInt8),#[(63:UInt8)].toList=x_20∧∃(x_21:List UInt8),#[(58:UInt8)].toList=x_21∧rA NV x [AV.sl true 0 1 (List UInt8) Bg [x_1,x_2,x_3,x_4,x_5,x_6,x_7,x_8,x_9,x_10,x_11,x_12,x_13,x_14,x_15,x_16,x_17,x_18,x_19,x_20,x_21]]) (fun x=>by kernel_rfl) fun(x:Unit) (hx:True)=>(by
 dsimp only[rA,NV,Au,Az]
 (repeat' first|(with_reducible first|rfl|exact True.intro|apply AK|apply And.intro|((first|apply AA|apply AI|apply AB|apply AJ)<;>intro _))|(apply Ax<;>intro _)|apply AH|refine Ae () ?_ ?_|((first|apply AO|apply AN|apply AM|apply AL|apply AG|apply AF|apply AE|apply AD|apply AC)<;>try dsimp only)|apply Ae|(refine Prod.forall.2 ?_;intro _;try dsimp only)|(intro _;try dsimp only))
 all_goals first
  |rfl
  |(simp [AW];done)
  |skip)
def Mr:Sig:= {X:=List UInt8×Int,args:=fun x=>[.str x.1,.int .i64 x.2],pre:=fun x=>0≤x.2∧x.2≤x.1.length∧x.1.length<2^62,Y:=Unit,post:=fun x y=>True,res:=fun x y=> .str (FQ (x.1.drop x.2.toNat)),outs:=fun x y=>[.top,.top],keep:=false}
def PV(x:List UInt8×Int):LS:= {ι:=Int,inv:=fun i=>Iq x i,regs:=fun i=>[(0,.str x.1),(1,.int .i64 x.2),(5,.sl false 0 1 (List UInt8) Bg mks),(6,.int .i64 i)],als:=[],meas:=fun i=>21-i.toNat}
theorem b6d:Ai G Tryz.prog 88 Mr:=
 vcFun_okP [(108,0,NV)] [(91,⟨List UInt8,Bg⟩)] false (fun x=>[(3,PV x)]) Tryz.func88 rfl (by decide) ⟨b6c,trivial⟩ (fun(x:List UInt8×Int)=>(∀(y:Unit),True→True∧True∧True∧True)∧cA NV [] fun x_1 y=>eA (PV x) [.str x.1,.int .i64 x.2,AV.sl false 0 1 (List UInt8) Bg mks,.int .i64 (0:Int)]∧∀(i:Int),Iq x i→Aa (decide (i<(↑(21:Nat):Int))) (((0:Int)≤i∧i<(↑(21:Nat):Int))∧∀(e:List UInt8),mks[Int.toNat i]? =some e→true=true∧true=true∧inR IntKind.i64 (x.2+(↑(List.length e):Int))∧Aa (decide (x.2+(↑(List.length e):Int)≤(↑(List.length x.1):Int))) (inR IntKind.i64 (x.2+(↑(List.length e):Int))∧((0:Int)≤x.2∧x.2≤x.2+(↑(List.length e):Int)∧x.2+(↑(List.length e):Int)≤(↑(List.length x.1):Int))∧((0:Int)≤i∧i<(↑(21:Nat):Int))∧∀(e_1:List UInt8),mks[Int.toNat i]? =some e_1→Aa (List.drop (Int.toNat x.2) (List.take (Int.toNat (x.2+(↑(List.length e):Int))) x.1)==e_1) (((0:Int)≤i∧i<(↑(21:Nat):Int))∧∀(e:List UInt8),mks[Int.toNat i]? =some e→rA Mr x [.str e,.top,.top]) (inR IntKind.i64 (i+(1:Int))∧eN (PV x) i [.str x.1,.int .i64 x.2,AV.sl false 0 1 (List UInt8) Bg mks,.int .i64 (i+(1:Int))])) (inR IntKind.i64 (i+(1:Int))∧eN (PV x) i [.str x.1,.int .i64 x.2,AV.sl false 0 1 (List UInt8) Bg mks,.int .i64 (i+(1:Int))])) (rA Mr x [.str #[].toList,.top,.top])) (fun x=>by kernel_rfl) fun(x:List UInt8×Int) (hx:0≤x.2∧x.2≤x.1.length∧x.1.length<2^62)=>(by
 dsimp only[cA,eA,eN,PV,rA,Mr,NV,Au,Az,mvL,lnL,mvE,lnE,Bq]
 obtain⟨h1,h2,h3⟩:=hx
 (repeat' first|(with_reducible first|rfl|exact True.intro|apply AK|apply And.intro|((first|apply AA|apply AI|apply AB|apply AJ)<;>intro _))|(apply Ax<;>intro _)|apply AH|refine Ae () ?_ ?_|((first|apply AO|apply AN|apply AM|apply AL|apply AG|apply AF|apply AE|apply AD|apply AC)<;>try dsimp only)|apply Ae|(refine Prod.forall.2 ?_;intro _;try dsimp only)|(intro _;try dsimp only))
 all_goals(try(repeat(rename mks[_]? =some _=>hq;revert hq;rename mks[_]? =some _=>hr;intro hq;rw[hr] at hq;cases hq)))
 all_goals first
  |rfl
  |exact b5V
  |exact a4z ‹_› ‹_› (b5Y h1 h2 ‹_›)
  |exact a4z ‹_› ‹_› (b6a h1 ‹_›)
  |exact b5W ‹_› ‹_› (b5Z h1 ‹_›)
  |exact b5X ‹_› (by omega)
  |(have hq:=a4A (show Iq _ _ by assumption);(try simp only[AR]);omega)
  |(have hq:=a4A (show Iq _ _ by assumption);have hm:=b6b ‹_›;(try simp only[AR]);omega)
  |skip)
def rwI(p:UInt8→Bool)(x:List UInt8×Int)(i:Int):Prop:=(x.2≤i∧i≤x.1.length)∧∀e∈(x.1.drop x.2.toNat).take (i-x.2).toNat,p e=true
theorem b6e{p:UInt8→Bool}{x:List UInt8×Int}(h:x.2≤x.1.length):rwI p x x.2:=by
 refine⟨⟨by omega,h⟩,fun e he=> ?_⟩
 rw[show(x.2-x.2).toNat=0 by omega] at he;simp at he
theorem Xh{p:UInt8→Bool}{x:List UInt8×Int}{i:Int}{c:UInt8}(h0:0≤x.2)(h:rwI p x i)(hi:i<x.1.length)(hc:x.1[i.toNat]? =some c)(hp:p c=true):rwI p x (i+1):=by
 obtain⟨⟨a,b⟩,h2⟩:=h
 exact⟨by omega,QT h2 (by rw[Pf h0 a];exact hc) hp (by omega)⟩
theorem a4B{p:UInt8→Bool}{x:List UInt8×Int}{i:Int}(h0:0≤x.2)(h:rwI p x i)(he:¬i<x.1.length∨∃c,x.1[i.toNat]? =some c∧p c=false):((x.1.drop x.2.toNat).takeWhile p)=List.drop (Int.toNat x.2) (List.take (Int.toNat i) x.1)∧((((x.1.drop x.2.toNat).takeWhile p).length:Nat):Int)=i-x.2:=by
 obtain⟨⟨a,b⟩,h2⟩:=h
 have e:=Jm h2 (by
  rcases he with he|⟨c,hc,hp⟩
  ·left;simp;omega
  ·right;exact⟨c,by rw[Pf h0 a];exact hc,hp⟩)
 rw[←e,List.drop_take]
 refine⟨by congr 1;omega,?_⟩
 simp;omega
theorem b6f{p:UInt8→Bool}{x:List UInt8×Int}{i:Int}(h:rwI p x i):x.2≤i∧i≤x.1.length:=h.1
def sgR(x:List UInt8×Int)(k:Int)(t:List UInt8)(p:Int)(b:Bool)(n:Int):Prop:=
 ((Bb (x.1.drop x.2.toNat)).ok=true∧(k=(Bb (x.1.drop x.2.toNat)).kind∧t=(Bb (x.1.drop x.2.toNat)).text∧p=x.2∧b=false)∧n=(Bb (x.1.drop x.2.toNat)).size)∨((Bb (x.1.drop x.2.toNat)).ok=false∧n=0)
theorem SV{x:List UInt8×Int}{c:UInt8}(hc:x.1[x.2.toNat]? =some c):x.1.drop x.2.toNat=c::x.1.drop (x.2.toNat+1):=by
 have hlt:=(List.getElem?_eq_some_iff.1 hc).1
 rw[List.drop_eq_getElem_cons hlt,(List.getElem?_eq_some_iff.1 hc).2]
theorem b6g{x:List UInt8×Int}(h0:0≤x.2)(h:(Ct (x.1.drop x.2.toNat):Int)>0):sgR x 5 (CL (List.drop (Int.toNat x.2) (List.take (Int.toNat (x.2+(Ct (x.1.drop x.2.toNat):Int))) x.1))) x.2 false (Ct (x.1.drop x.2.toNat)):=by
 rw[SU h0 (by omega)]
 unfold sgR
 generalize x.1.drop x.2.toNat=s at*
 unfold Ct at h ⊢
 split at h
 ·rename_i h2
  split at h
  ·rename_i hp
   rw[if_pos h2,if_pos hp]
   match s with
   |[]=>simp at h2
   |[_]=>simp at h2
   |b::c::r=>
    simp at h2
    obtain⟨rfl,rfl⟩:=h2
    left
    simp only[Bb,show Cw 47=false by decide,show Bh 47=false by decide,Bool.false_eq_true,if_false,show(47:UInt8).toNat≠39 by decide,List.take_succ_cons,List.take_zero,if_true]
    refine⟨hp,⟨trivial,?_,trivial,trivial⟩,trivial⟩
    congr 1
    have:=List.takeWhile_prefix Ch (l:=47::47::r)
    rw[Int.toNat_natCast]
    exact(List.prefix_iff_eq_take.1 this).symm
  ·simp at h
 ·simp at h
theorem b6h{s:List UInt8}{c:UInt8}(h:¬(Ct (c::s):Int)>0)(h2:(c::s).take 2=[47,47]):((c::s).takeWhile Ch).all Cm=false:=by
 cases hp:((c::s).takeWhile Ch).all Cm with
 |false=>rfl
 |true=>
  exfalso
  apply h
  rw[Ct,if_pos h2,if_pos hp]
  match s with
  |[]=>simp at h2
  |d::r=>
   simp at h2
   obtain⟨rfl,rfl⟩:=h2
   have:Ch 47=true:=by decide
   simp [List.takeWhile_cons,this];omega
theorem SW{x:List UInt8×Int}{i:Int}{c:UInt8}(h0:0≤x.2)(hc:x.1[x.2.toNat]? =some c)(hf:Cw c=true)(h:rwI BP x i)(he:¬i<x.1.length∨∃c,x.1[i.toNat]? =some c∧BP c=false):
 (i-x.2>30→sgR x 0 [] 0 false 0)∧(¬i-x.2>30→sgR x 1 (List.drop (Int.toNat x.2) (List.take (Int.toNat i) x.1)) x.2 false (i-x.2)):=by
 obtain⟨e1,e2⟩:=a4B h0 h he
 have e:=SV hc
 have es:Bb (x.1.drop x.2.toNat)=⟨1,(x.1.drop x.2.toNat).takeWhile BP,((x.1.drop x.2.toNat).takeWhile BP).length,decide (((x.1.drop x.2.toNat).takeWhile BP).length≤30)⟩:=by
  rw[e];simp only[Bb,hf,if_true]
 unfold sgR
 rw[es]
 refine⟨fun h3=> .inr ⟨by simp;omega,rfl⟩,fun h3=> .inl ⟨by simp;omega,⟨rfl,e1.symm,rfl,rfl⟩,by simp only;omega⟩⟩
theorem PW{x:List UInt8×Int}{i:Int}{c:UInt8}(h0:0≤x.2)(hc:x.1[x.2.toNat]? =some c)(hf:Cw c=false)(hg:Bh c=true)(h:rwI Bh x i)(he:¬i<x.1.length∨∃c,x.1[i.toNat]? =some c∧Bh c=false):
 (i-x.2>12→sgR x 0 [] 0 false 0)∧(¬i-x.2>12→sgR x 2 (List.drop (Int.toNat x.2) (List.take (Int.toNat i) x.1)) x.2 false (i-x.2)):=by
 obtain⟨e1,e2⟩:=a4B h0 h he
 have e:=SV hc
 have es:Bb (x.1.drop x.2.toNat)=⟨2,(x.1.drop x.2.toNat).takeWhile Bh,((x.1.drop x.2.toNat).takeWhile Bh).length,decide (((x.1.drop x.2.toNat).takeWhile Bh).length≤12)⟩:=by
  rw[e];simp only[Bb,hf,hg,Bool.false_eq_true,if_false,if_true]
 unfold sgR
 rw[es]
 refine⟨fun h3=> .inr ⟨by simp;omega,rfl⟩,fun h3=> .inl ⟨by simp;omega,⟨rfl,e1.symm,rfl,rfl⟩,by simp only;omega⟩⟩
theorem b6i{x:List UInt8×Int}{c:UInt8}(h0:0≤x.2)(hc:x.1[x.2.toNat]? =some c)(hf:Cw c=false)(hg:Bh c=false)(hq:(c.toNat:Int)=39):
 sgR x 3 (List.drop (Int.toNat x.2) (List.take (Int.toNat (x.2+(CG (x.1.drop x.2.toNat):Int))) x.1)) x.2 false (CG (x.1.drop x.2.toNat)):=by
 rw[SU h0 (by omega)]
 have e:=SV hc
 have hq2:isQ c=true:=by simp [isQ];omega
 unfold sgR
 rw[e]
 have es:Bb (c::x.1.drop (x.2.toNat+1))=⟨3,(DG (c::x.1.drop (x.2.toNat+1))).1,(DG (c::x.1.drop (x.2.toNat+1))).1.length,(DG (c::x.1.drop (x.2.toNat+1))).2⟩:=by
  simp only[Bb,hf,hg,Bool.false_eq_true,if_false,show c.toNat=39 by omega,if_true]
 rw[es]
 by_cases hz:CG (c::x.1.drop (x.2.toNat+1))=0
 ·right
  refine⟨?_,by rw[hz];rfl⟩
  cases hb:(DG (c::x.1.drop (x.2.toNat+1))).2 with
  |false=>rfl
  |true=>exact((QS hq2).1 hb hz).elim
 ·left
  obtain⟨l1,l2⟩:=ZU hq2 hz
  refine⟨(QS hq2).2 hz,⟨rfl,?_,rfl,rfl⟩,?_⟩
  ·simp only[l1,Int.toNat_natCast]
  ·simp only[l1,List.length_take];omega
theorem b6j{x:List UInt8×Int}{c:UInt8}(h0:0≤x.2)(hc:x.1[x.2.toNat]? =some c)(hn:¬(Ct (x.1.drop x.2.toNat):Int)>0)(hf:Cw c=false)(hg:Bh c=false)(hq:(c.toNat:Int)≠39):
 sgR x 4 (FQ (x.1.drop x.2.toNat)) x.2 false (FQ (x.1.drop x.2.toNat)).length:=by
 have e:=SV hc
 unfold sgR
 rw[e] at hn ⊢
 generalize x.1.drop (x.2.toNat+1)=s at*
 by_cases h2:(c::s).take 2=[47,47]
 ·right
  have e0:FQ (c::s)=[]:=by
   rw[a4y,h2,if_neg (by decide)]
   have:(c::s).take 1=[47]:=by
    have:=congrArg (List.take 1) h2
    simpa using this
   rw[this,if_neg (by decide)]
  have hp:=b6h hn h2
  refine⟨?_,by rw[e0];rfl⟩
  simp only[Bb,hf,hg,Bool.false_eq_true,if_false,if_neg (show¬c.toNat=39 by omega),h2,if_true]
  exact hp
 ·have es:Bb (c::s)=if CK ((c::s).take 2) then⟨4,(c::s).take 2,((c::s).take 2).length,true⟩ else if CK ((c::s).take 1) then⟨4,(c::s).take 1,1,true⟩ else⟨0,[],0,false⟩:=by
   simp only[Bb,hf,hg,Bool.false_eq_true,if_false,if_neg (show¬c.toNat=39 by omega),if_neg h2]
  rw[es,a4y]
  split
  ·left;exact⟨rfl,⟨rfl,rfl,rfl,rfl⟩,rfl⟩
  ·split
   ·left;exact⟨rfl,⟨rfl,rfl,rfl,rfl⟩,by simp⟩
   ·right;exact⟨rfl,rfl⟩
end Go.My
end
section
namespace Go.My
open Go.Eng Go.Proofs
variable {G:GInv}
def srd(s:ST)(g:Gs):AV:= .box 0 [sgs s.sg,.int .i64 g.pos,.bool g.bad,.int .i64 g.deep,Av g.nodes]
theorem a4C{sg:List Sg}{g:Gs}(h:g.bad=true∨(sg.length:Int)≤g.pos):pkG sg g 0=EL:=VZ (by simpa using h)
theorem Xi{sg:List Sg}{g:Gs}{e:Sg}(he:sg[g.pos.toNat]? =some e)(hb:g.bad=false)(hl:g.pos<sg.length):pkG sg g 0=e:=Wa (by simpa using he) hb (by omega)
theorem a4D{sg:List Sg}{g:Gs}{k:Int}{t:List UInt8}(hk:k≠0)(h:g.bad=true∨(sg.length:Int)≤g.pos):isG sg g k t=false:=by
 simp [isG,a4C h,EL,Ne.symm hk]
theorem b6k{sg:List Sg}{g:Gs}{e:Sg}{k:Int}{t:List UInt8}(he:sg[g.pos.toNat]? =some e)(hb:g.bad=false)(hl:g.pos<sg.length):isG sg g k t=(decide (e.kind=k)&&(e.text==t)):=by
 rw[isG,Xi he hb hl]
def kdG(sg:List Sg)(g:Gs)(k:Int):Bool:=decide ((pkG sg g 0).kind=k)&&(decide (k≠1)|| !kw (pkG sg g 0).text)
theorem NW{sg:List Sg}{g:Gs}{k:Int}(hk:k≠0)(h:g.bad=true∨(sg.length:Int)≤g.pos):kdG sg g k=false:=by
 simp [kdG,a4C h,EL,Ne.symm hk]
theorem a4E{sg:List Sg}{g:Gs}{e:Sg}{k:Int}(he:sg[g.pos.toNat]? =some e)(hb:g.bad=false)(hl:g.pos<sg.length):kdG sg g k=(decide (e.kind=k)&&(decide (k≠1)|| !kw e.text)):=by
 rw[kdG,Xi he hb hl]
theorem Jc{sg:List Sg}{g:Gs}:kdG sg g 1=nmG sg g 0:=by simp [kdG,nmG]
theorem SX{sg:List Sg}{g:Gs}{k:Int}(hk:k≠0)(h:kdG sg g k=true):g.bad=false∧g.pos<sg.length:=by
 cases hb:g.bad with
 |true=>rw[NW hk (.inl hb)] at h;cases h
 |false=>
  refine⟨rfl,?_⟩
  rcases Int.lt_or_le g.pos sg.length with hh|hh
  ·exact hh
  ·rw[NW hk (.inr hh)] at h;cases h
theorem b6l{e:Nd}{b:Bool}{q:Nd→Prop}(h:q ⟨e.kind,e.text,e.kids,b⟩):
 ∃x':Nd,([AV.int IntKind.i64 x'.kind,AV.str x'.text,AV.sl true 0 1 Int AZ x'.kids]=[AV.int IntKind.i64 e.kind,AV.str e.text,AV.sl true 0 1 Int AZ e.kids]∧(@List.nil AV)=[])∧b=x'.blank∧q x':=
 ⟨⟨e.kind,e.text,e.kids,b⟩,⟨rfl,rfl⟩,rfl,h⟩
def BF(sg:List Sg)(g:Gs)(m:List UInt8):Gs:=if isG sg g 1 m then An g else g
def Be(sg:List Sg)(g:Gs)(k:Int):Gs:=if kdG sg g k then An g else Bd g
def Bz(sg:List Sg)(g:Gs)(k:Int):List UInt8:=if kdG sg g k then(pkG sg g 0).text else []
def gBl(g:Gs)(k:Int)(b:Bool):Gs:=if g.bad=false∧k<g.nodes.length then⟨g.pos,g.deep,g.bad,g.nodes.set k.toNat ⟨(Af g.nodes k).kind,(Af g.nodes k).text,(Af g.nodes k).kids,b⟩⟩ else g
theorem b6m{g:Gs}{k:Int}{b:Bool}{e:Nd}(he:g.nodes[k.toNat]? =some e)(hb:g.bad=false)(hk:k<g.nodes.length):g.nodes.set k.toNat ⟨e.kind,e.text,e.kids,b⟩=(gBl g k b).nodes:=by
 rw[gBl,if_pos ⟨hb,hk⟩,Bw he]
def blG(sg:List Sg)(g:Gs):Bool:=decide (g.pos<sg.length)&&(sgO sg g.pos).blank
theorem b6n{sg:List Sg}{g:Gs}{e:Sg}{k:Int}(he:sg[(g.pos+1-1).toNat]? =some e)(hk:k≠0)(h:kdG sg g k=true):e.text=Bz sg g k:=by
 obtain⟨hb,hl⟩:=SX hk h
 rw[Bz,if_pos h,Xi (by rw[show g.pos=g.pos+1-1 by omega];exact he) hb hl]
def Ee:Sig:= {X:=ST×Int×Int×Bool×List Nd×Int×List UInt8,args:=fun x=>[srd x.1 (xh x),.int .i64 x.2.2.2.2.2.1,.str x.2.2.2.2.2.2],pre:=fun x=>rOk x.1 (xh x)∧x.2.2.2.2.2.1≠0,Y:=Unit,post:=fun x y=>True,res:=fun x y=> .bool (isG x.1.sg (xh x) x.2.2.2.2.2.1 x.2.2.2.2.2.2),outs:=fun x y=>[srd x.1 (xh x),.top,.top],keep:=true}
theorem PX:Ai G Tryz.prog 90 Ee:=
 vcFun_okP [] [] false (fun x=>[]) Tryz.func90 rfl (by decide) trivial (fun(x:ST×Int×Int×Bool×List Nd×Int×List UInt8)=>True∧true=true∧true=true∧Aa (!(xh x).bad) (Aa (decide ((xh x).pos<(↑(List.length x.1.sg):Int))) (((0:Int)≤(xh x).pos∧(xh x).pos<(↑(List.length x.1.sg):Int))∧∀(e:Sg),x.1.sg[Int.toNat (xh x).pos]? =some e→Aa (e.kind==x.2.2.2.2.2.1) (((0:Int)≤(xh x).pos∧(xh x).pos<(↑(List.length x.1.sg):Int))∧∀(e:Sg),x.1.sg[Int.toNat (xh x).pos]? =some e→rA Ee x [.bool (e.text==x.2.2.2.2.2.2),srd x.1 (xh x),.top,.top]) (rA Ee x [.bool false,srd x.1 (xh x),.top,.top])) (rA Ee x [.bool false,srd x.1 (xh x),.top,.top])) (rA Ee x [.bool false,srd x.1 (xh x),.top,.top])) (fun x=>by kernel_rfl) fun(x:ST×Int×Int×Bool×List Nd×Int×List UInt8) (hx:rOk x.1 (xh x)∧x.2.2.2.2.2.1≠0)=>(by
 dsimp only[Bc,Av,rA,Ee,Bu,sgs,srd,Au,Az]
 obtain⟨s,p,d,b,ns,k,m⟩:=x;dsimp only[xg,xh] at hx ⊢
 obtain⟨h1,h2⟩:=hx;have hs:=DV h1;dsimp only at hs
 (repeat' first|(with_reducible first|rfl|exact True.intro|apply AK|apply And.intro|((first|apply AA|apply AI|apply AB|apply AJ)<;>intro _))|(apply Ax<;>intro _)|apply AH|refine Ae () ?_ ?_|((first|apply AO|apply AN|apply AM|apply AL|apply AG|apply AF|apply AE|apply AD|apply AC)<;>try dsimp only)|apply Ae|(refine Prod.forall.2 ?_;intro _;try dsimp only)|(intro _;try dsimp only))
 all_goals(try(repeat(rename s.sg[_]? =some _=>hq;revert hq;rename s.sg[_]? =some _=>hr;intro hq;rw[hr] at hq;cases hq)))
 all_goals first
  |rfl
  |exact(a4D h2 (.inl ‹_›)).symm
  |exact(a4D h2 (.inr (by simp only;omega))).symm
  |(rw[b6k ‹_› ‹_› (by simp only;omega)];simp [*];done)
  |((try simp only[AR]);omega)
  |skip)
def Cb:Sig:= {X:=ST×Int×Int×Bool×List Nd×List UInt8,args:=fun x=>[srd x.1 (xh x),.str x.2.2.2.2.2],pre:=fun x=>rOk x.1 (xh x),Y:=Unit,post:=fun x y=>True,res:=fun x y=> .bool (isG x.1.sg (xh x) 4 x.2.2.2.2.2),outs:=fun x y=>[srd x.1 (Al x.1.sg (xh x) x.2.2.2.2.2),.top],keep:=true}
theorem HH:Ai G Tryz.prog 63 Cb:=
 vcFun_okP [(90,0,Ee)] [] false (fun x=>[]) Tryz.func63 rfl (by decide) ⟨PX,trivial⟩ (fun(x:ST×Int×Int×Bool×List Nd×List UInt8)=>True∧cA Ee [srd x.1 (xh x),.int .i64 (4:Int),.str x.2.2.2.2.2] fun x_1 y=>Aa (isG x_1.1.sg (xh x_1) x_1.2.2.2.2.2.1 x_1.2.2.2.2.2.2) (inR IntKind.i64 ((xh x_1).pos+(1:Int))∧rA Cb x [.bool true,.box 0 [sgs x_1.1.sg,.int .i64 ((xh x_1).pos+(1:Int)),.bool (xh x_1).bad,.int .i64 (xh x_1).deep,Av (xh x_1).nodes],.top]) (rA Cb x [.bool false,srd x_1.1 (xh x_1),.top])) (fun x=>by kernel_rfl) fun(x:ST×Int×Int×Bool×List Nd×List UInt8) (hx:rOk x.1 (xh x))=>(by
 dsimp only[cA,Bc,Av,rA,Ee,Cb,Bu,sgs,srd,Au,Az,mvL,lnL,mvE,lnE]
 obtain⟨s,p,d,b,ns,m⟩:=x;dsimp only[xg,xh] at hx ⊢
 have hx:rOk s ⟨p,d,b,ns⟩:=hx;have hs:=DV hx;dsimp only at hs
 (repeat' first|(with_reducible first|rfl|exact True.intro|apply AK|apply And.intro|((first|apply AA|apply AI|apply AB|apply AJ)<;>intro _))|(apply Ax<;>intro _)|apply AH|refine Ae () ?_ ?_|((first|apply AO|apply AN|apply AM|apply AL|apply AG|apply AF|apply AE|apply AD|apply AC)<;>try dsimp only)|apply Ae|(refine Prod.forall.2 ?_;intro _;try dsimp only)|(intro _;try dsimp only))
 all_goals first
  |rfl
  |exact hx
  |omega
  |(simp [Al,An, *];done)
  |((try simp only[AR]);omega)
  |skip)
def ER:Sig:= {X:=ST×Int×Int×Bool×List Nd×List UInt8,args:=fun x=>[srd x.1 (xh x),.str x.2.2.2.2.2],pre:=fun x=>rOk x.1 (xh x),Y:=Unit,post:=fun x y=>True,res:=fun x y=> .bool (isG x.1.sg (xh x) 1 x.2.2.2.2.2),outs:=fun x y=>[srd x.1 (BF x.1.sg (xh x) x.2.2.2.2.2),.top],keep:=true}
theorem Xj:Ai G Tryz.prog 60 ER:=
 vcFun_okP [(90,0,Ee)] [] false (fun x=>[]) Tryz.func60 rfl (by decide) ⟨PX,trivial⟩ (fun(x:ST×Int×Int×Bool×List Nd×List UInt8)=>True∧cA Ee [srd x.1 (xh x),.int .i64 (1:Int),.str x.2.2.2.2.2] fun x_1 y=>Aa (isG x_1.1.sg (xh x_1) x_1.2.2.2.2.2.1 x_1.2.2.2.2.2.2) (inR IntKind.i64 ((xh x_1).pos+(1:Int))∧rA ER x [.bool true,.box 0 [sgs x_1.1.sg,.int .i64 ((xh x_1).pos+(1:Int)),.bool (xh x_1).bad,.int .i64 (xh x_1).deep,Av (xh x_1).nodes],.top]) (rA ER x [.bool false,srd x_1.1 (xh x_1),.top])) (fun x=>by kernel_rfl) fun(x:ST×Int×Int×Bool×List Nd×List UInt8) (hx:rOk x.1 (xh x))=>(by
 dsimp only[cA,Bc,Av,rA,Ee,ER,Bu,sgs,srd,Au,Az,mvL,lnL,mvE,lnE]
 obtain⟨s,p,d,b,ns,m⟩:=x;dsimp only[xg,xh] at hx ⊢
 have hx:rOk s ⟨p,d,b,ns⟩:=hx;have hs:=DV hx;dsimp only at hs
 (repeat' first|(with_reducible first|rfl|exact True.intro|apply AK|apply And.intro|((first|apply AA|apply AI|apply AB|apply AJ)<;>intro _))|(apply Ax<;>intro _)|apply AH|refine Ae () ?_ ?_|((first|apply AO|apply AN|apply AM|apply AL|apply AG|apply AF|apply AE|apply AD|apply AC)<;>try dsimp only)|apply Ae|(refine Prod.forall.2 ?_;intro _;try dsimp only)|(intro _;try dsimp only))
 all_goals first
  |rfl
  |exact hx
  |omega
  |(simp [BF,An, *];done)
  |((try simp only[AR]);omega)
  |skip)
def BO:Sig:= {X:=ST×Int×Int×Bool×List Nd×List UInt8,args:=fun x=>[srd x.1 (xh x),.str x.2.2.2.2.2],pre:=fun x=>rOk x.1 (xh x),Y:=Unit,post:=fun x y=>True,res:=fun x y=> .tup [],outs:=fun x y=>[srd x.1 (Aq x.1.sg (xh x) x.2.2.2.2.2),.top],keep:=true}
theorem Ir:Ai G Tryz.prog 62 BO:=
 vcFun_okP [(63,0,Cb)] [] false (fun x=>[]) Tryz.func62 rfl (by decide) ⟨HH,trivial⟩ (fun(x:ST×Int×Int×Bool×List Nd×List UInt8)=>True∧cA Cb [srd x.1 (xh x),.str x.2.2.2.2.2] fun x_1 y=>Aa (!isG x_1.1.sg (xh x_1) (4:Int) x_1.2.2.2.2.2) (rA BO x [.tup [],.box 0 [sgs x_1.1.sg,.int .i64 (Al x_1.1.sg (xh x_1) x_1.2.2.2.2.2).pos,.bool true,.int .i64 (Al x_1.1.sg (xh x_1) x_1.2.2.2.2.2).deep,Av (Al x_1.1.sg (xh x_1) x_1.2.2.2.2.2).nodes],.top]) (rA BO x [.tup [],srd x_1.1 (Al x_1.1.sg (xh x_1) x_1.2.2.2.2.2),.top])) (fun x=>by kernel_rfl) fun(x:ST×Int×Int×Bool×List Nd×List UInt8) (hx:rOk x.1 (xh x))=>(by
 dsimp only[cA,Bc,Av,rA,Cb,BO,Bu,sgs,srd,Au,Az,mvL,lnL,mvE,lnE]
 obtain⟨s,p,d,b,ns,m⟩:=x;dsimp only[xg,xh] at hx ⊢
 have hx:rOk s ⟨p,d,b,ns⟩:=hx;have hs:=DV hx;dsimp only at hs
 (repeat' first|(with_reducible first|rfl|exact True.intro|apply AK|apply And.intro|((first|apply AA|apply AI|apply AB|apply AJ)<;>intro _))|(apply Ax<;>intro _)|apply AH|refine Ae () ?_ ?_|((first|apply AO|apply AN|apply AM|apply AL|apply AG|apply AF|apply AE|apply AD|apply AC)<;>try dsimp only)|apply Ae|(refine Prod.forall.2 ?_;intro _;try dsimp only)|(intro _;try dsimp only))
 all_goals first
  |rfl
  |exact hx
  |(simp [Aq,Al,An,Bd, *];done)
  |((try simp only[AR]);omega)
  |skip)
def Ef:Sig:= {X:=ST×Int×Int×Bool×List Nd×Int,args:=fun x=>[srd x.1 (xh x),.int .i64 x.2.2.2.2.2],pre:=fun x=>rOk x.1 (xh x)∧x.2.2.2.2.2≠0,Y:=Unit,post:=fun x y=>True,res:=fun x y=> .bool (kdG x.1.sg (xh x) x.2.2.2.2.2),outs:=fun x y=>[srd x.1 (xh x),.top],keep:=true}
theorem SY:Ai G Tryz.prog 58 Ef:=
 vcFun_okP [(89,0,Gb)] [] false (fun x=>[]) Tryz.func58 rfl (by decide) ⟨Vv,trivial⟩ (fun(x:ST×Int×Int×Bool×List Nd×Int)=>True∧true=true∧true=true∧Aa (!(xh x).bad) (Aa (decide ((xh x).pos<(↑(List.length x.1.sg):Int))) (((0:Int)≤(xh x).pos∧(xh x).pos<(↑(List.length x.1.sg):Int))∧∀(e:Sg),x.1.sg[Int.toNat (xh x).pos]? =some e→Aa (e.kind==x.2.2.2.2.2) (Aa (x.2.2.2.2.2 != (1:Int)) (rA Ef x [.bool true,srd x.1 (xh x),.top]) (((0:Int)≤(xh x).pos∧(xh x).pos<(↑(List.length x.1.sg):Int))∧∀(e:Sg),x.1.sg[Int.toNat (xh x).pos]? =some e→∃(x_1:List UInt8),True∧e.text=x_1∧∃(y0:Unit),(∀(y:Unit),True→AV.bool (kw x_1)=AV.bool (kw x_1))∧true=true∧rA Ef x [.bool !kw x_1,srd x.1 (xh x),.top])) (rA Ef x [.bool false,srd x.1 (xh x),.top])) (rA Ef x [.bool false,srd x.1 (xh x),.top])) (rA Ef x [.bool false,srd x.1 (xh x),.top])) (fun x=>by kernel_rfl) fun(x:ST×Int×Int×Bool×List Nd×Int) (hx:rOk x.1 (xh x)∧x.2.2.2.2.2≠0)=>(by
 dsimp only[Bc,Av,rA,Ef,Bu,sgs,srd,Au,Az]
 obtain⟨s,p,d,b,ns,k⟩:=x;dsimp only[xg,xh] at hx ⊢
 obtain⟨h1,h2⟩:=hx;have hs:=DV h1;dsimp only at hs
 (repeat' first|(with_reducible first|rfl|exact True.intro|apply AK|apply And.intro|((first|apply AA|apply AI|apply AB|apply AJ)<;>intro _))|(apply Ax<;>intro _)|apply AH|refine Ae () ?_ ?_|((first|apply AO|apply AN|apply AM|apply AL|apply AG|apply AF|apply AE|apply AD|apply AC)<;>try dsimp only)|apply Ae|(refine Prod.forall.2 ?_;intro _;try dsimp only)|(intro _;try dsimp only))
 all_goals(try(repeat(rename s.sg[_]? =some _=>hq;revert hq;rename s.sg[_]? =some _=>hr;intro hq;rw[hr] at hq;cases hq)))
 all_goals first
  |rfl
  |exact(NW h2 (.inl ‹_›)).symm
  |exact(NW h2 (.inr (by simp only;omega))).symm
  |(rw[a4E ‹_› ‹_› (by simp only;omega)];simp [*];done)
  |((try simp only[AR]);omega)
  |skip)
def CI:Sig:= {X:=ST×Int×Int×Bool×List Nd×Int,args:=fun x=>[srd x.1 (xh x),.int .i64 x.2.2.2.2.2],pre:=fun x=>rOk x.1 (xh x)∧x.2.2.2.2.2≠0,Y:=Unit,post:=fun x y=>True,res:=fun x y=> .str (Bz x.1.sg (xh x) x.2.2.2.2.2),outs:=fun x y=>[srd x.1 (Be x.1.sg (xh x) x.2.2.2.2.2),.top],keep:=true}
theorem KU:Ai G Tryz.prog 59 CI:=
 vcFun_okP [(58,0,Ef)] [] false (fun x=>[]) Tryz.func59 rfl (by decide) ⟨SY,trivial⟩ (fun(x:ST×Int×Int×Bool×List Nd×Int)=>True∧cA Ef [srd x.1 (xh x),.int .i64 x.2.2.2.2.2] fun x_1 y=>Aa (!kdG x_1.1.sg (xh x_1) x_1.2.2.2.2.2) (rA CI x [.str #[].toList,.box 0 [sgs x_1.1.sg,.int .i64 (xh x_1).pos,.bool true,.int .i64 (xh x_1).deep,Av (xh x_1).nodes],.top]) (inR IntKind.i64 ((xh x_1).pos+(1:Int))∧true=true∧true=true∧inR IntKind.i64 ((xh x_1).pos+(1:Int)-(1:Int))∧((0:Int)≤(xh x_1).pos+(1:Int)-(1:Int)∧(xh x_1).pos+(1:Int)-(1:Int)<(↑(List.length x_1.1.sg):Int))∧∀(e:Sg),x_1.1.sg[Int.toNat ((xh x_1).pos+(1:Int)-(1:Int))]? =some e→rA CI x [.str e.text,.box 0 [sgs x_1.1.sg,.int .i64 ((xh x_1).pos+(1:Int)),.bool (xh x_1).bad,.int .i64 (xh x_1).deep,Av (xh x_1).nodes],.top])) (fun x=>by kernel_rfl) fun(x:ST×Int×Int×Bool×List Nd×Int) (hx:rOk x.1 (xh x)∧x.2.2.2.2.2≠0)=>(by
 dsimp only[cA,Bc,Av,rA,Ef,CI,Bu,sgs,srd,Au,Az,mvL,lnL,mvE,lnE]
 obtain⟨s,p,d,b,ns,k⟩:=x;dsimp only[xg,xh] at hx ⊢
 obtain⟨h1,h2⟩:=hx;have hs:=DV h1;dsimp only at hs
 (repeat' first|(with_reducible first|rfl|exact True.intro|apply AK|apply And.intro|((first|apply AA|apply AI|apply AB|apply AJ)<;>intro _))|(apply Ax<;>intro _)|apply AH|refine Ae () ?_ ?_|((first|apply AO|apply AN|apply AM|apply AL|apply AG|apply AF|apply AE|apply AD|apply AC)<;>try dsimp only)|apply Ae|(refine Prod.forall.2 ?_;intro _;try dsimp only)|(intro _;try dsimp only))
 all_goals first
  |rfl
  |exact h1
  |exact h2
  |(simp [Be,Bz,An,Bd, *];done)
  |exact b6n ‹_› h2 ‹_›
  |(have hl:=SX h2 (show kdG _ _ _=true by assumption);dsimp only at hl;(try simp only[AR]);omega)
  |((try simp only[AR]);omega)
  |skip)
def Bo:Sig:= {X:=ST×Int×Int×Bool×List Nd×Int×List UInt8×List Int,args:=fun x=>[srd x.1 (xh x),.int .i64 x.2.2.2.2.2.1,.str x.2.2.2.2.2.2.1,Ab x.2.2.2.2.2.2.2],pre:=fun x=>rOk x.1 (xh x),Y:=Unit,post:=fun x y=>True,res:=fun x y=> .int .i64 (AQ (xh x)),outs:=fun x y=>[srd x.1 (Ah (xh x) ⟨x.2.2.2.2.2.1,x.2.2.2.2.2.2.1,x.2.2.2.2.2.2.2,false⟩),.top,.top,.top],keep:=true}
theorem HI:Ai G Tryz.prog 36 Bo:=
 vcFun_okP [] [(27,⟨Nd,ndA true⟩)] false (fun x=>[]) Tryz.func36 rfl (by decide) trivial (fun(x:ST×Int×Int×Bool×List Nd×Int×List UInt8×List Int)=>True∧Aa (xh x).bad (rA Bo x [.int .i64 (0:Int),.box 0 [sgs x.1.sg,.int .i64 (xh x).pos,.bool true,.int .i64 (xh x).deep,Av (xh x).nodes],.top,.top,.top]) (Aa (decide ((↑(List.length (xh x).nodes):Int)≥(300:Int))) (rA Bo x [.int .i64 (0:Int),.box 0 [sgs x.1.sg,.int .i64 (xh x).pos,.bool true,.int .i64 (xh x).deep,Av (xh x).nodes],.top,.top,.top]) (∃(x_1:Nd),x.2.2.2.2.2.1=x_1.kind∧x.2.2.2.2.2.2.1=x_1.text∧Ab x.2.2.2.2.2.2.2=Ab x_1.kids∧false=x_1.blank∧∃(zs:List Nd),Av [x_1]=Av zs∧Bj (ndA true)∧AW (List.length (xh x).nodes+List.length zs) (56:Nat)∧inR IntKind.i64 ((↑(List.length ((xh x).nodes++zs)):Int)-(1:Int))∧∃(y:Unit),True∧(↑(List.length ((xh x).nodes++zs)):Int)-(1:Int)=AQ (xh x)∧sgs x.1.sg=sgs x.1.sg∧(xh x).pos=(Ah (xh x) {kind:=x.2.2.2.2.2.1,text:=x.2.2.2.2.2.2.1,kids:=x.2.2.2.2.2.2.2,blank:=false}).pos∧(xh x).bad=(Ah (xh x) {kind:=x.2.2.2.2.2.1,text:=x.2.2.2.2.2.2.1,kids:=x.2.2.2.2.2.2.2,blank:=false}).bad∧(xh x).deep=(Ah (xh x) {kind:=x.2.2.2.2.2.1,text:=x.2.2.2.2.2.2.1,kids:=x.2.2.2.2.2.2.2,blank:=false}).deep∧Av ((xh x).nodes++zs)=Av (Ah (xh x) {kind:=x.2.2.2.2.2.1,text:=x.2.2.2.2.2.2.1,kids:=x.2.2.2.2.2.2.2,blank:=false}).nodes∧True))) (fun x=>by kernel_rfl) fun(x:ST×Int×Int×Bool×List Nd×Int×List UInt8×List Int) (hx:rOk x.1 (xh x))=>(by
 dsimp only[Bc,Ab,Av,rA,Bo,Bu,sgs,srd,Au,Az]
 obtain⟨s,p,d,b,ns,k,t,ks⟩:=x;dsimp only[xg,xh] at hx ⊢
 have hx:rOk s ⟨p,d,b,ns⟩:=hx;have hs:=DV hx;dsimp only at hs
 (repeat' first|refine a1P ?_|(with_reducible first|rfl|exact True.intro|apply AK|apply And.intro|((first|apply AA|apply AI|apply AB|apply AJ)<;>intro _))|(apply Ax<;>intro _)|apply AH|refine Ae () ?_ ?_|((first|apply AO|apply AN|apply AM|apply AL|apply AG|apply AF|apply AE|apply AD|apply AC)<;>try dsimp only)|apply Ae|(refine Prod.forall.2 ?_;intro _;try dsimp only)|(intro _;try dsimp only))
 all_goals first
  |rfl
  |(simp [Ah,AQ,CX,Bd, *];done)
  |(have hn:ns.length=300:=by omega
    simp [Ah,AQ,CX,Bd, *];done)
  |(have hn:ns.length≠300:=by omega
    simp [Ah,AQ,CX,Bd, *];done)
  |((try simp only[AR,AW,List.length_append,List.length_cons,List.length_nil]);omega)
  |skip)
def FR:Sig:= {X:=ST×Int×Int×Bool×List Nd,args:=fun x=>[srd x.1 (xg x)],pre:=fun x=>rOk x.1 (xg x),Y:=Unit,post:=fun x y=>True,res:=fun x y=> .bool (blG x.1.sg (xg x)),outs:=fun x y=>[srd x.1 (xg x)],keep:=true}
theorem SZ:Ai G Tryz.prog 33 FR:=
 vcFun_okP [] [] false (fun x=>[]) Tryz.func33 rfl (by decide) trivial (fun(x:ST×Int×Int×Bool×List Nd)=>True∧true=true∧true=true∧Aa (decide ((xg x).pos<(↑(List.length x.1.sg):Int))) (((0:Int)≤(xg x).pos∧(xg x).pos<(↑(List.length x.1.sg):Int))∧∀(e:Sg),x.1.sg[Int.toNat (xg x).pos]? =some e→rA FR x [.bool e.blank,srd x.1 (xg x)]) (rA FR x [.bool false,srd x.1 (xg x)])) (fun x=>by kernel_rfl) fun(x:ST×Int×Int×Bool×List Nd) (hx:rOk x.1 (xg x))=>(by
 dsimp only[Bc,Av,rA,FR,Bu,sgs,srd,Au,Az]
 obtain⟨s,p,d,b,ns⟩:=x;dsimp only[xg,xh] at hx ⊢
 have hx:rOk s ⟨p,d,b,ns⟩:=hx;have hs:=DV hx;dsimp only at hs
 (repeat' first|(with_reducible first|rfl|exact True.intro|apply AK|apply And.intro|((first|apply AA|apply AI|apply AB|apply AJ)<;>intro _))|(apply Ax<;>intro _)|apply AH|refine Ae () ?_ ?_|((first|apply AO|apply AN|apply AM|apply AL|apply AG|apply AF|apply AE|apply AD|apply AC)<;>try dsimp only)|apply Ae|(refine Prod.forall.2 ?_;intro _;try dsimp only)|(intro _;try dsimp only))
 all_goals first
  |rfl
  |(simp [blG,Jv (show s.sg[_]? =some _ by assumption), *];done)
  |(simp [blG, *];done)
  |((try simp only[AR]);omega)
  |skip)
def Em:Sig:= {X:=ST×Int×Int×Bool×List Nd×Int×Bool,args:=fun x=>[srd x.1 (xh x),.int .i64 x.2.2.2.2.2.1,.bool x.2.2.2.2.2.2],pre:=fun x=>rOk x.1 (xh x)∧((xh x).bad=false→0≤x.2.2.2.2.2.1),Y:=Unit,post:=fun x y=>True,res:=fun x y=> .tup [],outs:=fun x y=>[srd x.1 (gBl (xh x) x.2.2.2.2.2.1 x.2.2.2.2.2.2),.top,.top],keep:=true}
theorem Ta:Ai G Tryz.prog 35 Em:=
 vcFun_okP [] [(27,⟨Nd,ndA true⟩)] false (fun x=>[]) Tryz.func35 rfl (by decide) trivial (fun(x:ST×Int×Int×Bool×List Nd×Int×Bool)=>True∧Aa (!(xh x).bad) (Aa (decide (x.2.2.2.2.2.1<(↑(List.length (xh x).nodes):Int))) (((0:Int)≤x.2.2.2.2.2.1∧x.2.2.2.2.2.1<(↑(List.length (xh x).nodes):Int))∧Int.toNat x.2.2.2.2.2.1<List.length (xh x).nodes∧∀(x_1:Nd),(xh x).nodes[Int.toNat x.2.2.2.2.2.1]? =some x_1→∃(x':Nd),([AV.int .i64 x'.kind,.str x'.text,Ab x'.kids]=[.int .i64 x_1.kind,.str x_1.text,Ab x_1.kids]∧(@List.nil AV)=[])∧x.2.2.2.2.2.2=x'.blank∧rA Em x [.tup [],.box 0 [sgs x.1.sg,.int .i64 (xh x).pos,.bool (xh x).bad,.int .i64 (xh x).deep,Av (List.set (xh x).nodes (Int.toNat x.2.2.2.2.2.1) x')],.top,.top]) (rA Em x [.tup [],srd x.1 (xh x),.top,.top])) (rA Em x [.tup [],srd x.1 (xh x),.top,.top])) (fun x=>by kernel_rfl) fun(x:ST×Int×Int×Bool×List Nd×Int×Bool) (hx:rOk x.1 (xh x)∧((xh x).bad=false→0≤x.2.2.2.2.2.1))=>(by
 dsimp only[Bc,Ab,Av,rA,Em,Bu,sgs,srd,Au,Az]
 obtain⟨s,p,d,b,ns,k,bl⟩:=x;dsimp only[xg,xh] at hx ⊢
 obtain⟨hx,hk⟩:=hx
 have hx:rOk s ⟨p,d,b,ns⟩:=hx;have hs:=DV hx;dsimp only at hs
 (repeat' first|refine b6l ?_|(with_reducible first|rfl|exact True.intro|apply AK|apply And.intro|((first|apply AA|apply AI|apply AB|apply AJ)<;>intro _))|(apply Ax<;>intro _)|apply AH|refine Ae () ?_ ?_|((first|apply AO|apply AN|apply AM|apply AL|apply AG|apply AF|apply AE|apply AD|apply AC)<;>try dsimp only)|apply Ae|(refine Prod.forall.2 ?_;intro _;try dsimp only)|(intro _;try dsimp only))
 all_goals first
  |rfl
  |(simp [gBl, *];done)
  |exact b6m (g:=⟨p,d,b,ns⟩) ‹_› ‹_› ‹_›
  |(have hk2:=hk ‹_›;(try simp only[AR]);omega)
  |((try simp only[AR]);omega)
  |skip)
end Go.My
end
section
namespace Go.My
open Go.Eng
theorem NX{sg:List Sg}{x:Gs}{f:Ps→PR}{k k':Int}{y y':Gs}(h:Ag sg x f (k,y))(h1:gsOk sg y')(h2:y'.deep=y.deep)(h3:y.pos≤y'.pos)(h4:pur y'=pur y)(h5:y'.bad=false→k'=k):Ag sg x f (k',y'):=by
 obtain⟨⟨a1,a2,a3,a4,a5⟩,b⟩:=h
 simp only at a1 a2 a3 a4 a5 b
 have hb:y'.bad=y.bad:=by
  cases hy:y.bad with
  |true=>exact a1L.1 (h4.trans (DU hy))
  |false=>
   cases hy':y'.bad with
   |false=>rfl
   |true=>rw[DU hy',Dd hy] at h4;cases h4
 refine⟨⟨h1,by simp only;omega,by simp only;omega,by simp only;rw[h4];exact a4,fun p hp=> ?_⟩,fun hw=> ?_⟩
 ·simp only
  have:=a5 p hp
  rw[h5 ?_]
  ·exact this
  ·cases hy:y'.bad with
   |false=>rfl
   |true=>rw[←h4,DU hy,hp] at a4;cases a4
 ·simp only at hw ⊢
  have:=b (by rw[←hb];exact hw);omega
theorem Xk{α:Type}{sg:List Sg}{x y y':Gs}{f g:Ps→Option (α×Ps)}{d:Int}(h:restP sg x f y g d)(h1:gsOk sg y')(h2:y'.deep=y.deep)(h3:y.pos≤y'.pos)(h4:pur y'=pur y):restP sg x f y' g d:=by
 obtain⟨a1,a2,a3,a4⟩:=h
 exact⟨h1,by omega,by omega,by rw[h4];exact a4⟩
theorem Xl{sg:List Sg}{g:Gs}{w:Nd}(h:gsOk sg g)(hl:g.pos<sg.length)(hw:Cz w):gsOk sg (Ah (An g) w)∧(Ah (An g) w).deep=(BX (Ah g w)).deep∧(BX (Ah g w)).pos≤(Ah (An g) w).pos∧pur (Ah (An g) w)=pur (BX (Ah g w))∧AQ (An g)=AQ g:=by
 refine⟨IW (Fc h hl) hw,?_⟩
 cases hf:CX g with
 |true=>
  have hf2:CX (An g)=true:=hf
  simp only[Ah,AQ,hf,hf2,if_true]
  simp [BX,Bd,An,pur];omega
 |false=>
  have hf2:CX (An g)=false:=hf
  have:=(RD hf).1
  simp only[Ah,AQ,hf,hf2,Bool.false_eq_true,if_false]
  simp [BX,Bd,An,pur,this]
theorem It{sg:List Sg}{x g:Gs}{f:Ps→PR}{m:List UInt8}{w:Nd}(hg:gsOk sg g)(hw:Cz w)(h:Ag sg x f (BC sg g m,Bs sg g m w)):Ag sg x f (AQ (Aq sg g m),Ah (Aq sg g m) w):=by
 cases hq:isG sg g 4 m with
 |true=>
  obtain⟨a,b,c,d,e⟩:=Xl hg (CC hq (by omega)).2 hw
  simp only[Bs,BC,Aq,hq,if_true] at h ⊢
  exact NX h a b c d (fun _=>e)
 |false=>
  simp only[Bs,BC,Aq,hq,Bool.false_eq_true,if_false] at h ⊢
  have hf:CX (Bd g)=true:=by simp [CX,Bd]
  simp only[Ah,AQ,hf,if_true]
  exact NX h hg rfl (Int.le_refl _) rfl (fun _=>rfl)
theorem PY{sg:List Sg}{g:Gs}{k:Int}(hk:k≠1):kdG sg g k=decide ((pkG sg g 0).kind=k):=by simp [kdG,hk]
theorem NY{sg:List Sg}{x g:Gs}{f:Ps→PR}{k c:Int}(hs:sgB sg)(hg:gsOk sg g)(hk:k≠0)(hq:kdG sg g k=true)(h:Ag sg x f (AQ g,De sg g c false)):Ag sg x f (AQ (Be sg g k),Ah (Be sg g k) ⟨c,Bz sg g k,[],false⟩):=by
 have hl:=SX hk hq
 have hw:Cz ⟨c,(pkG sg g 0).text,[],false⟩:=⟨KE hs,by simp⟩
 obtain⟨a1,a2,a3,a4,a5⟩:=Xl hg hl.2 hw
 simp only[Be,Bz,hq,if_true]
 exact NX h a1 a2 a3 a4 (fun _=>a5)
theorem b6o{sg:List Sg}{g:Gs}(hs:sgB sg)(hg:gsOk sg g):Ag sg g (BB sg) (AQ (Be sg g 1),Ah (Be sg g 1) ⟨1,Bz sg g 1,[],false⟩):=by
 have h:=Jx hs hg
 cases hq:nmG sg g 0 with
 |true=>
  refine NY hs hg (by omega) (by rw[Jc];exact hq) ?_
  simp only[CD,Dp,hq,if_true] at h;exact h
 |false=>
  have hq2:kdG sg g 1=false:=by rw[Jc];exact hq
  simp only[CD,Dp,hq,Bool.false_eq_true,if_false] at h
  have hf:CX (Bd g)=true:=by simp [CX,Bd]
  simp only[Be,Bz,hq2,Bool.false_eq_true,if_false,Ah,AQ,hf,if_true]
  exact NX h hg rfl (Int.le_refl _) rfl (fun _=>rfl)
theorem Iu{sg:List Sg}{g:Gs}:Be sg g 1=BR sg g∧Bz sg g 1=BS sg g:=by
 simp only[Be,BR,Bz,BS,Jc];exact⟨trivial,trivial⟩
theorem Tb{sg:List Sg}{g:Gs}{m:List UInt8}(h:g.bad=true):Aq sg g m=g:=by
 have:isG sg g 4 m=false:=a1M (DU h) (by omega)
 simp only[Aq,this,Bool.false_eq_true,if_false,Bd]
 cases g;simp only at h;simp [h]
theorem JO{sg:List Sg}{g:Gs}{m:List UInt8}(h:isG sg g 4 m=true):Aq sg g m=An g:=by simp [Aq,h]
theorem PZ{sg:List Sg}{g:Gs}{m:List UInt8}(h:isG sg g 4 m=false):Aq sg g m=Bd g:=by simp [Aq,h]
theorem Xm{w:Nd}{s:Ps}(h:¬300≤s.nodes.length):Ba w s=some ((s.nodes.length:Int),⟨s.pos,s.deep,s.nodes++[w]⟩):=if_neg h
theorem Xn{w:Nd}{s:Ps}(h:300≤s.nodes.length):Ba w s=none:=if_pos h
def chS(sg:List Sg)(n l:Nat)(x y:Gs)(t:List UInt8)(ks:List Int)(N:Nat):Prop:=
 restP sg x (pE sg (n+1) (.chain l)) y (chF sg n l N t ks) 0∧(2*((sg.length:Int)-y.pos)+4≤N∨(t=[]∧2*((sg.length:Int)-y.pos)+3≤N))∧(ks.length:Int)≤y.pos+1∧(y.bad=false→x.pos<y.pos)∧(t=[]→ks.length=1)∧(t≠[]→2≤ks.length∧t∈Bv l)
theorem b6p{sg:List Sg}{x:Gs}{n l:Nat}{z:Int×Gs}(h:gsOk sg x)(hl:l≠6)(h1:Ag sg x (pE sg n (.chain (l+1))) z):chS sg n l x z.2 [] [z.1] (2*sg.length+4):=by
 obtain⟨a,b,c⟩:=a2E h hl h1
 have:=a.1.1
 exact⟨a,.inr ⟨rfl,b⟩,by simp;omega,c,fun _=>rfl,fun h=>(h rfl).elim⟩
theorem Xo{sg:List Sg}{l:Nat}{m:List UInt8}{ks:List Int}(hs:sgB sg)(hml:m∈Bv l)(hk:(ks.length:Int)≤sg.length+1):Cz ⟨7,m,ks,false⟩:=by
 refine⟨?_,by have:=hs.1;simp only;omega⟩
 simp only
 unfold Bv at hml
 split at hml<;>simp at hml<;>(first|(subst hml;simp)|(rcases hml with rfl|rfl<;>simp))
theorem b6q{sg:List Sg}{n l:Nat}{x y:Gs}{t:List UInt8}{ks:List Int}{N:Nat}{z:Int×Gs}(h:chS sg n l x y t ks N)(hm:BD sg l y≠[])(ht:t=[]∨BD sg l y=t)(hz:Ag sg (An y) (pE sg n (.chain (l+1))) z):
 chS sg n l x z.2 (BD sg l y) (ks++[z.1]) (N-1)∧N-1<N:=by
 obtain⟨h1,hN,hk,hb,hk1,hk2⟩:=h
 have hq:=(HB hm).1
 have hp:=h1.1.1
 have hl:=CC hq (by omega)
 match N with
 |0=>omega
 |M+1=>
  refine⟨?_,by omega⟩
  have k1:=Gt (g':=fun s=>(pE sg n (.chain (l+1)) s).bind fun p=>chF sg n l M (BD sg l y) (ks++[p.1]) p.2) h1 (by omega) hq (fun s hs hts=>by
   rw[chF,EM,if_neg ?_,if_neg (by rw[FL hs];exact hm),FL hs];rfl
   rw[FL hs];rintro⟨q1,q2⟩;rcases ht with ht|ht
   ·exact q1 ht
   ·exact q2 ht)
  have k2:=BJ (k:=fun k s=>chF sg n l M (BD sg l y) (ks++[k]) s) k1 hz.1 (fun _ _=>rfl)
  have e:=CF hz
  simp only[An] at e
  have:=h1.2.2.1
  simp only[Nat.add_sub_cancel]
  refine⟨k2,.inl (by omega),by simp;omega,fun hb2=>by omega,fun he=>(hm he).elim,fun _=>⟨?_,(HB hm).2⟩⟩
  simp only[List.length_append,List.length_cons,List.length_nil]
  rcases Classical.em (t=[]) with e0|e0
  ·have:=hk1 e0;omega
  ·have:=(hk2 e0).1;omega
theorem b6r{sg:List Sg}{n l:Nat}{x y:Gs}{t:List UInt8}{ks:List Int}{N:Nat}{z:Int×Gs}(hs:sgB sg)(h:chS sg n l x y t ks N)(hm:BD sg l y≠[])(ht:t≠[])(hne:BD sg l y≠t)(hz:Ag sg (Ah (An y) ⟨7,t,ks,false⟩) (pE sg n (.chain (l+1))) z):
 chS sg n l x z.2 (BD sg l y) ([AQ (An y)]++[z.1]) (N-2)∧N-2<N:=by
 obtain⟨h1,hN,hk,hb,hk1,hk2⟩:=h
 have hq:=(HB hm).1
 have hp:=h1.1.1
 have hl:=CC hq (by omega)
 have hN2:2*((sg.length:Int)-y.pos)+4≤N:=by
  rcases hN with h|h
  ·exact h
  ·exact(ht h.1).elim
 match N with
 |0=>omega
 |1=>omega
 |M+2=>
  refine⟨?_,by omega⟩
  have hw:Cz ⟨7,t,ks,false⟩:=Xo hs (hk2 ht).2 (by omega)
  have k1:=Gt (g':=fun s=>(Ba ⟨7,t,ks,false⟩ s).bind fun p=>(pE sg n (.chain (l+1)) p.2).bind fun q=>chF sg n l M (BD sg l y) ([p.1]++[q.1]) q.2) h1 (by omega) hq (fun s hs hts=>by
   rw[chF,EM,if_pos ⟨ht,by rw[FL hs];exact hne⟩]
   by_cases h3:300≤s.nodes.length
   ·rw[Xn h3,Xn (s:=adv s) h3];rfl
   ·rw[Xm h3,Xm (s:=adv s) h3]
    simp only[Option.bind_some]
    have e:Ju sg l ⟨s.pos,s.deep,s.nodes++[⟨7,t,ks,false⟩]⟩=BD sg l y:=by rw[←FL hs];rfl
    rw[EM,if_neg (by simp),if_neg (by rw[e];exact hm),e];rfl)
  have k2:=BJ (k:=fun k s=>(pE sg n (.chain (l+1)) s).bind fun q=>chF sg n l M (BD sg l y) ([k]++[q.1]) q.2) k1 (Pv k1.1 hw) (fun _ _=>rfl)
  have k3:=BJ (k:=fun k s=>chF sg n l M (BD sg l y) ([AQ (An y)]++[k]) s) k2 hz.1 (fun _ _=>rfl)
  have e:=CF hz
  obtain⟨d1,d2,d3⟩:= @HA (An y) ⟨7,t,ks,false⟩
  rw[d2] at e;simp only[An] at e
  have:=h1.2.2.1
  simp only[Nat.add_sub_cancel]
  refine⟨k3,.inl (by omega),by simp;omega,fun hb2=>by omega,fun he=>(hm he).elim,fun _=>⟨by simp,(HB hm).2⟩⟩
theorem a4F{sg:List Sg}{n l:Nat}{x y:Gs}{t:List UInt8}{ks:List Int}{N:Nat}{k:Int}(h:chS sg n l x y t ks N)(hm:y.bad=true∨BD sg l y=[])(hl:ks.length=1)(hk:ks[0]? =some k):Ag sg x (pE sg (n+1) (.chain l)) (k,y):=by
 obtain⟨h1,hN,hk0,hb,hk1,hk2⟩:=h
 rcases hm with hm|hm
 ·exact⟨PE h1 hm,fun hb2=>by simp only at hb2;rw[hm] at hb2;cases hb2⟩
 ·have ht:t=[]:=by
   rcases Classical.em (t=[]) with e0|e0
   ·exact e0
   ·have:=(hk2 e0).1;omega
  subst ht
  have hp:=h1.1.1
  match ks,hl with
  |[k0],_=>
   simp at hk;subst hk
   match N with
   |0=>omega
   |N+1=>exact⟨FK (DJ h1 (g':=fun s=>some (k0,s)) (fun s hs=>by rw[chF,EM,if_neg (by simp),if_pos (by rw[FL hs,hm])];rfl)),hb⟩
theorem a4G{sg:List Sg}{n l:Nat}{x y:Gs}{t:List UInt8}{ks:List Int}{N:Nat}(hs:sgB sg)(h:chS sg n l x y t ks N)(hm:y.bad=true∨BD sg l y=[])(hl:ks.length≠1):Ag sg x (pE sg (n+1) (.chain l)) (AQ y,Ah y ⟨7,t,ks,false⟩):=by
 obtain⟨h1,hN,hk0,hb,hk1,hk2⟩:=h
 have ht:t≠[]:=fun e=>hl (hk1 e)
 have hp:=h1.1.1
 have hw:Cz ⟨7,t,ks,false⟩:=Xo hs (hk2 ht).2 (by omega)
 obtain⟨d1,d2,d3⟩:= @HA y ⟨7,t,ks,false⟩
 have hN2:2*((sg.length:Int)-y.pos)+4≤N:=by
  rcases hN with h|h
  ·exact h
  ·exact(ht h.1).elim
 match N with
 |0=>omega
 |1=>omega
 |M+2=>
  have k1:restP sg x (pE sg (n+1) (.chain l)) y (Ba ⟨7,t,ks,false⟩) 0:=by
   rcases hm with hm|hm
   ·exact DJ h1 (fun s hs=>by rw[DU hm] at hs;cases hs)
   ·refine DJ h1 (fun s hs=> ?_)
    rw[chF,EM,if_pos ⟨ht,by rw[FL hs,hm];exact Ne.symm ht⟩,Ba]
    split
    ·rfl
    ·simp only[Option.bind_some]
     have e:Ju sg l ⟨s.pos,s.deep,s.nodes++[⟨7,t,ks,false⟩]⟩=[]:=by rw[←hm,←FL hs];rfl
     rw[EM,if_neg (by simp),if_pos e];rfl
  exact⟨RY k1 hw,fun hb2=>by simp only[d2];exact hb (d3 hb2)⟩
def gM(y:Gs)(m:List UInt8):Gs:=if m=[] then y else An y
theorem Xp{y:Gs}:gM y []=y:=rfl
theorem Tc{y:Gs}{m:List UInt8}(h:m≠[]):gM y m=An y:=if_neg h
def mkQ(sg:List Sg)(y:Gs)(l:Nat)(i:Int)(m:List UInt8):Prop:=(0≤i∧i≤(Bv l).length)∧((m=[]∧BD sg l y=(((Bv l).drop i.toNat).find? fun m=>isG sg y 4 m).getD [])∨(m≠[]∧m=BD sg l y))
theorem b6s{sg:List Sg}{y:Gs}{l:Nat}:mkQ sg y l 0 []:=⟨by omega,.inl ⟨rfl,rfl⟩⟩
theorem b6t{sg:List Sg}{y:Gs}{l:Nat}{i:Int}{m v:List UInt8}(h:mkQ sg y l i m)(hm:m=[])(ha:(Bv l)[i.toNat]? =some v)(hg:isG sg (gM y m) 4 v=false):mkQ sg y l (i+1) m:=by
 subst hm
 have hlt:=(List.getElem?_eq_some_iff.1 ha).1
 refine⟨by have:=h.1;omega,?_⟩
 rcases h.2 with h2|h2
 ·left;refine⟨rfl,?_⟩
  rw[h2.2,List.drop_eq_getElem_cons hlt,(List.getElem?_eq_some_iff.1 ha).2,List.find?_cons_of_neg (by simp;exact hg),show(i+1).toNat=i.toNat+1 by have:=h.1;omega]
 ·exact(h2.1 rfl).elim
theorem Xq{sg:List Sg}{y:Gs}{l:Nat}{i:Int}{m v:List UInt8}(h:mkQ sg y l i m)(hm:m=[])(ha:(Bv l)[i.toNat]? =some v)(hg:isG sg (gM y m) 4 v=true):mkQ sg y l (i+1) v∧Al sg (gM y m) v=gM y v:=by
 subst hm
 have hlt:=(List.getElem?_eq_some_iff.1 ha).1
 have hv:=Sa (List.mem_of_getElem? ha)
 refine⟨⟨by have:=h.1;omega,.inr ⟨hv,?_⟩⟩,?_⟩
 ·exact(a2F (List.mem_of_getElem? ha) hg).symm
 ·rw[Xp] at hg ⊢;rw[Tc hv];exact Dg hg
theorem b6u{sg:List Sg}{y:Gs}{l:Nat}{i:Int}{m:List UInt8}(h:mkQ sg y l i m)(hi:i<((Bv l).length:Int))(hm:m≠[]):mkQ sg y l (i+1) m:=by
 refine⟨by have:=h.1;omega,?_⟩
 rcases h.2 with h2|h2
 ·exact(hm h2.1).elim
 ·exact .inr h2
theorem Td{sg:List Sg}{y:Gs}{l:Nat}{i:Int}{m:List UInt8}(h:mkQ sg y l i m)(hi:¬i<((Bv l).length:Int)):m=BD sg l y:=by
 rcases h.2 with h2|h2
 ·rw[h2.2,List.drop_eq_nil_of_le (by omega),h2.1];rfl
 ·exact h2.2
theorem a4H{sg:List Sg}{x:Gs}{f:Ps→PR}{a:Int}(h:gsOk sg x)(hb:x.bad=true):Ag sg x f (a,x):=⟨PE (Ds h) hb,fun hb2=>by simp only at hb2;rw[hb] at hb2;cases hb2⟩
theorem b6v{sg:List Sg}{n:Nat}{x y y':Gs}{k k':Int}{N:Nat}(h:enI sg n x y k N)(h1:gsOk sg y')(h2:y'.deep=y.deep)(h3:y.pos≤y'.pos)(h4:pur y'=pur y)(h5:y'.bad=false→k'=k):enI sg n x y' k' N:=by
 obtain⟨a,b,c⟩:=h
 cases hb:y'.bad with
 |false=>
  have hy:y.bad=false:=by
   cases hy:y.bad with
   |false=>rfl
   |true=>rw[DU hy,Dd hb] at h4;cases h4
  rw[h5 hb]
  exact⟨Xk a h1 h2 h3 h4,fun _=>by have:=b hy;omega,fun _=>by have:=c hy;omega⟩
 |true=>
  have hy:y.bad=true:=by
   cases hy:y.bad with
   |true=>rfl
   |false=>rw[DU hb,Dd hy] at h4;cases h4
  refine⟨DJ (Xk a h1 h2 h3 h4) (fun s hs=>by rw[DU hb] at hs;cases hs),fun e=>(Bool.noConfusion (hb.symm.trans e)),fun e=>(Bool.noConfusion (hb.symm.trans e))⟩
theorem b6w{sg:List Sg}{n:Nat}{x y:Gs}{a k:Int}{N:Nat}(h:Ag sg x (pE sg (n+1) .fin) (a,y))(hb:y.bad=true):enI sg n x y k N:=
 ⟨DJ (b3n h.1) (fun s hs=>by rw[DU hb] at hs;cases hs),fun e=>(Bool.noConfusion (hb.symm.trans e)),fun e=>(Bool.noConfusion (hb.symm.trans e))⟩
theorem b6x{sg:List Sg}{n:Nat}{x y:Gs}{k:Int}{N:Nat}(hs:sgB sg)(h:enI sg n x y k N)(hp:isG sg y 4 [40]=false)(hq:isG sg y 4 [46]=true):
 enI sg n x (Ah (Be sg (An y) 1) ⟨6,Bz sg (An y) 1,[k],false⟩) (AQ (Be sg (An y) 1)) (N-1)∧N-1<N:=by
 have hl:=CC hq (by omega)
 obtain⟨M,rfl⟩:=PG h hl.1
 refine⟨?_,by omega⟩
 have ho:=Fc h.1.1 hl.2
 have hw:Cz ⟨6,(pkG sg (An y) 0).text,[k],false⟩:=⟨KE hs,by simp⟩
 cases hn:nmG sg (An y) 0 with
 |true=>
  obtain⟨M',e,h2⟩:=a2H hs h hp hq hn
  have:M'=M:=by omega
  subst this
  obtain⟨a1,a2,a3,a4,a5⟩:=Xl ho (by have:=(IV hn).2;omega) hw
  have e1:Be sg (An y) 1=An (An y):=by rw[Be,Jc,if_pos hn]
  have e2:Bz sg (An y) 1=(pkG sg (An y) 0).text:=by rw[Bz,Jc,if_pos hn]
  rw[e1,e2]
  exact b6v h2 a1 a2 a3 a4 (fun _=>a5)
 |false=>
  have h2:=a2I (a:=0) h hp hq hn
  have e1:Be sg (An y) 1=Bd (An y):=by rw[Be,Jc,if_neg (by simp [hn])]
  have hf:CX (Bd (An y))=true:=by simp [CX,Bd]
  rw[e1]
  have e3:Ah (Bd (An y)) ⟨6,Bz sg (An y) 1,[k],false⟩=Bd (Bd (An y)):=if_pos hf
  rw[e3]
  exact b6w (a:=0) (NX h2 ho rfl (Int.le_refl _) rfl (fun _=>rfl)) rfl
def vlQ(sg:List Sg)(one:Ps→PR)(m:List UInt8)(ks0:List Int)(x:Gs)(y:List Int×Gs):Prop:=∃l:List Int×Gs,(Bl sg x (Bn sg one m (sg.length+1) []) l∧l.1.length≤3001)∧y=(ks0++l.1,Aq sg l.2 m)
theorem Xr{s:ST}{one:Ps→PR}{m:List UInt8}{ks0:List Int}{x:Gs}{y:List Int×Gs}(hs:sgB s.sg)(h:vlQ s.sg one m ks0 x y):rOk s y.2∧y.1.length≤ks0.length+3001∧y.2.deep=x.deep∧x.pos≤y.2.pos:=by
 obtain⟨l,⟨h1,h2⟩,rfl⟩:=h
 have t:=FM (m:=m) h1.1
 have:=h1.2.1;have:=h1.2.2.1
 exact⟨⟨hs,t.1⟩,by simp;omega,by simp only;omega,by simp only;omega⟩
theorem a4I{sg:List Sg}{x:Gs}{one:Ps→PR}{k:Int}{y:List Int×Gs}(hx:gsOk sg x)(h:vlQ sg one [41] [k] (Aq sg x [40]) y):Ag sg x (Dc sg one k) (AQ y.2,Ah y.2 ⟨5,[],y.1,false⟩):=by
 obtain⟨l,⟨h1,h2⟩,rfl⟩:=h
 exact It h1.1 ⟨by simp,by simp;omega⟩ (a2Q hx ⟨h1,h2⟩)
theorem b6y{sg:List Sg}{x y:Gs}{n N:Nat}{ks:List Int}{c w:Int×Gs}(h:KJ sg n x y ks N)(hq:isG sg y 4 [46,46]=true)(hc:Ag sg (An y) (BB sg) c)
 (h2:Ag sg c.2 (Dc sg (pE sg n .value) c.1) w):∃M,N=M+1∧KJ sg n x w.2 (ks++[w.1]) M:=by
 obtain⟨h1,hN,hk,hb⟩:=h
 obtain⟨hl1,hl⟩:=CC hq (by omega)
 match N with
 |0=>omega
 |M+1=>
  refine⟨M,rfl,?_⟩
  have k1:=Gt (g':=fun s=>((BB sg s).bind fun p=>(Dc sg (pE sg n .value) p.1 p.2).bind fun q=>FJ sg (pE sg n .value) M (ks++[q.1]) q.2).bind fun q=>Ba ⟨10,[],q.1,false⟩ q.2)
   h1 (by omega) hq (fun s hs ht=>by rw[FJ,if_pos (show isM sg s [46,46]=true from ht)])
  have k2:=BJ (k:=fun k s=>((Dc sg (pE sg n .value) k s).bind fun q=>FJ sg (pE sg n .value) M (ks++[q.1]) q.2).bind fun q=>Ba ⟨10,[],q.1,false⟩ q.2) k1 hc.1 (fun s _=>by simp only[Option.bind_assoc])
  have k3:=BJ (k:=fun k s=>(FJ sg (pE sg n .value) M (ks++[k]) s).bind fun q=>Ba ⟨10,[],q.1,false⟩ q.2) k2 h2.1 (fun s _=>by simp only[Option.bind_assoc])
  have e0:(An y).pos≤c.2.pos:=hc.1.2.2.1
  have e1:=CF h2
  have ea:(An y).pos=y.pos+1:=rfl
  refine⟨k3,by omega,by simp;omega,fun hb2=> ?_⟩
  have:=h1.2.2.1
  omega
theorem b6z{sg:List Sg}(hm:sgM sg){s:Ps}(h0:0≤s.pos)(h:Et sg s=true):KI sg s=true:=by
 have hp:∀(n:Nat) (i:Int),0≤i→0≤Dr sg n i:=by
  intro n
  induction n with
  |zero=>intro i hi;simpa [Dr] using hi
  |succ n ih=>
   intro i hi;rw[Dr];split
   ·split
    ·exact ih _ (by omega)
    ·omega
   ·exact hi
 exact a2x hm _ _ (by omega) (by rw[←Wr hm (hp _ _ (by omega))];exact h)
theorem b6A{sg:List Sg}(hm:sgM sg){s:Ps}(h0:0≤s.pos)(h1:KI sg s=true)(h2:Et sg s=false)(N:Nat):Bn sg (BB sg) [41] N [] (adv s)=none:=by
 have hp:∀(n:Nat) (i:Int),0≤i→0≤Dr sg n i:=by
  intro n
  induction n with
  |zero=>intro i hi;simpa [Dr] using hi
  |succ n ih=>
   intro i hi;rw[Dr];split
   ·split
    ·exact ih _ (by omega)
    ·omega
   ·exact hi
 exact a2y hm (sg.length+1) (s.pos+1) (by omega) h1 (by rw[←Wr hm (hp _ _ (by omega))];exact h2) N [] (adv s) rfl
theorem b6B{sg:List Sg}{x:Gs}{n:Nat}{z:Int×Gs}(hm:sgM sg)(hx:gsOk sg x)(h1:(pkG sg x 0).kind≠1)(h2:(pkG sg x 0).kind≠2)(h3:(pkG sg x 0).kind≠3)(hn:isG sg x 4 [91]=false)(hq:isG sg x 4 [40]=true)
 (ha:∀s,pur x=some s→KI sg s=true) (hz:Ag sg x (fnR sg n) z):Ag sg x (pE sg (n+1) .base) z:=by
 refine KN hz (fun s hs=> ?_)
 have h0:0≤s.pos:=by obtain⟨_,rfl⟩:=Eu.1 hs;exact hx.1.1
 cases har:Et sg s with
 |true=>rw[NO hs h1 h2 h3,if_neg (by simp [Ez hs hn]),if_pos (by simp [Ie hs hq,har]),fnR,BG,if_pos (Ie hs hq)];rfl
 |false=>
  rw[NO hs h1 h2 h3,if_neg (by simp [Ez hs hn]),if_neg (by simp [har]),if_pos (Ie hs hq),b3q (x:=⟨0,[],[],false⟩) hm h0 (ha s hs) har (fun k=>⟨11,[],[k],false⟩),fnR,BG,if_pos (Ie hs hq)]
  simp only[Option.bind_some]
  rw[b6A hm h0 (ha s hs) har];rfl
theorem b6C{sg:List Sg}{x:Gs}{n:Nat}{z:Int×Gs}(hm:sgM sg)(h:gsOk sg x)(h1:(pkG sg x 0).kind≠1)(h2:(pkG sg x 0).kind≠2)(h3:(pkG sg x 0).kind≠3)(hn:isG sg x 4 [91]=false)(hq:isG sg x 4 [40]=true)
 (ha:∀s,pur x=some s→KI sg s=false) (hz:Ag sg (An x) (pE sg n .value) z):
 Ag sg x (pE sg (n+1) .base) (AQ (Aq sg z.2 [41]),Ah (Aq sg z.2 [41]) ⟨11,[],[z.1],false⟩):=by
 refine It (EC hz) ⟨by simp,by simp⟩ (a2L h h1 h2 h3 hn hq (fun s hs=> ?_) hz)
 have h0:0≤s.pos:=by obtain⟨_,rfl⟩:=Eu.1 hs;exact h.1.1
 cases har:Et sg s with
 |false=>rfl
 |true=>have:=b6z hm h0 har;rw[ha s hs] at this;cases this
end Go.My
end
section
namespace Go.My
open Go.Eng Go.Proofs
variable {G:GInv}
def vQ(r n:Nat)(s:ST)(g:Gs):Prop:=vP r n s g∧sgM s.sg
def wQ(r n:Nat)(s:ST)(g:Gs):Prop:=wP r n s g∧sgM s.sg
def Ms(n:Nat):Sig:= {X:=ST×Int×Int×Bool×List Nd,args:=fun x=>[srd x.1 (xg x)],pre:=fun x=>vQ 11 n x.1 (xg x),Y:=Int×Int×Int×Bool×List Nd,post:=fun x y=>Ag x.1.sg (xg x) (pE x.1.sg n .value) (yS y),res:=fun x y=> .int .i64 y.1,outs:=fun x y=>[srd x.1 (yG y.2)],keep:=true}
def Hc(n:Nat):Sig:= {X:=ST×Int×Int×Bool×List Nd,args:=fun x=>[srd x.1 (xg x)],pre:=fun x=>vQ 10 n x.1 (xg x),Y:=Int×Int×Int×Bool×List Nd,post:=fun x y=>Ag x.1.sg (xg x) (pE x.1.sg n .pick) (yS y),res:=fun x y=> .int .i64 y.1,outs:=fun x y=>[srd x.1 (yG y.2)],keep:=true}
def Iv(n:Nat):Sig:= {X:=ST×Int×Int×Bool×List Nd×Int,args:=fun x=>[srd x.1 (xh x),.int .i64 x.2.2.2.2.2],pre:=fun x=>wQ (9-x.2.2.2.2.2.toNat) n x.1 (xh x)∧0≤x.2.2.2.2.2∧x.2.2.2.2.2≤6,Y:=Int×Int×Int×Bool×List Nd,post:=fun x y=>Ag x.1.sg (xh x) (pE x.1.sg n (.chain x.2.2.2.2.2.toNat)) (yS y),res:=fun x y=> .int .i64 y.1,outs:=fun x y=>[srd x.1 (yG y.2),.top],keep:=true}
def Te(n:Nat):Sig:= {X:=ST×Int×Int×Bool×List Nd,args:=fun x=>[srd x.1 (xg x)],pre:=fun x=>wQ 2 n x.1 (xg x),Y:=Int×Int×Int×Bool×List Nd,post:=fun x y=>Ag x.1.sg (xg x) (pE x.1.sg n .fin) (yS y),res:=fun x y=> .int .i64 y.1,outs:=fun x y=>[srd x.1 (yG y.2)],keep:=true}
def Tf(n:Nat):Sig:= {X:=ST×Int×Int×Bool×List Nd,args:=fun x=>[srd x.1 (xg x)],pre:=fun x=>wQ 1 n x.1 (xg x),Y:=Int×Int×Int×Bool×List Nd,post:=fun x y=>Ag x.1.sg (xg x) (pE x.1.sg n .base) (yS y),res:=fun x y=> .int .i64 y.1,outs:=fun x y=>[srd x.1 (yG y.2)],keep:=true}
structure qAll (G:GInv) (n:Nat):Prop where
 val:Ai G Go.Proofs.Tryz.prog 91 (Ms n)
 pick:Ai G Go.Proofs.Tryz.prog 109 (Hc n)
 chain:Ai G Go.Proofs.Tryz.prog 137 (Iv n)
 fin:Ai G Go.Proofs.Tryz.prog 180 (Te n)
 base:Ai G Go.Proofs.Tryz.prog 206 (Tf n)
def saI(sg:List Sg)(p:Int)(i:Int)(N:Nat):Prop:=(p+1≤i∧i≤sg.length+1∧(sg.length:Int)-i<N)∧EB sg (sg.length+1) (p+1)=EB sg N i
def arG(sg:List Sg)(x:Gs):Bool:=isG sg x 4 [40]&&KI sg ⟨x.pos,x.deep,x.nodes⟩
theorem b6D{sg:List Sg}{p i:Int}{N:Nat}(h:saI sg p i N):p+1≤i∧i≤sg.length+1:=⟨h.1.1,h.1.2.1⟩
theorem b6E{sg:List Sg}{p:Int}(h0:0≤p)(h:p≤sg.length):saI sg p (p+1) (sg.length+1):=⟨by omega,rfl⟩
theorem a4J{sg:List Sg}{p i:Int}{N:Nat}(h0:0≤p)(h:saI sg p i N)(h1:i+1<sg.length)(hk:(sgO sg i).kind=1)(ht:((sgO sg (i+1)).text==[44])=true):saI sg p (i+1+1) (N-1)∧N-1<N:=by
 obtain⟨⟨a1,a2,a3⟩,h4⟩:=h
 match N with
 |0=>omega
 |N+1=>
  refine⟨⟨⟨by omega,by omega,by simp;omega⟩,?_⟩,by omega⟩
  rw[h4,EB,if_pos ⟨h1,hk⟩,if_pos (by simpa using ht)]
  simp only[Nat.add_sub_cancel];congr 1;omega
theorem b6F{sg:List Sg}{p i:Int}{N:Nat}(h:saI sg p i N)(h1:i+1<sg.length)(hk:(sgO sg i).kind=1)(ht:((sgO sg (i+1)).text==[44])=false):EB sg (sg.length+1) (p+1)=i+1:=by
 obtain⟨⟨a1,a2,a3⟩,h4⟩:=h
 match N with
 |0=>omega
 |N+1=>rw[h4,EB,if_pos ⟨h1,hk⟩,if_neg (by simpa using ht)]
theorem b6G{sg:List Sg}{p i:Int}{N:Nat}(h:saI sg p i N)(h1:¬i+1<sg.length):EB sg (sg.length+1) (p+1)=i:=by
 rw[h.2]
 match N with
 |0=>rfl
 |N+1=>rw[EB,if_neg (fun hh=>h1 hh.1)]
theorem b6H{sg:List Sg}{p i:Int}{N:Nat}(h:saI sg p i N)(hk:(sgO sg i).kind≠1):EB sg (sg.length+1) (p+1)=i:=by
 rw[h.2]
 match N with
 |0=>rfl
 |N+1=>rw[EB,if_neg (fun hh=>hk hh.2)]
theorem b6I{sg:List Sg}{x:Gs}(h:isG sg x 4 [40]=false):false=arG sg x:=by simp [arG,h]
theorem Xs{sg:List Sg}{x:Gs}{i:Int}{b:Bool}(h:isG sg x 4 [40]=true)(hi:EB sg (sg.length+1) (x.pos+1)=i)(hb:b=Fs sg i):b=arG sg x:=by
 rw[arG,h,Bool.true_and,KI];simp only[hi];exact hb
theorem a4K{sg:List Sg}{i k:Int}{e:Sg}(he:sg[i.toNat]? =some e)(hk:e.kind=k):(sgO sg i).kind=k:=by rw[Jv he];exact hk
theorem a4L{sg:List Sg}{i:Int}{e:Sg}{m:List UInt8}{b:Bool}(he:sg[i.toNat]? =some e)(hk:(e.text==m)=b):((sgO sg i).text==m)=b:=by rw[Jv he];exact hk
def lqJ(sg:List Sg)(one:Ps→PR)(m:List UInt8)(x y:Gs)(ks:List Int)(N:Nat):Prop:=EQ sg one m x y ks N∧(y.bad=false→x.bad=false)
theorem a4M{sg:List Sg}{one:Ps→PR}{m:List UInt8}{x:Gs}(h:gsOk sg x):lqJ sg one m x x [] (sg.length+1):=⟨Ws h,fun h=>h⟩
theorem JP{s:ST}{one:Ps→PR}{m:List UInt8}{x y:Gs}{ks:List Int}{N:Nat}(hs:sgB s.sg)(h:lqJ s.sg one m x y ks N):rOk s y:=WA hs h
theorem Qa{s:ST}{one:Ps→PR}{m:List UInt8}{x y:Gs}{ks:List Int}{N:Nat}(hs:sgB s.sg)(h:lqJ s.sg one m x y ks N):ks.length≤3000:=Wz hs h
theorem b6J{s:ST}{one:Ps→PR}{m:List UInt8}{x y:Gs}{ks:List Int}{N n:Nat}(hx:wQ 11 n s x)(h:lqJ s.sg one m x y ks N)(hb:y.bad=false)(hq:isG s.sg y 4 m=false):vQ 11 n s (Al s.sg y m):=by
 rw[Df hq];exact⟨a2O hx.1.1.1.1 h hb hx.1.1.2 hx.1.2,hx.2⟩
theorem Tg{sg:List Sg}{one:Ps→PR}{m:List UInt8}{x y:Gs}{ks:List Int}{N:Nat}{z:Int×Gs}(h:lqJ sg one m x y ks N)(hq:isG sg y 4 m=false)(hz:Ag sg (Al sg y m) one z)(hc:isG sg z.2 4 [44]=true):
 lqJ sg one m x (Al sg z.2 [44]) (ks++[z.1]) (N-1)∧N-1<N:=by
 rw[Df hq] at hz;exact PI h hz hq hc
theorem a4N{s:ST}{one:Ps→PR}{m:List UInt8}{ks0:List Int}{x y:Gs}{ks:List Int}{N:Nat}{z:Int×Gs}(hs:sgB s.sg)(h:lqJ s.sg one m x y ks N)(hq:isG s.sg y 4 m=false)(hz:Ag s.sg (Al s.sg y m) one z)(hc:isG s.sg z.2 4 [44]=false):
 vlQ s.sg one m ks0 x (ks0++ks++[z.1],Aq s.sg (Al s.sg z.2 [44]) m):=by
 rw[Df hq] at hz
 have a:=Wx h hz hq hc
 refine⟨_,⟨a,?_⟩,?_⟩
 ·have:=Qa hs h;simp;omega
 ·simp only[List.append_assoc]
theorem a4O{s:ST}{one:Ps→PR}{m:List UInt8}{ks0:List Int}{x y:Gs}{ks:List Int}{N:Nat}(hs:sgB s.sg)(h:lqJ s.sg one m x y ks N)(hb:y.bad=true):vlQ s.sg one m ks0 x (ks0++ks,y):=by
 refine⟨_,⟨Wt h.1 hb,?_⟩,by simp only[Tb hb]⟩
 have:=Qa hs h;simp only;omega
theorem a4P{s:ST}{one:Ps→PR}{m:List UInt8}{ks0:List Int}{x y:Gs}{ks:List Int}{N:Nat}(hs:sgB s.sg)(h:lqJ s.sg one m x y ks N)(hq:isG s.sg y 4 m=true):vlQ s.sg one m ks0 x (ks0++ks,Al s.sg y m):=by
 refine⟨_,⟨Wu h.1 hq,?_⟩,by simp only[Dg hq,JO hq]⟩
 have:=Qa hs h;simp only;omega
theorem Fu{s:ST}{y:Gs}{m:List UInt8}(h:rOk s y):rOk s (Al s.sg y m):=by
 cases hq:isG s.sg y 4 m with
 |true=>rw[Dg hq];exact⟨h.1,Fc h.2 (CC hq (by omega)).2⟩
 |false=>rw[Df hq];exact h
theorem HJ{s:ST}{y:Gs}{k:Int}(h:rOk s y)(hk:k≠0):rOk s (Be s.sg y k):=by
 unfold Be;split
 ·rename_i hq;exact⟨h.1,Fc h.2 (SX hk hq).2⟩
 ·exact h
theorem NZ{s:ST}{y:Gs}{m:List UInt8}(h:rOk s y):Ag s.sg (Al s.sg y m) (BB s.sg) (AQ (Be s.sg (Al s.sg y m) 1),Ah (Be s.sg (Al s.sg y m) 1) ⟨1,Bz s.sg (Al s.sg y m) 1,[],false⟩):=b6o h.1 (Fu h).2
theorem Xt{s:ST}{y:Gs}{m:List UInt8}(h:rOk s y):rOk s (Ah (Be s.sg (Al s.sg y m) 1) ⟨1,Bz s.sg (Al s.sg y m) 1,[],false⟩):=⟨h.1,EC (NZ (m:=m) h)⟩
attribute [local irreducible] pE Bn Dc fnR Ag Bl gsOk Aq Bs Ah BX De Al CD Dp AQ BC pkG isG nmG kdG Be Bz BB vlQ lqJ saI
def Eg:Sig:= {X:=ST×Int×Int×Bool×List Nd,args:=fun x=>[srd x.1 (xg x)],pre:=fun x=>rOk x.1 (xg x),Y:=Unit,post:=fun x y=>True,res:=fun x y=> .bool (arG x.1.sg (xg x)),outs:=fun x y=>[srd x.1 (xg x)],keep:=true}
def Th(x:ST×Int×Int×Bool×List Nd):LS:= {ι:=Int×Nat,inv:=fun i=>saI x.1.sg (xg x).pos i.1 i.2,regs:=fun i=>[(0,srd x.1 (xg x)),(3,.int .i64 i.1)],als:=[],meas:=fun i=>i.2}
theorem b6K:Ai G Tryz.prog 225 Eg:=
 vcFun_okP [(90,0,Ee)] [] false (fun x=>[(5,Th x)]) Tryz.func225 rfl (by decide) ⟨PX,trivial⟩ (fun(x:ST×Int×Int×Bool×List Nd)=>True∧cA Ee [srd x.1 (xg x),.int .i64 (4:Int),.str #[(40:UInt8)].toList] fun x_1 y=>Aa (!isG x_1.1.sg (xh x_1) x_1.2.2.2.2.2.1 x_1.2.2.2.2.2.2) (rA Eg x [.bool false,srd x_1.1 (xh x_1)]) (inR IntKind.i64 ((xg x).pos+(1:Int))∧eA (Th x) [srd x_1.1 (xh x_1),.int .i64 ((xg x).pos+(1:Int))]∧∀(i:Int×Nat),saI x.1.sg (xg x).pos i.1 i.2→inR IntKind.i64 (i.1+(1:Int))∧Aa (decide (i.1+(1:Int)<(↑(List.length x.1.sg):Int))) (((0:Int)≤i.1∧i.1<(↑(List.length x.1.sg):Int))∧∀(e:Sg),x.1.sg[Int.toNat i.1]? =some e→Aa (e.kind==(1:Int)) (inR IntKind.i64 (i.1+(1:Int))∧((0:Int)≤i.1+(1:Int)∧i.1+(1:Int)<(↑(List.length x.1.sg):Int))∧∀(e:Sg),x.1.sg[Int.toNat (i.1+(1:Int))]? =some e→Aa (!e.text== #[(44:UInt8)].toList) (inR IntKind.i64 (i.1+(1:Int)+(1:Int))∧Aa (decide (i.1+(1:Int)+(1:Int)<(↑(List.length x.1.sg):Int))) (((0:Int)≤i.1+(1:Int)∧i.1+(1:Int)<(↑(List.length x.1.sg):Int))∧∀(e:Sg),x.1.sg[Int.toNat (i.1+(1:Int))]? =some e→Aa (e.text== #[(41:UInt8)].toList) (((0:Int)≤i.1+(1:Int)∧i.1+(1:Int)<(↑(List.length x.1.sg):Int))∧∀(e:Sg),x.1.sg[Int.toNat (i.1+(1:Int))]? =some e→Aa (e.kind==(4:Int)) (inR IntKind.i64 (i.1+(1:Int)+(1:Int))∧((0:Int)≤i.1+(1:Int)+(1:Int)∧i.1+(1:Int)+(1:Int)<(↑(List.length x.1.sg):Int))∧∀(e:Sg),x.1.sg[Int.toNat (i.1+(1:Int)+(1:Int))]? =some e→Aa (e.text== #[(61:UInt8),(62:UInt8)].toList) (inR IntKind.i64 (i.1+(1:Int)+(1:Int))∧((0:Int)≤i.1+(1:Int)+(1:Int)∧i.1+(1:Int)+(1:Int)<(↑(List.length x.1.sg):Int))∧∀(e:Sg),x.1.sg[Int.toNat (i.1+(1:Int)+(1:Int))]? =some e→rA Eg x [.bool (e.kind==(4:Int)),srd x.1 (xg x)]) (rA Eg x [.bool false,srd x.1 (xg x)])) (rA Eg x [.bool false,srd x.1 (xg x)])) (rA Eg x [.bool false,srd x.1 (xg x)])) (rA Eg x [.bool false,srd x.1 (xg x)])) (inR IntKind.i64 (i.1+(1:Int)+(1:Int))∧eN (Th x) i [srd x.1 (xg x),.int .i64 (i.1+(1:Int)+(1:Int))])) (inR IntKind.i64 (i.1+(1:Int))∧Aa (decide (i.1+(1:Int)<(↑(List.length x.1.sg):Int))) (((0:Int)≤i.1∧i.1<(↑(List.length x.1.sg):Int))∧∀(e:Sg),x.1.sg[Int.toNat i.1]? =some e→Aa (e.text== #[(41:UInt8)].toList) (((0:Int)≤i.1∧i.1<(↑(List.length x.1.sg):Int))∧∀(e:Sg),x.1.sg[Int.toNat i.1]? =some e→Aa (e.kind==(4:Int)) (inR IntKind.i64 (i.1+(1:Int))∧((0:Int)≤i.1+(1:Int)∧i.1+(1:Int)<(↑(List.length x.1.sg):Int))∧∀(e:Sg),x.1.sg[Int.toNat (i.1+(1:Int))]? =some e→Aa (e.text== #[(61:UInt8),(62:UInt8)].toList) (inR IntKind.i64 (i.1+(1:Int))∧((0:Int)≤i.1+(1:Int)∧i.1+(1:Int)<(↑(List.length x.1.sg):Int))∧∀(e:Sg),x.1.sg[Int.toNat (i.1+(1:Int))]? =some e→rA Eg x [.bool (e.kind==(4:Int)),srd x.1 (xg x)]) (rA Eg x [.bool false,srd x.1 (xg x)])) (rA Eg x [.bool false,srd x.1 (xg x)])) (rA Eg x [.bool false,srd x.1 (xg x)])) (rA Eg x [.bool false,srd x.1 (xg x)]))) (inR IntKind.i64 (i.1+(1:Int))∧Aa (decide (i.1+(1:Int)<(↑(List.length x.1.sg):Int))) (((0:Int)≤i.1∧i.1<(↑(List.length x.1.sg):Int))∧∀(e:Sg),x.1.sg[Int.toNat i.1]? =some e→Aa (e.text== #[(41:UInt8)].toList) (((0:Int)≤i.1∧i.1<(↑(List.length x.1.sg):Int))∧∀(e:Sg),x.1.sg[Int.toNat i.1]? =some e→Aa (e.kind==(4:Int)) (inR IntKind.i64 (i.1+(1:Int))∧((0:Int)≤i.1+(1:Int)∧i.1+(1:Int)<(↑(List.length x.1.sg):Int))∧∀(e:Sg),x.1.sg[Int.toNat (i.1+(1:Int))]? =some e→Aa (e.text== #[(61:UInt8),(62:UInt8)].toList) (inR IntKind.i64 (i.1+(1:Int))∧((0:Int)≤i.1+(1:Int)∧i.1+(1:Int)<(↑(List.length x.1.sg):Int))∧∀(e:Sg),x.1.sg[Int.toNat (i.1+(1:Int))]? =some e→rA Eg x [.bool (e.kind==(4:Int)),srd x.1 (xg x)]) (rA Eg x [.bool false,srd x.1 (xg x)])) (rA Eg x [.bool false,srd x.1 (xg x)])) (rA Eg x [.bool false,srd x.1 (xg x)])) (rA Eg x [.bool false,srd x.1 (xg x)])))) (fun x=>by kernel_rfl) fun(x:ST×Int×Int×Bool×List Nd) (hx:rOk x.1 (xg x))=>(by
 dsimp only[cA,eA,eN,Th,Bc,Av,rA,Eg,Ee,Bu,sgs,srd,Au,Az,mvL,lnL,mvE,lnE,Bq]
 obtain⟨s,p,d,b,ns⟩:=x;dsimp only[xg,xh] at hx ⊢
 have hx:rOk s ⟨p,d,b,ns⟩:=hx;have hs:=DV hx;dsimp only at hs
 (repeat' first|(with_reducible first|rfl|exact True.intro|apply AK|apply And.intro|((first|apply AA|apply AI|apply AB|apply AJ)<;>intro _))|(apply Ax<;>intro _)|apply AH|refine Ae () ?_ ?_|((first|apply AO|apply AN|apply AM|apply AL|apply AG|apply AF|apply AE|apply AD|apply AC)<;>try dsimp only)|apply Ae|(refine Prod.forall.2 ?_;intro _;try dsimp only)|(intro _;try dsimp only))
 all_goals(try dsimp only[xg,xh,yG,yS,iG] at*)
 all_goals first
  |(show Nat;skip)
  |rfl
  |exact hx
  |exact b6E hs.1.1.1 hs.1.1.2
  |exact b6I (x:=⟨p,d,b,ns⟩) ‹_›
  |exact(a4J hs.1.1.1 ‹_› ‹_› (a4K ‹_› ‹_›) (a4L ‹_› ‹_›)).1
  |(have hq:=b6D (show saI _ _ _ _ by assumption);(try simp only[AR]);omega)
  |omega
  |skip
 all_goals first
  |exact(a4J hs.1.1.1 ‹_› ‹_› (a4K ‹_› ‹_›) (a4L ‹_› ‹_›)).2
  |skip
 all_goals(repeat(rename s.sg[_]? =some _=>hq;have hq2:=Jv hq;clear hq;subst hq2))
 all_goals first
  |(refine Xs (x:=⟨p,d,b,ns⟩) ‹_› (b6F ‹_› ‹_› ‹_› ‹_›) ?_;rw[Bool.eq_iff_iff];simp [Fs,JG, *];done)
  |(refine Xs (x:=⟨p,d,b,ns⟩) ‹_› (b6G ‹_› ‹_›) ?_;rw[Bool.eq_iff_iff];simp [Fs,JG, *];done)
  |(refine Xs (x:=⟨p,d,b,ns⟩) ‹_› (b6H ‹_› ‹_›) ?_;rw[Bool.eq_iff_iff];simp [Fs,JG, *];done)
  |skip)
def Gz(n:Nat):Sig:= {X:=ST×Int×Int×Bool×List Nd×List UInt8×List Int,args:=fun x=>[srd x.1 (xh x),.str x.2.2.2.2.2.1,Ab x.2.2.2.2.2.2],pre:=fun x=>wQ 11 n x.1 (xh x)∧x.2.2.2.2.2.2.length≤1,Y:=List Int×Int×Int×Bool×List Nd,post:=fun x y=>vlQ x.1.sg (pE x.1.sg n .value) x.2.2.2.2.2.1 x.2.2.2.2.2.2 (xh x) (yS y),res:=fun x y=>Ab y.1,outs:=fun x y=>[srd x.1 (yG y.2),.top,.top],keep:=true}
def Ti(n:Nat)(x:ST×Int×Int×Bool×List Nd×List UInt8×List Int):LS:= {ι:=Int×Int×Bool×List Nd×List Int×Nat,inv:=fun i=>lqJ x.1.sg (pE x.1.sg n .value) x.2.2.2.2.2.1 (xh x) (iG i) i.2.2.2.2.1 i.2.2.2.2.2,regs:=fun i=>[(0,srd x.1 (iG i)),(1,.str x.2.2.2.2.2.1),(2,Ab (x.2.2.2.2.2.2++i.2.2.2.2.1))],als:=[],meas:=fun i=>i.2.2.2.2.2}
theorem Xu(n:Nat)(h:qAll G n):Ai G Tryz.prog 110 (Gz n):=
 vcFun_okP [(63,0,Cb),(91,0,(Ms n)),(62,0,BO)] [(25,⟨Int,AZ⟩)] false (fun x=>[(1,Ti n x)]) Tryz.func110 rfl (by decide) ⟨HH,h.val,Ir,trivial⟩ (fun(x:ST×Int×Int×Bool×List Nd×List UInt8×List Int)=>True∧eA (Ti n x) [srd x.1 (xh x),.str x.2.2.2.2.2.1,Ab x.2.2.2.2.2.2]∧∀(i:Int×Int×Bool×List Nd×List Int×Nat),lqJ x.1.sg (pE x.1.sg n NT.value) x.2.2.2.2.2.1 (xh x) (iG i) i.2.2.2.2.1 i.2.2.2.2.2→Aa (!(iG i).bad) (cA Cb [srd x.1 (iG i),.str x.2.2.2.2.2.1] fun x_1 y=>Aa (!isG x_1.1.sg (xh x_1) (4:Int) x_1.2.2.2.2.2) (cA (Ms n) [srd x_1.1 (Al x_1.1.sg (xh x_1) x_1.2.2.2.2.2)] fun x_2 y=>∃(x_3:Int),y.1=x_3∧∃(zs:List Int),Ab [x_3]=Ab zs∧Bj AZ∧AW (List.length (x.2.2.2.2.2.2++i.2.2.2.2.1)+List.length zs) (8:Nat)∧cA Cb [srd x_2.1 (yG y.2),.str #[(44:UInt8)].toList] fun x_4 y=>Aa (!isG x_4.1.sg (xh x_4) (4:Int) x_4.2.2.2.2.2) (cA BO [srd x_4.1 (Al x_4.1.sg (xh x_4) x_4.2.2.2.2.2),.str x.2.2.2.2.2.1] fun x_5 y=>rA (Gz n) x [Ab (x.2.2.2.2.2.2++i.2.2.2.2.1++zs),srd x_5.1 (Aq x_5.1.sg (xh x_5) x_5.2.2.2.2.2),.top,.top]) (eN (Ti n x) i [srd x_4.1 (Al x_4.1.sg (xh x_4) x_4.2.2.2.2.2),.str x.2.2.2.2.2.1,Ab (x.2.2.2.2.2.2++i.2.2.2.2.1++zs)])) (rA (Gz n) x [Ab (x.2.2.2.2.2.2++i.2.2.2.2.1),srd x_1.1 (Al x_1.1.sg (xh x_1) x_1.2.2.2.2.2),.top,.top])) (rA (Gz n) x [Ab (x.2.2.2.2.2.2++i.2.2.2.2.1),srd x.1 (iG i),.top,.top])) (fun x=>by kernel_rfl) fun(x:ST×Int×Int×Bool×List Nd×List UInt8×List Int) (hx:wQ 11 n x.1 (xh x)∧x.2.2.2.2.2.2.length≤1)=>(by
 dsimp only[cA,eA,eN,Ti,Bc,Ab,Av,rA,Cb,Ms,Gz,BO,Bu,sgs,srd,Au,Az,mvL,lnL,mvE,lnE,Bq]
 obtain⟨s,p,d,b,ns,m,ks0⟩:=x;dsimp only[xg,xh] at hx ⊢
 obtain⟨hx,hk0⟩:=hx
 have hx:wQ 11 n s ⟨p,d,b,ns⟩:=hx
 have hs:=hx.1.1.1.1;have h1:=hx.1.1.1
 (repeat' first|(with_reducible first|rfl|exact True.intro|apply AK|apply And.intro|((first|apply AA|apply AI|apply AB|apply AJ)<;>intro _))|(apply Ax<;>intro _)|apply AH|refine Ae () ?_ ?_|((first|apply AO|apply AN|apply AM|apply AL|apply AG|apply AF|apply AE|apply AD|apply AC)<;>try dsimp only)|apply Ae|(refine Prod.forall.2 ?_;intro _;try dsimp only)|(intro _;try dsimp only))
 all_goals(try dsimp only[xg,xh,yG,yS,iG] at*)
 all_goals(try simp only[CP] at*)
 all_goals first
  |(show Nat;skip)
  |rfl
  |exact h1
  |exact a4M h1.2
  |exact JP hs ‹_›
  |exact b6J hx ‹_› ‹_› ‹_›
  |exact Dt h1 ‹_›
  |exact Fu (Dt h1 ‹_›)
  |exact(Tg ‹_› ‹_› ‹_› ‹_›).1
  |exact a4N hs ‹_› ‹_› ‹_› ‹_›
  |exact a4O hs ‹_› ‹_›
  |exact a4P hs ‹_› ‹_›
  |(simp;done)
  |(have hq:=Qa hs (show lqJ _ _ _ _ _ _ _ by assumption);(try simp only[AW,List.length_append,List.length_cons,List.length_nil]);omega)
  |skip
 all_goals first
  |exact(Tg ‹_› ‹_› ‹_› ‹_›).2
  |(simp;done)
  |skip)
def GA:Sig:= {X:=ST×Int×Int×Bool×List Nd,args:=fun x=>[srd x.1 (xg x)],pre:=fun x=>rOk x.1 (xg x),Y:=List Int×Int×Int×Bool×List Nd,post:=fun x y=>vlQ x.1.sg (BB x.1.sg) [41] [] (Aq x.1.sg (xg x) [40]) (yS y),res:=fun x y=>Ab y.1,outs:=fun x y=>[srd x.1 (yG y.2)],keep:=true}
def Tj(x:ST×Int×Int×Bool×List Nd):LS:= {ι:=Int×Int×Bool×List Nd×List Int×Nat,inv:=fun i=>lqJ x.1.sg (BB x.1.sg) [41] (Aq x.1.sg (xg x) [40]) (iG i) i.2.2.2.2.1 i.2.2.2.2.2,regs:=fun i=>[(0,srd x.1 (iG i)),(3,Ab i.2.2.2.2.1)],als:=[],meas:=fun i=>i.2.2.2.2.2}
theorem Xv:Ai G Tryz.prog 64 GA:=
 vcFun_okP [(63,0,Cb),(62,0,BO),(36,0,Bo),(59,0,CI)] [(25,⟨Int,AZ⟩)] false (fun x=>[(3,Tj x)]) Tryz.func64 rfl (by decide) ⟨HH,Ir,HI,KU,trivial⟩ (fun(x:ST×Int×Int×Bool×List Nd)=>True∧cA BO [srd x.1 (xg x),.str #[(40:UInt8)].toList] fun x_1 y=>eA (Tj x) [srd x_1.1 (Aq x_1.1.sg (xh x_1) x_1.2.2.2.2.2),Ab []]∧∀(i:Int×Int×Bool×List Nd×List Int×Nat),lqJ x.1.sg (BB x.1.sg) [(41:UInt8)] (Aq x.1.sg (xg x) [(40:UInt8)]) (iG i) i.2.2.2.2.1 i.2.2.2.2.2→Aa (!(iG i).bad) (cA Cb [srd x.1 (iG i),.str #[(41:UInt8)].toList] fun x_2 y=>Aa (!isG x_2.1.sg (xh x_2) (4:Int) x_2.2.2.2.2.2) (cA CI [srd x_2.1 (Al x_2.1.sg (xh x_2) x_2.2.2.2.2.2),.int .i64 (1:Int)] fun x_3 y=>cA Bo [srd x_3.1 (Be x_3.1.sg (xh x_3) x_3.2.2.2.2.2),.int .i64 (1:Int),.str (Bz x_3.1.sg (xh x_3) x_3.2.2.2.2.2),Ab []] fun x_4 y=>∃(x_5:Int),AQ (xh x_4)=x_5∧∃(zs:List Int),Ab [x_5]=Ab zs∧Bj AZ∧AW (List.length i.2.2.2.2.1+List.length zs) (8:Nat)∧cA Cb [srd x_4.1 (Ah (xh x_4) {kind:=x_4.2.2.2.2.2.1,text:=x_4.2.2.2.2.2.2.1,kids:=x_4.2.2.2.2.2.2.2,blank:=false}),.str #[(44:UInt8)].toList] fun x_6 y=>Aa (!isG x_6.1.sg (xh x_6) (4:Int) x_6.2.2.2.2.2) (cA BO [srd x_6.1 (Al x_6.1.sg (xh x_6) x_6.2.2.2.2.2),.str #[(41:UInt8)].toList] fun x_7 y=>rA GA x [Ab (i.2.2.2.2.1++zs),srd x_7.1 (Aq x_7.1.sg (xh x_7) x_7.2.2.2.2.2)]) (eN (Tj x) i [srd x_6.1 (Al x_6.1.sg (xh x_6) x_6.2.2.2.2.2),Ab (i.2.2.2.2.1++zs)])) (rA GA x [Ab i.2.2.2.2.1,srd x_2.1 (Al x_2.1.sg (xh x_2) x_2.2.2.2.2.2)])) (rA GA x [Ab i.2.2.2.2.1,srd x.1 (iG i)])) (fun x=>by kernel_rfl) fun(x:ST×Int×Int×Bool×List Nd) (hx:rOk x.1 (xg x))=>(by
 dsimp only[cA,eA,eN,Tj,Bc,Ab,Av,rA,Cb,GA,Bo,CI,BO,Bu,sgs,srd,Au,Az,mvL,lnL,mvE,lnE,Bq]
 obtain⟨s,p,d,b,ns⟩:=x;dsimp only[xg,xh] at hx ⊢
 have h1:rOk s ⟨p,d,b,ns⟩:=hx;have hs:=h1.1
 have t:=El (m:=[40]) h1
 (repeat' first|(with_reducible first|rfl|exact True.intro|apply AK|apply And.intro|((first|apply AA|apply AI|apply AB|apply AJ)<;>intro _))|(apply Ax<;>intro _)|apply AH|refine Ae () ?_ ?_|((first|apply AO|apply AN|apply AM|apply AL|apply AG|apply AF|apply AE|apply AD|apply AC)<;>try dsimp only)|apply Ae|(refine Prod.forall.2 ?_;intro _;try dsimp only)|(intro _;try dsimp only))
 all_goals(try dsimp only[xg,xh,yG,yS,iG] at*)
 all_goals(try simp only[CP] at*)
 all_goals first
  |(show Nat;skip)
  |rfl
  |exact h1
  |omega
  |exact a4M t.1.2
  |exact JP hs ‹_›
  |exact Fu (JP hs ‹_›)
  |exact HJ (Fu (JP hs ‹_›)) (by omega)
  |exact Xt (JP hs ‹_›)
  |exact Fu (Xt (JP hs ‹_›))
  |exact(Tg ‹_› ‹_› (NZ (JP hs ‹_›)) ‹_›).1
  |exact a4N (ks0:=[]) hs ‹_› ‹_› (NZ (JP hs ‹_›)) ‹_›
  |exact a4O (ks0:=[]) hs ‹_› ‹_›
  |exact a4P (ks0:=[]) hs ‹_› ‹_›
  |(have hq:=Qa hs (show lqJ _ _ _ _ _ _ _ by assumption);(try simp only[AW,List.length_append,List.length_cons,List.length_nil]);omega)
  |skip
 all_goals first
  |exact(Tg ‹_› ‹_› (NZ (JP hs ‹_›)) ‹_›).2
  |skip)
end Go.My
end
section
namespace Go.My
open Go.Eng Go.Proofs
variable {G:GInv}
theorem JQ{sg:List Sg}{x:Gs}{k:Int}(h:kdG sg x k=false)(hk:k≠1):(pkG sg x 0).kind≠k:=by
 rw[PY hk] at h;simpa using h
theorem b6L{sg:List Sg}{x:Gs}{n:Nat}{k:Int}{y:Gs}(hs:sgB sg)(h:gsOk sg x)(h1:kdG sg x 1=false)(hk:(pkG sg x 0).kind=1)(hy:y=Bd x):Ag sg x (pE sg (n+1) .base) (k,y):=by
 have a:=Wv (n:=n) hs h hk
 rw[Jc] at h1
 rw[Dp,CD,if_neg (by simp [h1]),if_neg (by simp [h1])] at a
 subst hy
 exact NX a h rfl (Int.le_refl _) rfl (fun hb=>by simp [Bd] at hb)
theorem b6M{sg:List Sg}{x:Gs}{n:Nat}(hs:sgB sg)(h:gsOk sg x)(h1:kdG sg x 1=true):Ag sg x (pE sg (n+1) .base) (AQ (Be sg x 1),Ah (Be sg x 1) ⟨1,Bz sg x 1,[],false⟩):=by
 have hn:=h1
 rw[Jc] at hn
 have a:=Wv (n:=n) hs h (by simp [nmG] at hn;exact hn.1)
 rw[Dp,CD,if_pos hn,if_pos hn] at a
 exact NY hs h (by omega) h1 a
theorem a4Q{sg:List Sg}{x:Gs}{n:Nat}{k:Int}(hs:sgB sg)(h:gsOk sg x)(hk:k=2∨k=3)(h1:kdG sg x k=true):Ag sg x (pE sg (n+1) .base) (AQ (Be sg x k),Ah (Be sg x k) ⟨k,Bz sg x k,[],false⟩):=by
 have hn:=h1
 rw[PY (by omega)] at hn
 exact NY hs h (by omega) h1 (Ww hs h (by simpa using hn) hk)
theorem Xw{sg:List Sg}{x:Gs}{m:List UInt8}(hq:isG sg x 4 m=true):(pkG sg x 0).kind≠1:=by
 simp [isG] at hq;rw[hq.1];omega
theorem b6N{s:ST}{x:Gs}{n:Nat}{v:List Int×Gs}(h:rOk s x)(h1:kdG s.sg x 1=false)(h2:kdG s.sg x 2=false)(h3:kdG s.sg x 3=false)(hq:isG s.sg x 4 [91]=true)(hv:vlQ s.sg (pE s.sg n .value) [93] [] (Al s.sg x [91]) v):
 Ag s.sg x (pE s.sg (n+1) .base) (AQ v.2,Ah v.2 ⟨4,[],v.1,false⟩):=by
 rw[Dg hq] at hv
 obtain⟨l,⟨a,b⟩,rfl⟩:=hv
 exact It a.1 ⟨by simp,by simp;omega⟩ (a2K h.2 (Xw hq) (JQ h2 (by omega)) (JQ h3 (by omega)) hq a b)
theorem b6O{s:ST}{x:Gs}{n:Nat}{v:List Int×Gs}{z:Int×Gs}(hm:sgM s.sg)(h:rOk s x)(h1:kdG s.sg x 1=false)(h2:kdG s.sg x 2=false)(h3:kdG s.sg x 3=false)(hn:isG s.sg x 4 [91]=false)(ha:arG s.sg (Al s.sg x [91])=true)
 (hv:vlQ s.sg (BB s.sg) [41] [] (Aq s.sg (Al s.sg x [91]) [40]) v) (hz:Ag s.sg (Aq s.sg v.2 [61,62]) (pE s.sg n .pick) z):Ag s.sg x (pE s.sg (n+1) .base) (AQ z.2,Ah z.2 ⟨9,[],v.1++[z.1],false⟩):=by
 rw[Df hn] at ha hv
 simp only[arG,Bool.and_eq_true] at ha
 obtain⟨l,⟨a,b⟩,rfl⟩:=hv
 refine b6B hm h.2 (Xw ha.1) (JQ h2 (by omega)) (JQ h3 (by omega)) hn ha.1 (fun s0 hs=> ?_) (a2N (l:=l) h.2 a b hz)
 obtain⟨_,rfl⟩:=Eu.1 hs;exact ha.2
theorem b6P{s:ST}{x:Gs}{n:Nat}{z:Int×Gs}(hm:sgM s.sg)(h:rOk s x)(h1:kdG s.sg x 1=false)(h2:kdG s.sg x 2=false)(h3:kdG s.sg x 3=false)(hn:isG s.sg x 4 [91]=false)(ha:arG s.sg (Al s.sg x [91])=false)(hb:(Aq s.sg (Al s.sg x [91]) [40]).bad=false)
 (hz:Ag s.sg (Aq s.sg (Al s.sg x [91]) [40]) (pE s.sg n .value) z):Ag s.sg x (pE s.sg (n+1) .base) (AQ (Aq s.sg z.2 [41]),Ah (Aq s.sg z.2 [41]) ⟨11,[],[z.1],false⟩):=by
 rw[Df hn] at ha hb hz
 have hq:isG s.sg x 4 [40]=true:=by
  cases hq:isG s.sg x 4 [40] with
  |true=>rfl
  |false=>rw[PZ hq] at hb;cases hb
 rw[JO hq] at hz
 simp only[arG,hq,Bool.true_and] at ha
 refine b6C hm h.2 (Xw hq) (JQ h2 (by omega)) (JQ h3 (by omega)) hn hq (fun s0 hs=> ?_) hz
 obtain⟨_,rfl⟩:=Eu.1 hs;exact ha
theorem b6Q{s:ST}{x:Gs}{n:Nat}{k:Int}(h:rOk s x)(h1:kdG s.sg x 1=false)(h2:kdG s.sg x 2=false)(h3:kdG s.sg x 3=false)(hn:isG s.sg x 4 [91]=false)(hx:x.bad=false)(hb:(Aq s.sg (Al s.sg x [91]) [40]).bad=true):
 Ag s.sg x (pE s.sg (n+1) .base) (k,Aq s.sg (Al s.sg x [91]) [40]):=by
 rw[Df hn] at hb ⊢
 have hq:isG s.sg x 4 [40]=false:=by
  cases hq:isG s.sg x 4 [40] with
  |false=>rfl
  |true=>rw[JO hq] at hb;simp only[An] at hb;rw[hx] at hb;cases hb
 rw[PZ hq]
 rcases Classical.em ((pkG s.sg x 0).kind=1) with e|e
 ·exact b6L h.1 h.2 h1 e rfl
 ·exact a2M h.2 e (JQ h2 (by omega)) (JQ h3 (by omega)) hn hq
theorem b6R{s:ST}{x:Gs}{n:Nat}(hx:wQ 1 (n+1) s x)(hq:isG s.sg x 4 [91]=true):wQ 11 n s (Al s.sg x [91]):=by
 rw[Dg hq];exact⟨(Sh hq (by omega) hx.1.1.1 hx.1.1.2 hx.1.2 (by omega)).1,hx.2⟩
theorem b6S{s:ST}{x:Gs}{n:Nat}{v:List Int×Gs}(hx:wQ 1 (n+1) s x)(hn:isG s.sg x 4 [91]=false)(ha:arG s.sg (Al s.sg x [91])=true)(hv:vlQ s.sg (BB s.sg) [41] [] (Aq s.sg (Al s.sg x [91]) [40]) v):vQ 10 n s (Aq s.sg v.2 [61,62]):=by
 rw[Df hn] at ha hv
 simp only[arG,Bool.and_eq_true] at ha
 obtain⟨l,a,rfl⟩:=hv
 exact⟨a2T (x:=x) (n:=n) (l:=l) hx.1.1.1 (hx.1.1.2 (CC ha.1 (by omega)).1) ha.1 (by have:=hx.1.2;omega) a,hx.2⟩
theorem b6T{s:ST}{x:Gs}{n:Nat}(hx:wQ 1 (n+1) s x)(hn:isG s.sg x 4 [91]=false)(hb:(Aq s.sg (Al s.sg x [91]) [40]).bad=false):vQ 11 n s (Aq s.sg (Al s.sg x [91]) [40]):=by
 rw[Df hn] at hb ⊢
 have hq:isG s.sg x 4 [40]=true:=by
  cases hq:isG s.sg x 4 [40] with
  |true=>rfl
  |false=>rw[PZ hq] at hb;cases hb
 rw[JO hq];exact⟨(Sh hq (by omega) hx.1.1.1 hx.1.1.2 hx.1.2 (by omega)).2,hx.2⟩
theorem Xx{s:ST}{one:Ps→PR}{m:List UInt8}{ks0:List Int}{x:Gs}{y:List Int×Gs}(hs:sgB s.sg)(h:vlQ s.sg one m ks0 x y):rOk s y.2:=(Xr hs h).1
theorem Xy{s:ST}{one:Ps→PR}{m:List UInt8}{ks0:List Int}{x:Gs}{y:List Int×Gs}(hs:sgB s.sg)(h:vlQ s.sg one m ks0 x y):y.1.length≤ks0.length+3001:=(Xr hs h).2.1
def eqJ(sg:List Sg)(n:Nat)(x y:Gs)(k:Int)(N:Nat):Prop:=enI sg n x y k N∧(y.bad=false→y.deep≤20)
theorem b6U{s:ST}{x:Gs}{n:Nat}{z:Int×Gs}(hx:wQ 2 (n+1) s x)(hz:Ag s.sg x (pE s.sg n .base) z):eqJ s.sg n x z.2 z.1 (s.sg.length+1):=WD hx.1.1.1 hx.1.1.2 hz
theorem a4R{s:ST}{x y:Gs}{n:Nat}{k:Int}{N:Nat}(hx:wQ 2 (n+1) s x)(h:eqJ s.sg n x y k N):rOk s y:=⟨hx.1.1.1.1,h.1.1.1⟩
theorem b6V{s:ST}{x y:Gs}{n:Nat}{k:Int}{N:Nat}(hx:wQ 2 (n+1) s x)(h:eqJ s.sg n x y k N)(hq:isG s.sg y 4 [40]=true):wQ 11 n s (Al s.sg y [40]):=by
 have hb:=(CC hq (by omega)).1
 have:=h.1.2.2 hb;have:=hx.1.2
 have hl:=CC hq (by omega)
 rw[Dg hq]
 have e1:(An y).pos=y.pos+1:=rfl
 have e2:(An y).deep=y.deep:=rfl
 exact⟨⟨⟨⟨hx.1.1.1.1,Fc h.1.1.1 hl.2⟩,fun _=>by rw[e2];exact h.2 hb⟩,by omega⟩,hx.2⟩
theorem a4S{s:ST}{x y:Gs}{n:Nat}{k:Int}{N:Nat}{v:List Int×Gs}(hx:wQ 2 (n+1) s x)(h:eqJ s.sg n x y k N)(hq:isG s.sg y 4 [40]=true)(hv:vlQ s.sg (pE s.sg n .value) [41] [k] (Al s.sg y [40]) v):
 eqJ s.sg n x (Ah v.2 ⟨5,[],v.1,false⟩) (AQ v.2) (N-1)∧N-1<N:=by
 rw[Dg hq,←JO hq] at hv
 have hw:=a4I h.1.1.1 hv
 exact Si h hw hq
theorem a4T{s:ST}{x y:Gs}{n:Nat}{k:Int}{N:Nat}(hx:wQ 2 (n+1) s x)(h:eqJ s.sg n x y k N)(hp:isG s.sg y 4 [40]=false)(hq:isG s.sg (Al s.sg y [40]) 4 [46]=true):
 eqJ s.sg n x (Ah (Be s.sg (Al s.sg (Al s.sg y [40]) [46]) 1) ⟨6,Bz s.sg (Al s.sg (Al s.sg y [40]) [46]) 1,[k],false⟩) (AQ (Be s.sg (Al s.sg (Al s.sg y [40]) [46]) 1)) (N-1)∧N-1<N:=by
 rw[Df hp] at hq ⊢
 rw[Dg hq]
 obtain⟨a,b⟩:=b6x hx.1.1.1.1 h.1 hp hq
 refine⟨⟨a,fun _=> ?_⟩,b⟩
 rw[Sk]
 have:=h.2 (CC hq (by omega)).1
 have e:(Be s.sg (An y) 1).deep=y.deep:=by unfold Be;split<;>rfl
 omega
theorem Xz{s:ST}{x y:Gs}{n:Nat}{k:Int}{N:Nat}(hx:wQ 2 (n+1) s x)(h:eqJ s.sg n x y k N):rOk s (Al s.sg y [40])∧rOk s (Al s.sg (Al s.sg y [40]) [46])∧rOk s (Be s.sg (Al s.sg (Al s.sg y [40]) [46]) 1):=
 have a:=Fu (m:=[40]) (a4R hx h)
 ⟨a,Fu a,HJ (Fu a) (by omega)⟩
theorem b6W{s:ST}{x y:Gs}{n:Nat}{k:Int}{N:Nat}(h:eqJ s.sg n x y k N)(hb:y.bad=true):Ag s.sg x (pE s.sg (n+1) .fin) (k,y):=a2G h.1 hb
theorem b6X{s:ST}{x y:Gs}{n:Nat}{k:Int}{N:Nat}(h:eqJ s.sg n x y k N)(hb:y.bad=false)(hp:isG s.sg y 4 [40]=false)(hq:isG s.sg (Al s.sg y [40]) 4 [46]=false):Ag s.sg x (pE s.sg (n+1) .fin) (k,Al s.sg (Al s.sg y [40]) [46]):=by
 rw[Df hp] at hq ⊢
 rw[Df hq];exact a2J h.1 hb hp hq
attribute [local irreducible] pE Bn Dc fnR Ag Bl gsOk Aq Bs Ah BX De Al CD Dp AQ BC pkG isG nmG kdG Be Bz BB vlQ lqJ saI arG eqJ
def Jd(n:Nat):Sig:= {X:=ST×Int×Int×Bool×List Nd,args:=fun x=>[srd x.1 (xg x)],pre:=fun x=>wQ 1 (n+1) x.1 (xg x),Y:=Int×Int×Int×Bool×List Nd,post:=fun x y=>Ag x.1.sg (xg x) (pE x.1.sg (n+1) .base) (yS y),res:=fun x y=> .int .i64 y.1,outs:=fun x y=>[srd x.1 (yG y.2)],keep:=true}
theorem b6Y(n:Nat)(h:qAll G n):Ai G Tryz.prog 206 (Jd n):=
 vcFun_okP [(58,0,Ef),(59,0,CI),(36,0,Bo),(63,0,Cb),(110,0,(Gz n)),(225,0,Eg),(64,0,GA),(62,0,BO),(109,0,(Hc n)),(91,0,(Ms n))] [(25,⟨Int,AZ⟩)] false (fun x=>[]) Tryz.func206 rfl (by decide) ⟨SY,KU,HI,HH,(Xu n h),b6K,Xv,Ir,h.pick,h.val,trivial⟩ (fun(x:ST×Int×Int×Bool×List Nd)=>True∧Aa (xg x).bad (rA (Jd n) x [.int .i64 (0:Int),srd x.1 (xg x)]) (cA Ef [srd x.1 (xg x),.int .i64 (1:Int)] fun x_1 y=>Aa (kdG x_1.1.sg (xh x_1) x_1.2.2.2.2.2) (cA CI [srd x_1.1 (xh x_1),.int .i64 (1:Int)] fun x_2 y=>cA Bo [srd x_2.1 (Be x_2.1.sg (xh x_2) x_2.2.2.2.2.2),.int .i64 (1:Int),.str (Bz x_2.1.sg (xh x_2) x_2.2.2.2.2.2),Ab []] fun x_3 y=>rA (Jd n) x [.int .i64 (AQ (xh x_3)),srd x_3.1 (Ah (xh x_3) {kind:=x_3.2.2.2.2.2.1,text:=x_3.2.2.2.2.2.2.1,kids:=x_3.2.2.2.2.2.2.2,blank:=false})]) (cA Ef [srd x_1.1 (xh x_1),.int .i64 (2:Int)] fun x_2 y=>Aa (kdG x_2.1.sg (xh x_2) x_2.2.2.2.2.2) (cA CI [srd x_2.1 (xh x_2),.int .i64 (2:Int)] fun x_3 y=>cA Bo [srd x_3.1 (Be x_3.1.sg (xh x_3) x_3.2.2.2.2.2),.int .i64 (2:Int),.str (Bz x_3.1.sg (xh x_3) x_3.2.2.2.2.2),Ab []] fun x_4 y=>rA (Jd n) x [.int .i64 (AQ (xh x_4)),srd x_4.1 (Ah (xh x_4) {kind:=x_4.2.2.2.2.2.1,text:=x_4.2.2.2.2.2.2.1,kids:=x_4.2.2.2.2.2.2.2,blank:=false})]) (cA Ef [srd x_2.1 (xh x_2),.int .i64 (3:Int)] fun x_3 y=>Aa (kdG x_3.1.sg (xh x_3) x_3.2.2.2.2.2) (cA CI [srd x_3.1 (xh x_3),.int .i64 (3:Int)] fun x_4 y=>cA Bo [srd x_4.1 (Be x_4.1.sg (xh x_4) x_4.2.2.2.2.2),.int .i64 (3:Int),.str (Bz x_4.1.sg (xh x_4) x_4.2.2.2.2.2),Ab []] fun x_5 y=>rA (Jd n) x [.int .i64 (AQ (xh x_5)),srd x_5.1 (Ah (xh x_5) {kind:=x_5.2.2.2.2.2.1,text:=x_5.2.2.2.2.2.2.1,kids:=x_5.2.2.2.2.2.2.2,blank:=false})]) (cA Cb [srd x_3.1 (xh x_3),.str #[(91:UInt8)].toList] fun x_4 y=>Aa (isG x_4.1.sg (xh x_4) (4:Int) x_4.2.2.2.2.2) (cA (Gz n) [srd x_4.1 (Al x_4.1.sg (xh x_4) x_4.2.2.2.2.2),.str #[(93:UInt8)].toList,Ab []] fun x_5 y=>cA Bo [srd x_5.1 (yG y.2),.int .i64 (4:Int),.str #[].toList,Ab y.1] fun x_6 y=>rA (Jd n) x [.int .i64 (AQ (xh x_6)),srd x_6.1 (Ah (xh x_6) {kind:=x_6.2.2.2.2.2.1,text:=x_6.2.2.2.2.2.2.1,kids:=x_6.2.2.2.2.2.2.2,blank:=false})]) (cA Eg [srd x_4.1 (Al x_4.1.sg (xh x_4) x_4.2.2.2.2.2)] fun x_5 y=>Aa (arG x_5.1.sg (xg x_5)) (cA GA [srd x_5.1 (xg x_5)] fun x_6 y=>cA BO [srd x_6.1 (yG y.2),.str #[(61:UInt8),(62:UInt8)].toList] fun x_7 y_1=>cA (Hc n) [srd x_7.1 (Aq x_7.1.sg (xh x_7) x_7.2.2.2.2.2)] fun x_8 y_2=>∃(x_9:Int),y_2.1=x_9∧∃(zs:List Int),Ab [x_9]=Ab zs∧Bj AZ∧AW (List.length y.1+List.length zs) (8:Nat)∧cA Bo [srd x_8.1 (yG y_2.2),.int .i64 (9:Int),.str #[].toList,Ab (y.1++zs)] fun x_10 y=>rA (Jd n) x [.int .i64 (AQ (xh x_10)),srd x_10.1 (Ah (xh x_10) {kind:=x_10.2.2.2.2.2.1,text:=x_10.2.2.2.2.2.2.1,kids:=x_10.2.2.2.2.2.2.2,blank:=false})]) (cA BO [srd x_5.1 (xg x_5),.str #[(40:UInt8)].toList] fun x_6 y=>Aa (Aq x_6.1.sg (xh x_6) x_6.2.2.2.2.2).bad (rA (Jd n) x [.int .i64 (0:Int),srd x_6.1 (Aq x_6.1.sg (xh x_6) x_6.2.2.2.2.2)]) (cA (Ms n) [srd x_6.1 (Aq x_6.1.sg (xh x_6) x_6.2.2.2.2.2)] fun x_7 y=>cA BO [srd x_7.1 (yG y.2),.str #[(41:UInt8)].toList] fun x_8 y_1=>∃(x_9:Int),y.1=x_9∧cA Bo [srd x_8.1 (Aq x_8.1.sg (xh x_8) x_8.2.2.2.2.2),.int .i64 (11:Int),.str #[].toList,Ab [x_9]] fun x_10 y=>rA (Jd n) x [.int .i64 (AQ (xh x_10)),srd x_10.1 (Ah (xh x_10) {kind:=x_10.2.2.2.2.2.1,text:=x_10.2.2.2.2.2.2.1,kids:=x_10.2.2.2.2.2.2.2,blank:=false})])))))))) (fun x=>by kernel_rfl) fun(x:ST×Int×Int×Bool×List Nd) (hx:wQ 1 (n+1) x.1 (xg x))=>(by
 dsimp only[cA,Bc,Ab,Av,rA,Eg,Jd,Ef,Cb,GA,Hc,Bo,CI,Ms,Gz,BO,Bu,sgs,srd,Au,Az,mvL,lnL,mvE,lnE]
 obtain⟨s,p,d,b,ns⟩:=x;dsimp only[xg,xh] at hx ⊢
 have hx:wQ 1 (n+1) s ⟨p,d,b,ns⟩:=hx
 have h1:=hx.1.1.1;have hs:=h1.1
 (repeat' first|(with_reducible first|rfl|exact True.intro|apply AK|apply And.intro|((first|apply AA|apply AI|apply AB|apply AJ)<;>intro _))|(apply Ax<;>intro _)|apply AH|refine Ae () ?_ ?_|((first|apply AO|apply AN|apply AM|apply AL|apply AG|apply AF|apply AE|apply AD|apply AC)<;>try dsimp only)|apply Ae|(refine Prod.forall.2 ?_;intro _;try dsimp only)|(intro _;try dsimp only))
 all_goals(try dsimp only[xg,xh,yG,yS,iG] at*)
 all_goals(try simp only[CP] at*)
 all_goals first
  |rfl
  |exact h1
  |omega
  |(simp;done)
  |exact a4H h1.2 ‹_›
  |exact b6M hs h1.2 ‹_›
  |exact a4Q hs h1.2 (.inl rfl) ‹_›
  |exact a4Q hs h1.2 (.inr rfl) ‹_›
  |exact HJ h1 (by omega)
  |exact b6R hx ‹_›
  |exact b6N h1 ‹_› ‹_› ‹_› ‹_› ‹_›
  |exact Xx hs ‹_›
  |exact Fu h1
  |exact b6S hx ‹_› ‹_› ‹_›
  |exact b6T hx ‹_› ‹_›
  |exact(El (Fu h1)).1
  |exact Dt h1 ‹_›
  |exact(El (Dt h1 ‹_›)).1
  |exact b6O hx.2 h1 ‹_› ‹_› ‹_› ‹_› ‹_› ‹_› ‹_›
  |exact b6P hx.2 h1 ‹_› ‹_› ‹_› ‹_› ‹_› ‹_› ‹_›
  |exact b6Q h1 ‹_› ‹_› ‹_› ‹_› ‹_› ‹_›
  |(have hq:=Xy hs (show vlQ _ _ _ [] _ _ by assumption);(try simp only[AW,List.length_append,List.length_cons,List.length_nil] at*);omega)
  |skip)
def Tk(n:Nat):Sig:= {X:=ST×Int×Int×Bool×List Nd,args:=fun x=>[srd x.1 (xg x)],pre:=fun x=>wQ 2 (n+1) x.1 (xg x),Y:=Int×Int×Int×Bool×List Nd,post:=fun x y=>Ag x.1.sg (xg x) (pE x.1.sg (n+1) .fin) (yS y),res:=fun x y=> .int .i64 y.1,outs:=fun x y=>[srd x.1 (yG y.2)],keep:=true}
def Qb(n:Nat)(x:ST×Int×Int×Bool×List Nd):LS:= {ι:=Int×Int×Bool×List Nd×Int×Nat,inv:=fun i=>eqJ x.1.sg n (xg x) (iG i) i.2.2.2.2.1 i.2.2.2.2.2,regs:=fun i=>[(0,srd x.1 (iG i)),(3,.int .i64 i.2.2.2.2.1)],als:=[],meas:=fun i=>i.2.2.2.2.2}
theorem b6Z(n:Nat)(h:qAll G n):Ai G Tryz.prog 180 (Tk n):=
 vcFun_okP [(206,0,(Tf n)),(63,0,Cb),(110,0,(Gz n)),(36,0,Bo),(59,0,CI)] [(25,⟨Int,AZ⟩)] false (fun x=>[(2,Qb n x)]) Tryz.func180 rfl (by decide) ⟨h.base,HH,(Xu n h),HI,KU,trivial⟩ (fun(x:ST×Int×Int×Bool×List Nd)=>True∧cA (Tf n) [srd x.1 (xg x)] fun x_1 y=>eA (Qb n x) [srd x_1.1 (yG y.2),.int .i64 y.1]∧∀(i:Int×Int×Bool×List Nd×Int×Nat),eqJ x.1.sg n (xg x) (iG i) i.2.2.2.2.1 i.2.2.2.2.2→Aa (!(iG i).bad) (cA Cb [srd x.1 (iG i),.str #[(40:UInt8)].toList] fun x_2 y=>Aa (isG x_2.1.sg (xh x_2) (4:Int) x_2.2.2.2.2.2) (∃(x_3:Int),i.2.2.2.2.1=x_3∧cA (Gz n) [srd x_2.1 (Al x_2.1.sg (xh x_2) x_2.2.2.2.2.2),.str #[(41:UInt8)].toList,Ab [x_3]] fun x_4 y=>cA Bo [srd x_4.1 (yG y.2),.int .i64 (5:Int),.str #[].toList,Ab y.1] fun x_5 y=>eN (Qb n x) i [srd x_5.1 (Ah (xh x_5) {kind:=x_5.2.2.2.2.2.1,text:=x_5.2.2.2.2.2.2.1,kids:=x_5.2.2.2.2.2.2.2,blank:=false}),.int .i64 (AQ (xh x_5))]) (cA Cb [srd x_2.1 (Al x_2.1.sg (xh x_2) x_2.2.2.2.2.2),.str #[(46:UInt8)].toList] fun x_3 y=>Aa (isG x_3.1.sg (xh x_3) (4:Int) x_3.2.2.2.2.2) (cA CI [srd x_3.1 (Al x_3.1.sg (xh x_3) x_3.2.2.2.2.2),.int .i64 (1:Int)] fun x_4 y=>∃(x_5:Int),i.2.2.2.2.1=x_5∧cA Bo [srd x_4.1 (Be x_4.1.sg (xh x_4) x_4.2.2.2.2.2),.int .i64 (6:Int),.str (Bz x_4.1.sg (xh x_4) x_4.2.2.2.2.2),Ab [x_5]] fun x_6 y=>eN (Qb n x) i [srd x_6.1 (Ah (xh x_6) {kind:=x_6.2.2.2.2.2.1,text:=x_6.2.2.2.2.2.2.1,kids:=x_6.2.2.2.2.2.2.2,blank:=false}),.int .i64 (AQ (xh x_6))]) (rA (Tk n) x [.int .i64 i.2.2.2.2.1,srd x_3.1 (Al x_3.1.sg (xh x_3) x_3.2.2.2.2.2)]))) (rA (Tk n) x [.int .i64 i.2.2.2.2.1,srd x.1 (iG i)])) (fun x=>by kernel_rfl) fun(x:ST×Int×Int×Bool×List Nd) (hx:wQ 2 (n+1) x.1 (xg x))=>(by
 dsimp only[cA,eA,eN,Qb,Bc,Ab,Av,rA,Tf,Tk,Cb,Bo,CI,Gz,Bu,sgs,srd,Au,Az,mvL,lnL,mvE,lnE,Bq]
 obtain⟨s,p,d,b,ns⟩:=x;dsimp only[xg,xh] at hx ⊢
 have hx:wQ 2 (n+1) s ⟨p,d,b,ns⟩:=hx
 have h1:=hx.1.1.1;have hs:=h1.1
 (repeat' first|(with_reducible first|rfl|exact True.intro|apply AK|apply And.intro|((first|apply AA|apply AI|apply AB|apply AJ)<;>intro _))|(apply Ax<;>intro _)|apply AH|refine Ae () ?_ ?_|((first|apply AO|apply AN|apply AM|apply AL|apply AG|apply AF|apply AE|apply AD|apply AC)<;>try dsimp only)|apply Ae|(refine Prod.forall.2 ?_;intro _;try dsimp only)|(intro _;try dsimp only))
 all_goals(try dsimp only[xg,xh,yG,yS,iG] at*)
 all_goals(try simp only[CP] at*)
 all_goals first
  |(show Nat;skip)
  |rfl
  |exact⟨a3d hx.1.1.1 hx.1.1.2 hx.1.2,hx.2⟩
  |exact b6U hx ‹_›
  |exact a4R hx ‹_›
  |exact b6V hx ‹_› ‹_›
  |exact(Xz hx ‹_›).1
  |exact(Xz hx ‹_›).2.1
  |exact(Xz hx ‹_›).2.2
  |exact Xx hs ‹_›
  |exact(a4S hx ‹_› ‹_› ‹_›).1
  |exact(a4T hx ‹_› ‹_› ‹_›).1
  |exact b6W ‹_› ‹_›
  |exact b6X ‹_› ‹_› ‹_› ‹_›
  |omega
  |(simp;done)
  |skip
 all_goals first
  |exact(a4S hx ‹_› ‹_› ‹_›).2
  |exact(a4T hx ‹_› ‹_› ‹_›).2
  |skip)
end Go.My
end
