/- A part of the proof: the engine and the contracts, joined. -/
import Derived.Test.YtjmoahjpdapjkaaGreatDoorQI
section
set_option linter.unusedVariables false
set_option linter.unusedSimpArgs false
namespace Go.My
open Go.Eng Go.Proofs
variable {G:GInv}
def NQ:List (List UInt8):=[[38,38],[124,124],[61,61],[61,62],[46,46]]
def La:List (List UInt8):=[[40],[41],[123],[125],[91],[93],[59],[44],[46],[61],[43],[45],[42],[60],[63],[58]]
def mks:List (List UInt8):=[[38,38],[124,124],[61,61],[61,62],[46,46],[40],[41],[123],[125],[91],[93],[59],[44],[46],[61],[43],[45],[42],[60],[63],[58]]
def Fu(s:List UInt8):List UInt8:=(mks.find? fun m=>s.take m.length==m).getD []
theorem Uo{s:List UInt8}{k:Nat}:∀ {l:List (List UInt8)},(∀m∈l,m.length=k)→l.find? (fun m=>s.take m.length==m)=if l.elem (s.take k) then some (s.take k) else none
 |[],_=>rfl
 |m::l,h=>by
  have hm:=h m (by simp)
  rw[List.find?_cons,List.elem_cons,hm]
  cases he:(s.take k==m) with
  |true=>
   have:s.take k=m:=by simpa using he
   simp [this]
  |false=>
   rw[Uo (l:=l) (fun m hm=>h m (by simp [hm]))]
theorem a1b{s:List UInt8}:Fu s=if NQ.elem (s.take 2) then s.take 2 else if La.elem (s.take 1) then s.take 1 else []:=by
 have e:mks=NQ++La:=rfl
 rw[Fu,e,List.find?_append,Uo (k:=2) (l:=NQ) (by decide),Uo (k:=1) (l:=La) (by decide)]
 split
 ·rfl
 ·split<;>rfl
theorem a9Q{s:List UInt8}:NQ.elem s=mk2 s:=by
 rw[Bool.eq_iff_iff];simp [NQ,mk2]
theorem a9R{c:UInt8}:La.elem [c]=mk1.elem c:=by
 simp [La,mk1,List.elem_cons,List.elem_nil]
theorem a1c{c:UInt8}{s:List UInt8}:Fu (c::s)=if CB ((c::s).take 2) then(c::s).take 2 else if CB ((c::s).take 1) then(c::s).take 1 else []:=by
 rw[a1b,a9Q]
 have h1:La.elem ((c::s).take 1)=CB ((c::s).take 1):=by
  show La.elem [c]=CB [c]
  rw[a9R]
  simp [CB,mk2]
 rw[h1]
 cases s with
 |nil=>
  show(if mk2 [c]=true then [c] else if CB [c]=true then [c] else [])=if CB [c]=true then [c] else if CB [c]=true then [c] else []
  have:mk2 [c]=false:=by simp [mk2]
  rw[this];simp
 |cons d r=>
  have:CB ((c::d::r).take 2)=mk2 ((c::d::r).take 2):=by
   show CB [c,d]=mk2 [c,d]
   simp [CB]
  rw[this]
def Hz(x:List UInt8×Int)(i:Int):Prop:=(0≤i∧i≤21)∧Fu (x.1.drop x.2.toNat)=((mks.drop i.toNat).find? fun m=>(x.1.drop x.2.toNat).take m.length==m).getD []
theorem a9S{x:List UInt8×Int}:Hz x 0:=⟨by omega,rfl⟩
theorem a1d{x:List UInt8×Int}{i:Int}{m:List UInt8}(h:Hz x i)(ha:mks[i.toNat]? =some m)(hg:((x.1.drop x.2.toNat).take m.length==m)=false):Hz x (i+1):=by
 have hlt:=(List.getElem?_eq_some_iff.1 ha).1
 have h21:mks.length=21:=rfl
 obtain⟨h1,h2⟩:=h
 refine⟨by omega,?_⟩
 rw[h2,List.drop_eq_getElem_cons hlt,(List.getElem?_eq_some_iff.1 ha).2,List.find?_cons_of_neg (by simpa using hg),show(i+1).toNat=i.toNat+1 by omega]
theorem a9T{x:List UInt8×Int}{i:Int}{m:List UInt8}(h:Hz x i)(ha:mks[i.toNat]? =some m)(hg:((x.1.drop x.2.toNat).take m.length==m)=true):m=Fu (x.1.drop x.2.toNat):=by
 have hlt:=(List.getElem?_eq_some_iff.1 ha).1
 rw[h.2,List.drop_eq_getElem_cons hlt,(List.getElem?_eq_some_iff.1 ha).2,List.find?_cons_of_pos (by simpa using hg)];rfl
theorem a9U{x:List UInt8×Int}{i:Int}(h:Hz x i)(hi:¬i<21):[]=Fu (x.1.drop x.2.toNat):=by
 have e:mks.drop i.toNat=[]:=List.drop_eq_nil_of_le (by have h21:mks.length=21:=rfl;rw[h21];omega)
 rw[h.2,e];rfl
theorem QB{t:List UInt8}{a n:Int}(h0:0≤a)(hn:0≤n):List.drop a.toNat (List.take (a+n).toNat t)=(t.drop a.toNat).take n.toNat:=by
 rw[List.drop_take,show(a+n).toNat-a.toNat=n.toNat by omega]
theorem a9V{x:List UInt8×Int}{m:List UInt8}(h0:0≤x.2)(h2:x.2≤x.1.length)(hl:¬x.2+(m.length:Int)≤x.1.length):((x.1.drop x.2.toNat).take m.length==m)=false:=by
 have:((x.1.drop x.2.toNat).take m.length)≠m:=by
  intro e
  have:=congrArg List.length e
  simp at this;omega
 simpa using this
theorem a9W{x:List UInt8×Int}{m:List UInt8}(h0:0≤x.2)(h:List.drop (Int.toNat x.2) (List.take (Int.toNat (x.2+(m.length:Int))) x.1)=m):((x.1.drop x.2.toNat).take m.length==m)=true:=by
 rw[QB h0 (by omega)] at h;simpa using h
theorem a9X{x:List UInt8×Int}{m:List UInt8}(h0:0≤x.2)(h:List.drop (Int.toNat x.2) (List.take (Int.toNat (x.2+(m.length:Int))) x.1)≠m):((x.1.drop x.2.toNat).take m.length==m)=false:=by
 rw[QB h0 (by omega)] at h;simpa using h
theorem a9Y{i:Int}{m:List UInt8}(ha:mks[i.toNat]? =some m):m.length≤2:=by
 have:∀m∈mks,m.length≤2:=by decide
 exact this m (List.mem_of_getElem? ha)
theorem a1e{x:List UInt8×Int}{i:Int}(h:Hz x i):0≤i∧i≤21:=h.1
attribute [local irreducible] Hz Fu
def Mq:Sig:= {X:=Unit,args:=fun x=>[],pre:=fun x=>True,Y:=Unit,post:=fun x y=>True,res:=fun x y=> .sl false 0 1 (List UInt8) Bo mks,outs:=fun x y=>[],keep:=true}
theorem a9Z:Aq G Tryz.prog 110 Mq:=
 vcFun_okP [] [(41,⟨List UInt8,Bo⟩)] false (fun x=>[]) Tryz.func110 rfl (by decide) trivial (fun(x:Unit)=>True∧∃(x_1:List UInt8),#[(38:UInt8),(38:UInt8)].toList=x_1∧∃(x_2:List UInt8),#[(124:UInt8),(124:UInt8)].toList=x_2∧∃(x_3:List UInt8),#[(61:UInt8),(61:UInt8)].toList=x_3∧∃(x_4:List UInt8),#[(61:UInt8),(62:UInt8)].toList=x_4∧∃(x_5:List UInt8),#[(46:UInt8),(46:UInt8)].toList=x_5∧∃(x_6:List UInt8),#[(40:UInt8)].toList=x_6∧∃(x_7:List UInt8),#[(41:UInt8)].toList=x_7∧∃(x_8:List UInt8),#[(123:UInt8)].toList=x_8∧∃(x_9:List UInt8),#[(125:UInt8)].toList=x_9∧∃(x_10:List UInt8),#[(91:UInt8)].toList=x_10∧∃(x_11:List UInt8),#[(93:UInt8)].toList=x_11∧∃(x_12:List UInt8),#[(59:UInt8)].toList=x_12∧∃(x_13:List UInt8),#[(44:UInt8)].toList=x_13∧∃(x_14:List UInt8),#[(46:UInt8)].toList=x_14∧∃(x_15:List UInt8),#[(61:UInt8)].toList=x_15∧∃(x_16:List UInt8),#[(43:UInt8)].toList=x_16∧∃(x_17:List UInt8),#[(45:UInt8)].toList=x_17∧∃(x_18:List UInt8),#[(42:UInt8)].toList=x_18∧∃(x_19:List UInt8),#[(60:UInt8)].toList=x_19∧∃(x_20:List UInt8),#[(63:UInt8)].toList=x_20∧∃(x_21:List UInt8),#[(58:UInt8)].toList=x_21∧rA Mq x [AV.sl true (0:Nat) (1:Nat) (List UInt8) Bo [x_1,x_2,x_3,x_4,x_5,x_6,x_7,x_8,x_9,x_10,x_11,x_12,x_13,x_14,x_15,x_16,x_17,x_18,x_19,x_20,x_21]]) (fun x=>by kernel_rfl) fun(x:Unit) (hx:True)=>(by
 dsimp only[rA,Mq,Av,Az]
 (repeat' first|(with_reducible first|rfl|exact True.intro|apply AK|apply And.intro|((first|apply AA|apply AI|apply AB|apply AJ)<;>intro _))|(apply Ax<;>intro _)|apply AH|refine Af () ?_ ?_|((first|apply AO|apply AN|apply AM|apply AL|apply AG|apply AF|apply AE|apply AD|apply AC)<;>try dsimp only)|apply Af|(refine Prod.forall.2 ?_;intro _;try dsimp only)|(intro _;try dsimp only))
 all_goals first
  |rfl
  |(simp [AW];done)
  |skip)
def Lb:Sig:= {X:=List UInt8×Int,args:=fun x=>[.str x.1,.int .i64 x.2],pre:=fun x=>0≤x.2∧x.2≤x.1.length∧x.1.length<2^62,Y:=Unit,post:=fun x y=>True,res:=fun x y=> .str (Fu (x.1.drop x.2.toNat)),outs:=fun x y=>[.top,.top],keep:=false}
def NR(x:List UInt8×Int):LS:= {ι:=Int,inv:=fun i=>Hz x i,regs:=fun i=>[(0,.str x.1),(1,.int .i64 x.2),(5,.sl false 0 1 (List UInt8) Bo mks),(6,.int .i64 i)],als:=[],meas:=fun i=>21-i.toNat}
theorem b0a:Aq G Tryz.prog 81 Lb:=
 vcFun_okP [(110,0,Mq)] [(41,⟨List UInt8,Bo⟩)] false (fun x=>[(3,NR x)]) Tryz.func81 rfl (by decide) ⟨a9Z,trivial⟩ (fun(x:List UInt8×Int)=>(∀(y:Unit),True→True∧True∧True∧True)∧cA Mq [] fun x_1 y=>eA (NR x) [.str x.1,.int .i64 x.2,AV.sl false (0:Nat) (1:Nat) (List UInt8) Bo mks,.int .i64 (0:Int)]∧∀(i:Int),Hz x i→Aa (decide (i<(↑(21:Nat):Int))) (((0:Int)≤i∧i<(↑(21:Nat):Int))∧∀(e:List UInt8),mks[Int.toNat i]? =some e→true=true∧true=true∧inR IntKind.i64 (x.2+(↑(List.length e):Int))∧Aa (decide (x.2+(↑(List.length e):Int)≤(↑(List.length x.1):Int))) (inR IntKind.i64 (x.2+(↑(List.length e):Int))∧((0:Int)≤x.2∧x.2≤x.2+(↑(List.length e):Int)∧x.2+(↑(List.length e):Int)≤(↑(List.length x.1):Int))∧((0:Int)≤i∧i<(↑(21:Nat):Int))∧∀(e_1:List UInt8),mks[Int.toNat i]? =some e_1→Aa (List.drop (Int.toNat x.2) (List.take (Int.toNat (x.2+(↑(List.length e):Int))) x.1)==e_1) (((0:Int)≤i∧i<(↑(21:Nat):Int))∧∀(e:List UInt8),mks[Int.toNat i]? =some e→rA Lb x [.str e,.top,.top]) (inR IntKind.i64 (i+(1:Int))∧eN (NR x) i [.str x.1,.int .i64 x.2,AV.sl false (0:Nat) (1:Nat) (List UInt8) Bo mks,.int .i64 (i+(1:Int))])) (inR IntKind.i64 (i+(1:Int))∧eN (NR x) i [.str x.1,.int .i64 x.2,AV.sl false (0:Nat) (1:Nat) (List UInt8) Bo mks,.int .i64 (i+(1:Int))])) (rA Lb x [.str #[].toList,.top,.top])) (fun x=>by kernel_rfl) fun(x:List UInt8×Int) (hx:0≤x.2∧x.2≤x.1.length∧x.1.length<2^62)=>(by
 dsimp only[cA,eA,eN,NR,rA,Lb,Mq,Av,Az,mvL,lnL,mvE,lnE,BA]
 obtain⟨h1,h2,h3⟩:=hx
 (repeat' first|(with_reducible first|rfl|exact True.intro|apply AK|apply And.intro|((first|apply AA|apply AI|apply AB|apply AJ)<;>intro _))|(apply Ax<;>intro _)|apply AH|refine Af () ?_ ?_|((first|apply AO|apply AN|apply AM|apply AL|apply AG|apply AF|apply AE|apply AD|apply AC)<;>try dsimp only)|apply Af|(refine Prod.forall.2 ?_;intro _;try dsimp only)|(intro _;try dsimp only))
 all_goals(try(repeat(rename mks[_]? =some _=>hq;revert hq;rename mks[_]? =some _=>hr;intro hq;rw[hr] at hq;cases hq)))
 all_goals first
  |rfl
  |exact a9S
  |exact a1d ‹_› ‹_› (a9V h1 h2 ‹_›)
  |exact a1d ‹_› ‹_› (a9X h1 ‹_›)
  |exact a9T ‹_› ‹_› (a9W h1 ‹_›)
  |exact a9U ‹_› (by omega)
  |(have hq:=a1e (show Hz _ _ by assumption);(try simp only[AR]);omega)
  |(have hq:=a1e (show Hz _ _ by assumption);have hm:=a9Y ‹_›;(try simp only[AR]);omega)
  |skip)
def rwI(p:UInt8→Bool)(x:List UInt8×Int)(i:Int):Prop:=(x.2≤i∧i≤x.1.length)∧∀e∈(x.1.drop x.2.toNat).take (i-x.2).toNat,p e=true
theorem b0b{p:UInt8→Bool}{x:List UInt8×Int}(h:x.2≤x.1.length):rwI p x x.2:=by
 refine⟨⟨by omega,h⟩,fun e he=> ?_⟩
 rw[show(x.2-x.2).toNat=0 by omega] at he;simp at he
theorem Up{p:UInt8→Bool}{x:List UInt8×Int}{i:Int}{c:UInt8}(h0:0≤x.2)(h:rwI p x i)(hi:i<x.1.length)(hc:x.1[i.toNat]? =some c)(hp:p c=true):rwI p x (i+1):=by
 obtain⟨⟨a,b⟩,h2⟩:=h
 exact⟨by omega,Pe h2 (by rw[Np h0 a];exact hc) hp (by omega)⟩
theorem a1f{p:UInt8→Bool}{x:List UInt8×Int}{i:Int}(h0:0≤x.2)(h:rwI p x i)(he:¬i<x.1.length∨∃c,x.1[i.toNat]? =some c∧p c=false):((x.1.drop x.2.toNat).takeWhile p)=List.drop (Int.toNat x.2) (List.take (Int.toNat i) x.1)∧((((x.1.drop x.2.toNat).takeWhile p).length:Nat):Int)=i-x.2:=by
 obtain⟨⟨a,b⟩,h2⟩:=h
 have e:=Iw h2 (by
  rcases he with he|⟨c,hc,hp⟩
  ·left;simp;omega
  ·right;exact⟨c,by rw[Np h0 a];exact hc,hp⟩)
 rw[←e,List.drop_take]
 refine⟨by congr 1;omega,?_⟩
 simp;omega
theorem b0c{p:UInt8→Bool}{x:List UInt8×Int}{i:Int}(h:rwI p x i):x.2≤i∧i≤x.1.length:=h.1
def sgR(x:List UInt8×Int)(k:Int)(t:List UInt8)(p:Int)(b:Bool)(n:Int):Prop:=
 ((Bb (x.1.drop x.2.toNat)).ok=true∧(k=(Bb (x.1.drop x.2.toNat)).kind∧t=(Bb (x.1.drop x.2.toNat)).text∧p=x.2∧b=false)∧n=(Bb (x.1.drop x.2.toNat)).size)∨((Bb (x.1.drop x.2.toNat)).ok=false∧n=0)
theorem QC{x:List UInt8×Int}{c:UInt8}(hc:x.1[x.2.toNat]? =some c):x.1.drop x.2.toNat=c::x.1.drop (x.2.toNat+1):=by
 have hlt:=(List.getElem?_eq_some_iff.1 hc).1
 rw[List.drop_eq_getElem_cons hlt,(List.getElem?_eq_some_iff.1 hc).2]
theorem b0d{x:List UInt8×Int}(h0:0≤x.2)(h:(Co (x.1.drop x.2.toNat):Int)>0):sgR x 5 (CC (List.drop (Int.toNat x.2) (List.take (Int.toNat (x.2+(Co (x.1.drop x.2.toNat):Int))) x.1))) x.2 false (Co (x.1.drop x.2.toNat)):=by
 rw[QB h0 (by omega)]
 unfold sgR
 generalize x.1.drop x.2.toNat=s at*
 unfold Co at h ⊢
 split at h
 ·rename_i h2
  split at h
  ·rename_i hp
   rw[if_pos h2,if_pos hp]
   match s with
   |[]=>simp at h2
   |[_]=>simp at h2
   |b::c::r=>
    simp at h2
    obtain⟨rfl,rfl⟩:=h2
    left
    simp only[Bb,show Cp 47=false by decide,show Bq 47=false by decide,Bool.false_eq_true,if_false,show(47:UInt8).toNat≠39 by decide,List.take_succ_cons,List.take_zero,if_true]
    refine⟨hp,⟨trivial,?_,trivial,trivial⟩,trivial⟩
    congr 1
    have:=List.takeWhile_prefix Cf (l:=47::47::r)
    rw[Int.toNat_natCast]
    exact(List.prefix_iff_eq_take.1 this).symm
  ·simp at h
 ·simp at h
theorem b0e{s:List UInt8}{c:UInt8}(h:¬(Co (c::s):Int)>0)(h2:(c::s).take 2=[47,47]):((c::s).takeWhile Cf).all Cg=false:=by
 cases hp:((c::s).takeWhile Cf).all Cg with
 |false=>rfl
 |true=>
  exfalso
  apply h
  rw[Co,if_pos h2,if_pos hp]
  match s with
  |[]=>simp at h2
  |d::r=>
   simp at h2
   obtain⟨rfl,rfl⟩:=h2
   have:Cf 47=true:=by decide
   simp [List.takeWhile_cons,this];omega
theorem QD{x:List UInt8×Int}{i:Int}{c:UInt8}(h0:0≤x.2)(hc:x.1[x.2.toNat]? =some c)(hf:Cp c=true)(h:rwI BN x i)(he:¬i<x.1.length∨∃c,x.1[i.toNat]? =some c∧BN c=false):
 (i-x.2>30→sgR x 0 [] 0 false 0)∧(¬i-x.2>30→sgR x 1 (List.drop (Int.toNat x.2) (List.take (Int.toNat i) x.1)) x.2 false (i-x.2)):=by
 obtain⟨e1,e2⟩:=a1f h0 h he
 have e:=QC hc
 have es:Bb (x.1.drop x.2.toNat)=⟨1,(x.1.drop x.2.toNat).takeWhile BN,((x.1.drop x.2.toNat).takeWhile BN).length,decide (((x.1.drop x.2.toNat).takeWhile BN).length≤30)⟩:=by
  rw[e];simp only[Bb,hf,if_true]
 unfold sgR
 rw[es]
 refine⟨fun h3=> .inr ⟨by simp;omega,rfl⟩,fun h3=> .inl ⟨by simp;omega,⟨rfl,e1.symm,rfl,rfl⟩,by simp only;omega⟩⟩
theorem NS{x:List UInt8×Int}{i:Int}{c:UInt8}(h0:0≤x.2)(hc:x.1[x.2.toNat]? =some c)(hf:Cp c=false)(hg:Bq c=true)(h:rwI Bq x i)(he:¬i<x.1.length∨∃c,x.1[i.toNat]? =some c∧Bq c=false):
 (i-x.2>12→sgR x 0 [] 0 false 0)∧(¬i-x.2>12→sgR x 2 (List.drop (Int.toNat x.2) (List.take (Int.toNat i) x.1)) x.2 false (i-x.2)):=by
 obtain⟨e1,e2⟩:=a1f h0 h he
 have e:=QC hc
 have es:Bb (x.1.drop x.2.toNat)=⟨2,(x.1.drop x.2.toNat).takeWhile Bq,((x.1.drop x.2.toNat).takeWhile Bq).length,decide (((x.1.drop x.2.toNat).takeWhile Bq).length≤12)⟩:=by
  rw[e];simp only[Bb,hf,hg,Bool.false_eq_true,if_false,if_true]
 unfold sgR
 rw[es]
 refine⟨fun h3=> .inr ⟨by simp;omega,rfl⟩,fun h3=> .inl ⟨by simp;omega,⟨rfl,e1.symm,rfl,rfl⟩,by simp only;omega⟩⟩
theorem b0f{x:List UInt8×Int}{c:UInt8}(h0:0≤x.2)(hc:x.1[x.2.toNat]? =some c)(hf:Cp c=false)(hg:Bq c=false)(hq:(c.toNat:Int)=39):
 sgR x 3 (List.drop (Int.toNat x.2) (List.take (Int.toNat (x.2+(Cx (x.1.drop x.2.toNat):Int))) x.1)) x.2 false (Cx (x.1.drop x.2.toNat)):=by
 rw[QB h0 (by omega)]
 have e:=QC hc
 have hq2:isQ c=true:=by simp [isQ];omega
 unfold sgR
 rw[e]
 have es:Bb (c::x.1.drop (x.2.toNat+1))=⟨3,(Dm (c::x.1.drop (x.2.toNat+1))).1,(Dm (c::x.1.drop (x.2.toNat+1))).1.length,(Dm (c::x.1.drop (x.2.toNat+1))).2⟩:=by
  simp only[Bb,hf,hg,Bool.false_eq_true,if_false,show c.toNat=39 by omega,if_true]
 rw[es]
 by_cases hz:Cx (c::x.1.drop (x.2.toNat+1))=0
 ·right
  refine⟨?_,by rw[hz];rfl⟩
  cases hb:(Dm (c::x.1.drop (x.2.toNat+1))).2 with
  |false=>rfl
  |true=>exact((Pd hq2).1 hb hz).elim
 ·left
  obtain⟨l1,l2⟩:=Xw hq2 hz
  refine⟨(Pd hq2).2 hz,⟨rfl,?_,rfl,rfl⟩,?_⟩
  ·simp only[l1,Int.toNat_natCast]
  ·simp only[l1,List.length_take];omega
theorem b0g{x:List UInt8×Int}{c:UInt8}(h0:0≤x.2)(hc:x.1[x.2.toNat]? =some c)(hn:¬(Co (x.1.drop x.2.toNat):Int)>0)(hf:Cp c=false)(hg:Bq c=false)(hq:(c.toNat:Int)≠39):
 sgR x 4 (Fu (x.1.drop x.2.toNat)) x.2 false (Fu (x.1.drop x.2.toNat)).length:=by
 have e:=QC hc
 unfold sgR
 rw[e] at hn ⊢
 generalize x.1.drop (x.2.toNat+1)=s at*
 by_cases h2:(c::s).take 2=[47,47]
 ·right
  have e0:Fu (c::s)=[]:=by
   rw[a1c,h2,if_neg (by decide)]
   have:(c::s).take 1=[47]:=by
    have:=congrArg (List.take 1) h2
    simpa using this
   rw[this,if_neg (by decide)]
  have hp:=b0e hn h2
  refine⟨?_,by rw[e0];rfl⟩
  simp only[Bb,hf,hg,Bool.false_eq_true,if_false,if_neg (show¬c.toNat=39 by omega),h2,if_true]
  exact hp
 ·have es:Bb (c::s)=if CB ((c::s).take 2) then⟨4,(c::s).take 2,((c::s).take 2).length,true⟩ else if CB ((c::s).take 1) then⟨4,(c::s).take 1,1,true⟩ else⟨0,[],0,false⟩:=by
   simp only[Bb,hf,hg,Bool.false_eq_true,if_false,if_neg (show¬c.toNat=39 by omega),if_neg h2]
  rw[es,a1c]
  split
  ·left;exact⟨rfl,⟨rfl,rfl,rfl,rfl⟩,rfl⟩
  ·split
   ·left;exact⟨rfl,⟨rfl,rfl,rfl,rfl⟩,by simp⟩
   ·right;exact⟨rfl,rfl⟩
end Go.My
end
section
set_option linter.unusedVariables false
set_option linter.unusedSimpArgs false
namespace Go.My
open Go.Eng Go.Proofs
variable {G:GInv}
def Fb:List UInt8→List UInt8→List (List UInt8)
 |[],a=>if a=[] then [] else [a]
 |c::l,a=>if c=10 then a::Fb l [] else Fb l (a++[c])
def AY(t:List UInt8):List (List UInt8):=Fb t []
def dlE:List (List UInt8)→List (List UInt8)
 |[]=>[]
 |[p]=>if p=[] then [] else [p]
 |p::q::r=>p::dlE (q::r)
theorem a1g{p:List UInt8}{l:List (List UInt8)}(h:l≠[]):dlE (p::l)=p::dlE l:=by
 match l,h with
 |q::r,_=>rfl
theorem Uq:∀(l a p:List UInt8) (ps:List (List UInt8)),BB l=p::ps→Fb l a=dlE ((a++p)::ps)
 |[],a,p,ps,h=>by
  simp [BB] at h
  obtain⟨rfl,rfl⟩:=h
  simp [Fb,dlE]
 |c::l,a,p,ps,h=>by
  rw[BB] at h
  by_cases e:c=10
  ·rw[if_pos e] at h
   simp only[List.cons.injEq] at h
   obtain⟨rfl,rfl⟩:=h
   rw[Fb,if_pos e,List.append_nil,a1g (Ny l)]
   match hq:BB l with
   |[]=>exact(Ny l hq).elim
   |q::r=>rw[Uq l [] q r hq];rfl
  ·rw[if_neg e] at h
   rw[Fb,if_neg e]
   match hq:BB l with
   |[]=>exact(Ny l hq).elim
   |q::r=>
    rw[hq] at h
    simp only[List.cons.injEq] at h
    obtain⟨rfl,rfl⟩:=h
    rw[Uq l (a++[c]) q r hq];simp
theorem a1h(t:List UInt8):AY t=dlE (BB t):=by
 unfold AY
 match hq:BB t with
 |[]=>exact(Ny t hq).elim
 |q::r=>rw[Uq t [] q r hq];rfl
theorem Ur:∀ {l:List (List UInt8)} {z:List UInt8},l[l.length-1]? =some z→dlE l=if z=[] then l.take (l.length-1) else l
 |[],_,h=>by simp at h
 |[p],z,h=>by simp at h;subst h;simp [dlE]
 |p::q::r,z,h=>by
  have h2:(q::r)[(q::r).length-1]? =some z:=by
   rw[show(p::q::r).length-1=((q::r).length-1)+1 by simp,List.getElem?_cons_succ] at h;exact h
  rw[a1g (by simp),Ur h2]
  split
  ·simp
  ·rfl
theorem b0h{t z:List UInt8}(h:(BB t)[((BB t).length-1:Int).toNat]? =some z)(hz:z=[]):(BB t).take ((BB t).length-1:Int).toNat=AY t:=by
 have e:((BB t).length-1:Int).toNat=(BB t).length-1:=by omega
 rw[e] at h ⊢
 rw[a1h,Ur h,if_pos hz]
theorem b0i{t z:List UInt8}(h:(BB t)[((BB t).length-1:Int).toNat]? =some z)(hz:z≠[]):BB t=AY t:=by
 have e:((BB t).length-1:Int).toNat=(BB t).length-1:=by omega
 rw[e] at h
 rw[a1h,Ur h,if_neg hz]
theorem Us:∀(l a:List UInt8),(Fb l a).length≤l.length+1∧∀p∈Fb l a,p.length≤a.length+l.length
 |[],a=>by
  unfold Fb;split
  ·simp
  ·simp
 |c::l,a=>by
  unfold Fb;split
  ·have:=Us l []
   refine⟨by simp;omega,fun p hp=> ?_⟩
   rcases List.mem_cons.1 hp with rfl|hp
   ·omega
   ·have:=this.2 p hp;simp at this ⊢;omega
  ·have:=Us l (a++[c])
   refine⟨by simp;omega,fun p hp=> ?_⟩
   have:=this.2 p hp;simp at this ⊢;omega
theorem Ut{t:List UInt8}:(AY t).length≤t.length+1∧∀p∈AY t,p.length≤t.length:=by
 have:=Us t []
 refine⟨this.1,fun p hp=>by have:=this.2 p hp;simpa using this⟩
theorem b0j{t:List UInt8}:1≤(BB t).length:=by
 cases h:BB t with
 |nil=>exact(Ny t h).elim
 |cons _ _=>simp
def lnI(t:List UInt8)(i b:Int)(o:List (List UInt8)):Prop:=((0≤b∧b≤i)∧i≤t.length)∧o.length≤i∧AY t=o++Fb (t.drop i.toNat) ((t.take i.toNat).drop b.toNat)
theorem b0k{t:List UInt8}:lnI t 0 0 []:=⟨by omega,by simp,by simp [AY]⟩
theorem a1i{t:List UInt8}{i b:Int}{o:List (List UInt8)}(h:lnI t i b o):((0≤b∧b≤i)∧i≤t.length)∧o.length≤t.length:=⟨h.1,by have:=h.1;have:=h.2.1;omega⟩
theorem b0l{t:List UInt8}{i b:Int}{o:List (List UInt8)}{c:UInt8}(h:lnI t i b o)(hc:t[i.toNat]? =some c)(e:(c.toNat:Int)=10):lnI t (i+1) (i+1) (o++[(t.take i.toNat).drop b.toNat]):=by
 obtain⟨h1,h2,h3⟩:=h
 have hl:=(DS hc).1
 have e:c=10:=UInt8.toNat_inj.1 (by simp;omega)
 refine⟨by omega,by simp;omega,?_⟩
 rw[h3,Js hc,Fb,if_pos e,Db (by omega)]
 simp
theorem b0m{t:List UInt8}{i b:Int}{o:List (List UInt8)}{c:UInt8}(h:lnI t i b o)(hc:t[i.toNat]? =some c)(e:(c.toNat:Int)≠10):lnI t (i+1) b o:=by
 obtain⟨h1,h2,h3⟩:=h
 have hl:=(DS hc).1
 have e:c≠10:=fun h=>e (by rw[h];rfl)
 refine⟨by omega,by omega,?_⟩
 rw[h3,Js hc,Fb,if_neg e,Db (by omega),Fg hc,List.drop_append_of_le_length (by rw[List.length_take];omega)]
theorem b0n{t:List UInt8}{i b:Int}{o:List (List UInt8)}(h:lnI t i b o)(hi:¬i<t.length)(hb:¬b<t.length):o=AY t:=by
 obtain⟨h1,h2,h3⟩:=h
 rw[h3,List.drop_eq_nil_of_le (by omega),List.drop_eq_nil_of_le (by rw[List.length_take];omega),Fb];simp
theorem b0o{t:List UInt8}{i b:Int}{o:List (List UInt8)}(h:lnI t i b o)(hi:¬i<t.length)(hb:b<t.length):o++[t.drop b.toNat]=AY t:=by
 obtain⟨h1,h2,h3⟩:=h
 rw[h3,List.drop_eq_nil_of_le (show t.length≤i.toNat by omega),List.take_of_length_le (by omega),Fb,if_neg]
 intro e
 have:=congrArg List.length e
 rw[List.length_drop] at this
 simp at this;omega
def JN(l:List (List UInt8)):Nat→Int
 |0=>0
 |n+1=>max (JN l n) ((l.getD n []).length:Int)
def BD(t:List UInt8):Int:=JN (AY t) (AY t).length
theorem a1j{l:List (List UInt8)}{m:Nat}(h:∀p∈l,p.length≤m):∀n,0≤JN l n∧JN l n≤m
 |0=>by simp [JN]
 |n+1=>by
  have ih:=a1j h n
  rw[JN]
  have:((l.getD n []).length:Int)≤m:=by
   rw[List.getD]
   cases hx:l[n]? with
   |none=>simp
   |some p=>have:=h p (Dl hx);simp;omega
  omega
def wdI(t:List UInt8)(i m:Int):Prop:=(0≤i∧i≤(AY t).length)∧m=JN (AY t) i.toNat
theorem a1k{t:List UInt8}:wdI t 0 0:=⟨by omega,rfl⟩
theorem a1l{t:List UInt8}{i m:Int}(h:wdI t i m):(0≤i∧i≤(AY t).length)∧0≤m∧m≤t.length:=⟨h.1,by rw[h.2];exact a1j Ut.2 _⟩
theorem Uu{t:List UInt8}{i m:Int}{p:List UInt8}(h:wdI t i m)(hp:(AY t)[i.toNat]? =some p):wdI t (i+1) (max m p.length):=by
 have hl:=(DS hp).1
 refine⟨by have:=h.1;omega,?_⟩
 rw[Db h.1.1,JN,←h.2,List.getD,hp];rfl
theorem b0p{t:List UInt8}{i m:Int}{p:List UInt8}(h:wdI t i m)(hp:(AY t)[i.toNat]? =some p)(hg:(p.length:Int)>m):wdI t (i+1) p.length:=by
 have:=Uu h hp
 rwa [show max m (p.length:Int)=p.length by omega] at this
theorem b0q{t:List UInt8}{i m:Int}{p:List UInt8}(h:wdI t i m)(hp:(AY t)[i.toNat]? =some p)(hg:¬(p.length:Int)>m):wdI t (i+1) m:=by
 have:=Uu h hp
 rwa [show max m (p.length:Int)=m by omega] at this
theorem a1m{t:List UInt8}{i m:Int}(h:wdI t i m)(hi:¬i<(AY t).length):m=BD t:=by
 rw[h.2,BD,show i.toNat=(AY t).length by have:=h.1;omega]
attribute [local irreducible] AY BD BB lnI wdI
def HA:Sig:= {X:=List UInt8,args:=fun x=>[.str x],pre:=fun x=>x.length<2^31,Y:=Unit,post:=fun x y=>True,res:=fun x y=>Gj (AY x),outs:=fun x y=>[.top],keep:=false}
theorem a1n(hT:Mf G):Aq G Tryz.prog 31 HA:=
 vcFun_okP [(55,0,Mg)] [(41,⟨List UInt8,Bo⟩)] false (fun x=>[]) Tryz.func31 rfl (by decide) ⟨(a7z hT),trivial⟩ (fun(x:List UInt8)=>(∀(y:Unit),True→(∀(x:List UInt8),True∧True)∧True∧True)∧cA Mg [.str x,.str #[(10:UInt8)].toList] fun x_1 y=>inR IntKind.i64 ((↑(List.length (BB x_1)):Int)-(1:Int))∧((0:Int)≤(↑(List.length (BB x_1)):Int)-(1:Int)∧(↑(List.length (BB x_1)):Int)-(1:Int)<(↑(List.length (BB x_1)):Int))∧Int.toNat ((↑(List.length (BB x_1)):Int)-(1:Int))<List.length (BB x_1)∧∀(x_2:List UInt8),(BB x_1)[Int.toNat ((↑(List.length (BB x_1)):Int)-(1:Int))]? =some x_2→Aa (x_2== #[].toList) (inR IntKind.i64 ((↑(List.length (BB x_1)):Int)-(1:Int))∧((0:Int)≤(0:Int)∧(0:Int)≤(↑(List.length (BB x_1)):Int)-(1:Int)∧(↑(List.length (BB x_1)):Int)-(1:Int)≤(↑(List.length (BB x_1)):Int))∧rA HA x [AV.sl true (0:Nat) (1:Nat) (List UInt8) Bo (List.take (Int.toNat ((↑(List.length (BB x_1)):Int)-(1:Int))) (BB x_1)),.top]) (rA HA x [AV.sl true (0:Nat) (1:Nat) (List UInt8) Bo (BB x_1),.top])) (fun x=>by kernel_rfl) fun(x:List UInt8) (hx:x.length<2^31)=>(by
 dsimp only[cA,rA,HA,Mg,Gj,Av,Az,mvL,lnL,mvE,lnE]
 have hx:x.length<2^31:=hx
 have hc:= @b0j x;have hc2:=YN x
 (repeat' first|(with_reducible first|rfl|exact True.intro|apply AK|apply And.intro|((first|apply AA|apply AI|apply AB|apply AJ)<;>intro _))|(apply Ax<;>intro _)|apply AH|refine Af () ?_ ?_|((first|apply AO|apply AN|apply AM|apply AL|apply AG|apply AF|apply AE|apply AD|apply AC)<;>try dsimp only)|apply Af|(refine Prod.forall.2 ?_;intro _;try dsimp only)|(intro _;try dsimp only))
 all_goals first
  |rfl
  |exact hx
  |omega
  |exact b0h ‹_› ‹_›
  |exact b0i ‹_› ‹_›
  |skip)
def HB:Sig:= {X:=List UInt8,args:=fun x=>[.str x],pre:=fun x=>x.length<2^31,Y:=Unit,post:=fun x y=>True,res:=fun x y=>Gj (AY x),outs:=fun x y=>[.top],keep:=false}
def NU(x:List UInt8):LS:= {ι:=Int×Int×List (List UInt8),inv:=fun i=>lnI x i.1 i.2.1 i.2.2,regs:=fun i=>[(0,.str x),(3,Gj i.2.2),(4,.int .i64 i.2.1),(5,.int .i64 i.1)],als:=[],meas:=fun i=>x.length-i.1.toNat}
theorem a1o:Aq G Tryz.prog 28 HB:=
 vcFun_okP [] [(41,⟨List UInt8,Bo⟩)] false (fun x=>[(4,NU x)]) Tryz.func28 rfl (by decide) trivial (fun(x:List UInt8)=>(∀(y:Unit),True→(∀(x:List UInt8),True∧True)∧True∧True)∧eA (NU x) [.str x,AV.sl true (0:Nat) (1:Nat) (List UInt8) Bo [],.int .i64 (0:Int),.int .i64 (0:Int)]∧∀(i:Int×Int×List (List UInt8)),lnI x i.1 i.2.1 i.2.2→Aa (decide (i.1<(↑(List.length x):Int))) (((0:Int)≤i.1∧i.1<(↑(List.length x):Int))∧∀(c:UInt8),x[Int.toNat i.1]? =some c→Aa ((↑(UInt8.toNat c):Int)==(10:Int)) (((0:Int)≤i.2.1∧i.2.1≤i.1∧i.1≤(↑(List.length x):Int))∧∃(x_1:List UInt8),List.drop (Int.toNat i.2.1) (List.take (Int.toNat i.1) x)=x_1∧∃(zs:List (List UInt8)),AV.sl true (0:Nat) (1:Nat) (List UInt8) Bo [x_1]=AV.sl true (0:Nat) (1:Nat) (List UInt8) Bo zs∧Bt Bo∧AW (List.length i.2.2+List.length zs) (16:Nat)∧inR IntKind.i64 (i.1+(1:Int))∧inR IntKind.i64 (i.1+(1:Int))∧eN (NU x) i [.str x,AV.sl true (0:Nat) (1:Nat) (List UInt8) Bo (i.2.2++zs),.int .i64 (i.1+(1:Int)),.int .i64 (i.1+(1:Int))]) (inR IntKind.i64 (i.1+(1:Int))∧eN (NU x) i [.str x,AV.sl true (0:Nat) (1:Nat) (List UInt8) Bo i.2.2,.int .i64 i.2.1,.int .i64 (i.1+(1:Int))])) (Aa (decide (i.2.1<(↑(List.length x):Int))) (((0:Int)≤i.2.1∧i.2.1≤(↑(List.length x):Int)∧(↑(List.length x):Int)≤(↑(List.length x):Int))∧∃(x_1:List UInt8),List.drop (Int.toNat i.2.1) x=x_1∧∃(zs:List (List UInt8)),AV.sl true (0:Nat) (1:Nat) (List UInt8) Bo [x_1]=AV.sl true (0:Nat) (1:Nat) (List UInt8) Bo zs∧Bt Bo∧AW (List.length i.2.2+List.length zs) (16:Nat)∧rA HB x [AV.sl true (0:Nat) (1:Nat) (List UInt8) Bo (i.2.2++zs),.top]) (rA HB x [AV.sl true (0:Nat) (1:Nat) (List UInt8) Bo i.2.2,.top]))) (fun x=>by kernel_rfl) fun(x:List UInt8) (hx:x.length<2^31)=>(by
 dsimp only[eA,eN,NU,rA,HB,Gj,Av,Az,BA]
 have hx:x.length<2^31:=hx
 (repeat' first|(with_reducible first|rfl|exact True.intro|apply AK|apply And.intro|((first|apply AA|apply AI|apply AB|apply AJ)<;>intro _))|(apply Ax<;>intro _)|apply AH|refine Af () ?_ ?_|((first|apply AO|apply AN|apply AM|apply AL|apply AG|apply AF|apply AE|apply AD|apply AC)<;>try dsimp only)|apply Af|(refine Prod.forall.2 ?_;intro _;try dsimp only)|(intro _;try dsimp only))
 all_goals first
  |rfl
  |exact b0k
  |exact b0l ‹_› ‹_› ‹_›
  |exact b0m ‹_› ‹_› ‹_›
  |exact b0n ‹_› ‹_› ‹_›
  |exact b0o ‹_› ‹_› ‹_›
  |(have hq:=a1i (show lnI _ _ _ _ by assumption);(try simp only[AR]);omega)
  |(have hq:=a1i (show lnI _ _ _ _ by assumption);(try simp only[AW,List.length_append,List.length_cons,List.length_nil]);omega)
  |skip)
def JO:Sig:= {X:=List UInt8,args:=fun x=>[.str x],pre:=fun x=>x.length<2^31,Y:=Unit,post:=fun x y=>True,res:=fun x y=> .int .i64 (BD x),outs:=fun x y=>[.top],keep:=false}
def QE(x:List UInt8):LS:= {ι:=Int×Int,inv:=fun i=>wdI x i.1 i.2,regs:=fun i=>[(3,.int .i64 i.2),(7,Gj (AY x)),(8,.int .i64 (AY x).length),(9,.int .i64 i.1)],als:=[],meas:=fun i=>(AY x).length-i.1.toNat}
theorem b0r(hT:Mf G):Aq G Tryz.prog 32 JO:=
 vcFun_okP [(31,0,HA)] [] false (fun x=>[(3,QE x)]) Tryz.func32 rfl (by decide) ⟨(a1n hT),trivial⟩ (fun(x:List UInt8)=>(∀(y:Unit),True→True∧True∧True)∧cA HA [.str x] fun x_1 y=>eA (QE x) [.int .i64 (0:Int),AV.sl true (0:Nat) (1:Nat) (List UInt8) Bo (AY x_1),.int .i64 (↑(List.length (AY x_1)):Int),.int .i64 (0:Int)]∧∀(i:Int×Int),wdI x i.1 i.2→Aa (decide (i.1<(↑(List.length (AY x)):Int))) (((0:Int)≤i.1∧i.1<(↑(List.length (AY x)):Int))∧Int.toNat i.1<List.length (AY x)∧∀(x_2:List UInt8),(AY x)[Int.toNat i.1]? =some x_2→inR IntKind.i64 (i.1+(1:Int))∧eN (QE x) i [.int .i64 (max i.2 (↑(List.length x_2):Int)),AV.sl true (0:Nat) (1:Nat) (List UInt8) Bo (AY x),.int .i64 (↑(List.length (AY x)):Int),.int .i64 (i.1+(1:Int))]) (rA JO x [.int .i64 i.2,.top])) (fun x=>by kernel_rfl) fun(x:List UInt8) (hx:x.length<2^31)=>(by
 dsimp only[cA,eA,eN,QE,rA,HA,JO,Gj,Av,Az,mvL,lnL,mvE,lnE,BA]
 have hx:x.length<2^31:=hx
 have hl:=(@Ut x).1
 (repeat' first|(with_reducible first|rfl|exact True.intro|apply AK|apply And.intro|((first|apply AA|apply AI|apply AB|apply AJ)<;>intro _))|(apply Ax<;>intro _)|apply AH|refine Af () ?_ ?_|((first|apply AO|apply AN|apply AM|apply AL|apply AG|apply AF|apply AE|apply AD|apply AC)<;>try dsimp only)|apply Af|(refine Prod.forall.2 ?_;intro _;try dsimp only)|(intro _;try dsimp only))
 all_goals first
  |rfl
  |exact hx
  |exact a1k
  |exact Uu ‹_› ‹_›
  |exact a1m ‹_› ‹_›
  |(have hq:=a1l (show wdI _ _ _ by assumption);(try simp only[AR]);omega)
  |skip)
def JP:Sig:= {X:=List UInt8,args:=fun x=>[.str x],pre:=fun x=>x.length<2^31,Y:=Unit,post:=fun x y=>True,res:=fun x y=> .int .i64 (BD x),outs:=fun x y=>[.top],keep:=false}
def NV(x:List UInt8):LS:= {ι:=Int×Int,inv:=fun i=>wdI x i.1 i.2,regs:=fun i=>[(3,.int .i64 i.2),(4,Gj (AY x)),(5,.int .i64 i.1)],als:=[],meas:=fun i=>(AY x).length-i.1.toNat}
theorem b0s:Aq G Tryz.prog 29 JP:=
 vcFun_okP [(28,0,HB)] [] false (fun x=>[(4,NV x)]) Tryz.func29 rfl (by decide) ⟨a1o,trivial⟩ (fun(x:List UInt8)=>(∀(y:Unit),True→True∧True∧True)∧cA HB [.str x] fun x_1 y=>eA (NV x) [.int .i64 (0:Int),AV.sl true (0:Nat) (1:Nat) (List UInt8) Bo (AY x_1),.int .i64 (0:Int)]∧∀(i:Int×Int),wdI x i.1 i.2→Aa (decide (i.1<(↑(List.length (AY x)):Int))) (((0:Int)≤i.1∧i.1<(↑(List.length (AY x)):Int))∧Int.toNat i.1<List.length (AY x)∧∀(x_2:List UInt8),(AY x)[Int.toNat i.1]? =some x_2→Aa (decide ((↑(List.length x_2):Int)>i.2)) (((0:Int)≤i.1∧i.1<(↑(List.length (AY x)):Int))∧Int.toNat i.1<List.length (AY x)∧∀(x_3:List UInt8),(AY x)[Int.toNat i.1]? =some x_3→inR IntKind.i64 (i.1+(1:Int))∧eN (NV x) i [.int .i64 (↑(List.length x_3):Int),AV.sl true (0:Nat) (1:Nat) (List UInt8) Bo (AY x),.int .i64 (i.1+(1:Int))]) (inR IntKind.i64 (i.1+(1:Int))∧eN (NV x) i [.int .i64 i.2,AV.sl true (0:Nat) (1:Nat) (List UInt8) Bo (AY x),.int .i64 (i.1+(1:Int))])) (rA JP x [.int .i64 i.2,.top])) (fun x=>by kernel_rfl) fun(x:List UInt8) (hx:x.length<2^31)=>(by
 dsimp only[cA,eA,eN,NV,rA,HB,JP,Gj,Av,Az,mvL,lnL,mvE,lnE,BA]
 have hx:x.length<2^31:=hx
 have hl:=(@Ut x).1
 (repeat' first|(with_reducible first|rfl|exact True.intro|apply AK|apply And.intro|((first|apply AA|apply AI|apply AB|apply AJ)<;>intro _))|(apply Ax<;>intro _)|apply AH|refine Af () ?_ ?_|((first|apply AO|apply AN|apply AM|apply AL|apply AG|apply AF|apply AE|apply AD|apply AC)<;>try dsimp only)|apply Af|(refine Prod.forall.2 ?_;intro _;try dsimp only)|(intro _;try dsimp only))
 all_goals(try(repeat(rename(AY x)[_]? =some _=>hq;revert hq;rename(AY x)[_]? =some _=>hr;intro hq;rw[hr] at hq;cases hq)))
 all_goals first
  |rfl
  |exact hx
  |exact a1k
  |exact b0p ‹_› ‹_› ‹_›
  |exact b0q ‹_› ‹_› ‹_›
  |exact a1m ‹_› ‹_›
  |(have hq:=a1l (show wdI _ _ _ by assumption);(try simp only[AR]);omega)
  |skip)
end Go.My
end
section
set_option linter.unusedVariables false
set_option linter.unusedSimpArgs false
namespace Go.My
open Go.Eng Go.Proofs
variable {G:GInv}
def srd(s:ST)(g:Gs):AV:= .box 0 [sgs s.sg,.int .i64 g.pos,.bool g.bad,.int .i64 g.deep,As g.nodes]
theorem a1p{sg:List Sg}{g:Gs}(h:g.bad=true∨(sg.length:Int)≤g.pos):pkG sg g 0=Ew:=Ty (by simpa using h)
theorem Uv{sg:List Sg}{g:Gs}{e:Sg}(he:sg[g.pos.toNat]? =some e)(hb:g.bad=false)(hl:g.pos<sg.length):pkG sg g 0=e:=Tz (by simpa using he) hb (by omega)
theorem a1q{sg:List Sg}{g:Gs}{k:Int}{t:List UInt8}(hk:k≠0)(h:g.bad=true∨(sg.length:Int)≤g.pos):isG sg g k t=false:=by
 simp [isG,a1p h,Ew,Ne.symm hk]
theorem b0t{sg:List Sg}{g:Gs}{e:Sg}{k:Int}{t:List UInt8}(he:sg[g.pos.toNat]? =some e)(hb:g.bad=false)(hl:g.pos<sg.length):isG sg g k t=(decide (e.kind=k)&&(e.text==t)):=by
 rw[isG,Uv he hb hl]
def kdG(sg:List Sg)(g:Gs)(k:Int):Bool:=decide ((pkG sg g 0).kind=k)&&(decide (k≠1)|| !kw (pkG sg g 0).text)
theorem Mr{sg:List Sg}{g:Gs}{k:Int}(hk:k≠0)(h:g.bad=true∨(sg.length:Int)≤g.pos):kdG sg g k=false:=by
 simp [kdG,a1p h,Ew,Ne.symm hk]
theorem a1r{sg:List Sg}{g:Gs}{e:Sg}{k:Int}(he:sg[g.pos.toNat]? =some e)(hb:g.bad=false)(hl:g.pos<sg.length):kdG sg g k=(decide (e.kind=k)&&(decide (k≠1)|| !kw e.text)):=by
 rw[kdG,Uv he hb hl]
theorem Ii{sg:List Sg}{g:Gs}:kdG sg g 1=nmG sg g 0:=by simp [kdG,nmG]
theorem QF{sg:List Sg}{g:Gs}{k:Int}(hk:k≠0)(h:kdG sg g k=true):g.bad=false∧g.pos<sg.length:=by
 cases hb:g.bad with
 |true=>rw[Mr hk (.inl hb)] at h;cases h
 |false=>
  refine⟨rfl,?_⟩
  rcases Int.lt_or_le g.pos sg.length with hh|hh
  ·exact hh
  ·rw[Mr hk (.inr hh)] at h;cases h
theorem b0u{e:Nd}{b:Bool}{q:Nd→Prop}(h:q ⟨e.kind,e.text,e.kids,b⟩):
 ∃x':Nd,([AV.int IntKind.i64 x'.kind,AV.str x'.text,AV.sl true 0 1 Int Ba x'.kids]=[AV.int IntKind.i64 e.kind,AV.str e.text,AV.sl true 0 1 Int Ba e.kids]∧(@List.nil AV)=[])∧b=x'.blank∧q x':=
 ⟨⟨e.kind,e.text,e.kids,b⟩,⟨rfl,rfl⟩,rfl,h⟩
def BF(sg:List Sg)(g:Gs)(m:List UInt8):Gs:=if isG sg g 1 m then Aj g else g
def Bd(sg:List Sg)(g:Gs)(k:Int):Gs:=if kdG sg g k then Aj g else Bc g
def Bv(sg:List Sg)(g:Gs)(k:Int):List UInt8:=if kdG sg g k then(pkG sg g 0).text else []
def gBl(g:Gs)(k:Int)(b:Bool):Gs:=if g.bad=false∧k<g.nodes.length then⟨g.pos,g.deep,g.bad,g.nodes.set k.toNat ⟨(Ag g.nodes k).kind,(Ag g.nodes k).text,(Ag g.nodes k).kids,b⟩⟩ else g
theorem b0v{g:Gs}{k:Int}{b:Bool}{e:Nd}(he:g.nodes[k.toNat]? =some e)(hb:g.bad=false)(hk:k<g.nodes.length):g.nodes.set k.toNat ⟨e.kind,e.text,e.kids,b⟩=(gBl g k b).nodes:=by
 rw[gBl,if_pos ⟨hb,hk⟩,BH he]
def blG(sg:List Sg)(g:Gs):Bool:=decide (g.pos<sg.length)&&(sgO sg g.pos).blank
theorem b0w{sg:List Sg}{g:Gs}{e:Sg}{k:Int}(he:sg[(g.pos+1-1).toNat]? =some e)(hk:k≠0)(h:kdG sg g k=true):e.text=Bv sg g k:=by
 obtain⟨hb,hl⟩:=QF hk h
 rw[Bv,if_pos h,Uv (by rw[show g.pos=g.pos+1-1 by omega];exact he) hb hl]
def DN:Sig:= {X:=ST×Int×Int×Bool×List Nd×Int×List UInt8,args:=fun x=>[srd x.1 (xh x),.int .i64 x.2.2.2.2.2.1,.str x.2.2.2.2.2.2],pre:=fun x=>rOk x.1 (xh x)∧x.2.2.2.2.2.1≠0,Y:=Unit,post:=fun x y=>True,res:=fun x y=> .bool (isG x.1.sg (xh x) x.2.2.2.2.2.1 x.2.2.2.2.2.2),outs:=fun x y=>[srd x.1 (xh x),.top,.top],keep:=true}
theorem NW:Aq G Tryz.prog 106 DN:=
 vcFun_okP [] [] false (fun x=>[]) Tryz.func106 rfl (by decide) trivial (fun(x:ST×Int×Int×Bool×List Nd×Int×List UInt8)=>True∧true=true∧true=true∧Aa (!(xh x).bad) (Aa (decide ((xh x).pos<(↑(List.length x.1.sg):Int))) (((0:Int)≤(xh x).pos∧(xh x).pos<(↑(List.length x.1.sg):Int))∧∀(e:Sg),x.1.sg[Int.toNat (xh x).pos]? =some e→Aa (e.kind==x.2.2.2.2.2.1) (((0:Int)≤(xh x).pos∧(xh x).pos<(↑(List.length x.1.sg):Int))∧∀(e:Sg),x.1.sg[Int.toNat (xh x).pos]? =some e→rA DN x [.bool (e.text==x.2.2.2.2.2.2),srd x.1 (xh x),.top,.top]) (rA DN x [.bool false,srd x.1 (xh x),.top,.top])) (rA DN x [.bool false,srd x.1 (xh x),.top,.top])) (rA DN x [.bool false,srd x.1 (xh x),.top,.top])) (fun x=>by kernel_rfl) fun(x:ST×Int×Int×Bool×List Nd×Int×List UInt8) (hx:rOk x.1 (xh x)∧x.2.2.2.2.2.1≠0)=>(by
 dsimp only[Bf,As,rA,DN,Br,sgs,srd,Av,Az]
 obtain⟨s,p,d,b,ns,k,m⟩:=x;dsimp only[xg,xh] at hx ⊢
 obtain⟨h1,h2⟩:=hx;have hs:=DD h1;dsimp only at hs
 (repeat' first|(with_reducible first|rfl|exact True.intro|apply AK|apply And.intro|((first|apply AA|apply AI|apply AB|apply AJ)<;>intro _))|(apply Ax<;>intro _)|apply AH|refine Af () ?_ ?_|((first|apply AO|apply AN|apply AM|apply AL|apply AG|apply AF|apply AE|apply AD|apply AC)<;>try dsimp only)|apply Af|(refine Prod.forall.2 ?_;intro _;try dsimp only)|(intro _;try dsimp only))
 all_goals(try(repeat(rename s.sg[_]? =some _=>hq;revert hq;rename s.sg[_]? =some _=>hr;intro hq;rw[hr] at hq;cases hq)))
 all_goals first
  |rfl
  |exact(a1q h2 (.inl ‹_›)).symm
  |exact(a1q h2 (.inr (by simp only;omega))).symm
  |(rw[b0t ‹_› ‹_› (by simp only;omega)];simp [*];done)
  |((try simp only[AR]);omega)
  |skip)
def Ca:Sig:= {X:=ST×Int×Int×Bool×List Nd×List UInt8,args:=fun x=>[srd x.1 (xh x),.str x.2.2.2.2.2],pre:=fun x=>rOk x.1 (xh x),Y:=Unit,post:=fun x y=>True,res:=fun x y=> .bool (isG x.1.sg (xh x) 4 x.2.2.2.2.2),outs:=fun x y=>[srd x.1 (Ai x.1.sg (xh x) x.2.2.2.2.2),.top],keep:=true}
theorem GU:Aq G Tryz.prog 73 Ca:=
 vcFun_okP [(106,0,DN)] [] false (fun x=>[]) Tryz.func73 rfl (by decide) ⟨NW,trivial⟩ (fun(x:ST×Int×Int×Bool×List Nd×List UInt8)=>True∧cA DN [srd x.1 (xh x),.int .i64 (4:Int),.str x.2.2.2.2.2] fun x_1 y=>Aa (isG x_1.1.sg (xh x_1) x_1.2.2.2.2.2.1 x_1.2.2.2.2.2.2) (inR IntKind.i64 ((xh x_1).pos+(1:Int))∧rA Ca x [.bool true,.box 0 [sgs x_1.1.sg,.int .i64 ((xh x_1).pos+(1:Int)),.bool (xh x_1).bad,.int .i64 (xh x_1).deep,As (xh x_1).nodes],.top]) (rA Ca x [.bool false,srd x_1.1 (xh x_1),.top])) (fun x=>by kernel_rfl) fun(x:ST×Int×Int×Bool×List Nd×List UInt8) (hx:rOk x.1 (xh x))=>(by
 dsimp only[cA,Bf,As,rA,DN,Ca,Br,sgs,srd,Av,Az,mvL,lnL,mvE,lnE]
 obtain⟨s,p,d,b,ns,m⟩:=x;dsimp only[xg,xh] at hx ⊢
 have hx:rOk s ⟨p,d,b,ns⟩:=hx;have hs:=DD hx;dsimp only at hs
 (repeat' first|(with_reducible first|rfl|exact True.intro|apply AK|apply And.intro|((first|apply AA|apply AI|apply AB|apply AJ)<;>intro _))|(apply Ax<;>intro _)|apply AH|refine Af () ?_ ?_|((first|apply AO|apply AN|apply AM|apply AL|apply AG|apply AF|apply AE|apply AD|apply AC)<;>try dsimp only)|apply Af|(refine Prod.forall.2 ?_;intro _;try dsimp only)|(intro _;try dsimp only))
 all_goals first
  |rfl
  |exact hx
  |omega
  |(simp [Ai,Aj, *];done)
  |((try simp only[AR]);omega)
  |skip)
def EB:Sig:= {X:=ST×Int×Int×Bool×List Nd×List UInt8,args:=fun x=>[srd x.1 (xh x),.str x.2.2.2.2.2],pre:=fun x=>rOk x.1 (xh x),Y:=Unit,post:=fun x y=>True,res:=fun x y=> .bool (isG x.1.sg (xh x) 1 x.2.2.2.2.2),outs:=fun x y=>[srd x.1 (BF x.1.sg (xh x) x.2.2.2.2.2),.top],keep:=true}
theorem Uw:Aq G Tryz.prog 70 EB:=
 vcFun_okP [(106,0,DN)] [] false (fun x=>[]) Tryz.func70 rfl (by decide) ⟨NW,trivial⟩ (fun(x:ST×Int×Int×Bool×List Nd×List UInt8)=>True∧cA DN [srd x.1 (xh x),.int .i64 (1:Int),.str x.2.2.2.2.2] fun x_1 y=>Aa (isG x_1.1.sg (xh x_1) x_1.2.2.2.2.2.1 x_1.2.2.2.2.2.2) (inR IntKind.i64 ((xh x_1).pos+(1:Int))∧rA EB x [.bool true,.box 0 [sgs x_1.1.sg,.int .i64 ((xh x_1).pos+(1:Int)),.bool (xh x_1).bad,.int .i64 (xh x_1).deep,As (xh x_1).nodes],.top]) (rA EB x [.bool false,srd x_1.1 (xh x_1),.top])) (fun x=>by kernel_rfl) fun(x:ST×Int×Int×Bool×List Nd×List UInt8) (hx:rOk x.1 (xh x))=>(by
 dsimp only[cA,Bf,As,rA,DN,EB,Br,sgs,srd,Av,Az,mvL,lnL,mvE,lnE]
 obtain⟨s,p,d,b,ns,m⟩:=x;dsimp only[xg,xh] at hx ⊢
 have hx:rOk s ⟨p,d,b,ns⟩:=hx;have hs:=DD hx;dsimp only at hs
 (repeat' first|(with_reducible first|rfl|exact True.intro|apply AK|apply And.intro|((first|apply AA|apply AI|apply AB|apply AJ)<;>intro _))|(apply Ax<;>intro _)|apply AH|refine Af () ?_ ?_|((first|apply AO|apply AN|apply AM|apply AL|apply AG|apply AF|apply AE|apply AD|apply AC)<;>try dsimp only)|apply Af|(refine Prod.forall.2 ?_;intro _;try dsimp only)|(intro _;try dsimp only))
 all_goals first
  |rfl
  |exact hx
  |omega
  |(simp [BF,Aj, *];done)
  |((try simp only[AR]);omega)
  |skip)
def BM:Sig:= {X:=ST×Int×Int×Bool×List Nd×List UInt8,args:=fun x=>[srd x.1 (xh x),.str x.2.2.2.2.2],pre:=fun x=>rOk x.1 (xh x),Y:=Unit,post:=fun x y=>True,res:=fun x y=> .tup [],outs:=fun x y=>[srd x.1 (Al x.1.sg (xh x) x.2.2.2.2.2),.top],keep:=true}
theorem HC:Aq G Tryz.prog 72 BM:=
 vcFun_okP [(73,0,Ca)] [] false (fun x=>[]) Tryz.func72 rfl (by decide) ⟨GU,trivial⟩ (fun(x:ST×Int×Int×Bool×List Nd×List UInt8)=>True∧cA Ca [srd x.1 (xh x),.str x.2.2.2.2.2] fun x_1 y=>Aa (!isG x_1.1.sg (xh x_1) (4:Int) x_1.2.2.2.2.2) (rA BM x [.tup [],.box 0 [sgs x_1.1.sg,.int .i64 (Ai x_1.1.sg (xh x_1) x_1.2.2.2.2.2).pos,.bool true,.int .i64 (Ai x_1.1.sg (xh x_1) x_1.2.2.2.2.2).deep,As (Ai x_1.1.sg (xh x_1) x_1.2.2.2.2.2).nodes],.top]) (rA BM x [.tup [],srd x_1.1 (Ai x_1.1.sg (xh x_1) x_1.2.2.2.2.2),.top])) (fun x=>by kernel_rfl) fun(x:ST×Int×Int×Bool×List Nd×List UInt8) (hx:rOk x.1 (xh x))=>(by
 dsimp only[cA,Bf,As,rA,Ca,BM,Br,sgs,srd,Av,Az,mvL,lnL,mvE,lnE]
 obtain⟨s,p,d,b,ns,m⟩:=x;dsimp only[xg,xh] at hx ⊢
 have hx:rOk s ⟨p,d,b,ns⟩:=hx;have hs:=DD hx;dsimp only at hs
 (repeat' first|(with_reducible first|rfl|exact True.intro|apply AK|apply And.intro|((first|apply AA|apply AI|apply AB|apply AJ)<;>intro _))|(apply Ax<;>intro _)|apply AH|refine Af () ?_ ?_|((first|apply AO|apply AN|apply AM|apply AL|apply AG|apply AF|apply AE|apply AD|apply AC)<;>try dsimp only)|apply Af|(refine Prod.forall.2 ?_;intro _;try dsimp only)|(intro _;try dsimp only))
 all_goals first
  |rfl
  |exact hx
  |(simp [Al,Ai,Aj,Bc, *];done)
  |((try simp only[AR]);omega)
  |skip)
def DP:Sig:= {X:=ST×Int×Int×Bool×List Nd×Int,args:=fun x=>[srd x.1 (xh x),.int .i64 x.2.2.2.2.2],pre:=fun x=>rOk x.1 (xh x)∧x.2.2.2.2.2≠0,Y:=Unit,post:=fun x y=>True,res:=fun x y=> .bool (kdG x.1.sg (xh x) x.2.2.2.2.2),outs:=fun x y=>[srd x.1 (xh x),.top],keep:=true}
theorem QG:Aq G Tryz.prog 68 DP:=
 vcFun_okP [(105,0,FF)] [] false (fun x=>[]) Tryz.func68 rfl (by decide) ⟨Tc,trivial⟩ (fun(x:ST×Int×Int×Bool×List Nd×Int)=>True∧true=true∧true=true∧Aa (!(xh x).bad) (Aa (decide ((xh x).pos<(↑(List.length x.1.sg):Int))) (((0:Int)≤(xh x).pos∧(xh x).pos<(↑(List.length x.1.sg):Int))∧∀(e:Sg),x.1.sg[Int.toNat (xh x).pos]? =some e→Aa (e.kind==x.2.2.2.2.2) (Aa (x.2.2.2.2.2 != (1:Int)) (rA DP x [.bool true,srd x.1 (xh x),.top]) (((0:Int)≤(xh x).pos∧(xh x).pos<(↑(List.length x.1.sg):Int))∧∀(e:Sg),x.1.sg[Int.toNat (xh x).pos]? =some e→∃(x_1:List UInt8),True∧e.text=x_1∧∃(y0:Unit),(∀(y:Unit),True→AV.bool (kw x_1)=AV.bool (kw x_1))∧true=true∧rA DP x [.bool !kw x_1,srd x.1 (xh x),.top])) (rA DP x [.bool false,srd x.1 (xh x),.top])) (rA DP x [.bool false,srd x.1 (xh x),.top])) (rA DP x [.bool false,srd x.1 (xh x),.top])) (fun x=>by kernel_rfl) fun(x:ST×Int×Int×Bool×List Nd×Int) (hx:rOk x.1 (xh x)∧x.2.2.2.2.2≠0)=>(by
 dsimp only[Bf,As,rA,DP,Br,sgs,srd,Av,Az]
 obtain⟨s,p,d,b,ns,k⟩:=x;dsimp only[xg,xh] at hx ⊢
 obtain⟨h1,h2⟩:=hx;have hs:=DD h1;dsimp only at hs
 (repeat' first|(with_reducible first|rfl|exact True.intro|apply AK|apply And.intro|((first|apply AA|apply AI|apply AB|apply AJ)<;>intro _))|(apply Ax<;>intro _)|apply AH|refine Af () ?_ ?_|((first|apply AO|apply AN|apply AM|apply AL|apply AG|apply AF|apply AE|apply AD|apply AC)<;>try dsimp only)|apply Af|(refine Prod.forall.2 ?_;intro _;try dsimp only)|(intro _;try dsimp only))
 all_goals(try(repeat(rename s.sg[_]? =some _=>hq;revert hq;rename s.sg[_]? =some _=>hr;intro hq;rw[hr] at hq;cases hq)))
 all_goals first
  |rfl
  |exact(Mr h2 (.inl ‹_›)).symm
  |exact(Mr h2 (.inr (by simp only;omega))).symm
  |(rw[a1r ‹_› ‹_› (by simp only;omega)];simp [*];done)
  |((try simp only[AR]);omega)
  |skip)
def CA:Sig:= {X:=ST×Int×Int×Bool×List Nd×Int,args:=fun x=>[srd x.1 (xh x),.int .i64 x.2.2.2.2.2],pre:=fun x=>rOk x.1 (xh x)∧x.2.2.2.2.2≠0,Y:=Unit,post:=fun x y=>True,res:=fun x y=> .str (Bv x.1.sg (xh x) x.2.2.2.2.2),outs:=fun x y=>[srd x.1 (Bd x.1.sg (xh x) x.2.2.2.2.2),.top],keep:=true}
theorem JQ:Aq G Tryz.prog 69 CA:=
 vcFun_okP [(68,0,DP)] [] false (fun x=>[]) Tryz.func69 rfl (by decide) ⟨QG,trivial⟩ (fun(x:ST×Int×Int×Bool×List Nd×Int)=>True∧cA DP [srd x.1 (xh x),.int .i64 x.2.2.2.2.2] fun x_1 y=>Aa (!kdG x_1.1.sg (xh x_1) x_1.2.2.2.2.2) (rA CA x [.str #[].toList,.box 0 [sgs x_1.1.sg,.int .i64 (xh x_1).pos,.bool true,.int .i64 (xh x_1).deep,As (xh x_1).nodes],.top]) (inR IntKind.i64 ((xh x_1).pos+(1:Int))∧true=true∧true=true∧inR IntKind.i64 ((xh x_1).pos+(1:Int)-(1:Int))∧((0:Int)≤(xh x_1).pos+(1:Int)-(1:Int)∧(xh x_1).pos+(1:Int)-(1:Int)<(↑(List.length x_1.1.sg):Int))∧∀(e:Sg),x_1.1.sg[Int.toNat ((xh x_1).pos+(1:Int)-(1:Int))]? =some e→rA CA x [.str e.text,.box 0 [sgs x_1.1.sg,.int .i64 ((xh x_1).pos+(1:Int)),.bool (xh x_1).bad,.int .i64 (xh x_1).deep,As (xh x_1).nodes],.top])) (fun x=>by kernel_rfl) fun(x:ST×Int×Int×Bool×List Nd×Int) (hx:rOk x.1 (xh x)∧x.2.2.2.2.2≠0)=>(by
 dsimp only[cA,Bf,As,rA,DP,CA,Br,sgs,srd,Av,Az,mvL,lnL,mvE,lnE]
 obtain⟨s,p,d,b,ns,k⟩:=x;dsimp only[xg,xh] at hx ⊢
 obtain⟨h1,h2⟩:=hx;have hs:=DD h1;dsimp only at hs
 (repeat' first|(with_reducible first|rfl|exact True.intro|apply AK|apply And.intro|((first|apply AA|apply AI|apply AB|apply AJ)<;>intro _))|(apply Ax<;>intro _)|apply AH|refine Af () ?_ ?_|((first|apply AO|apply AN|apply AM|apply AL|apply AG|apply AF|apply AE|apply AD|apply AC)<;>try dsimp only)|apply Af|(refine Prod.forall.2 ?_;intro _;try dsimp only)|(intro _;try dsimp only))
 all_goals first
  |rfl
  |exact h1
  |exact h2
  |(simp [Bd,Bv,Aj,Bc, *];done)
  |exact b0w ‹_› h2 ‹_›
  |(have hl:=QF h2 (show kdG _ _ _=true by assumption);dsimp only at hl;(try simp only[AR]);omega)
  |((try simp only[AR]);omega)
  |skip)
def Bm:Sig:= {X:=ST×Int×Int×Bool×List Nd×Int×List UInt8×List Int,args:=fun x=>[srd x.1 (xh x),.int .i64 x.2.2.2.2.2.1,.str x.2.2.2.2.2.2.1,Ad x.2.2.2.2.2.2.2],pre:=fun x=>rOk x.1 (xh x),Y:=Unit,post:=fun x y=>True,res:=fun x y=> .int .i64 (Au (xh x)),outs:=fun x y=>[srd x.1 (Ah (xh x) ⟨x.2.2.2.2.2.1,x.2.2.2.2.2.2.1,x.2.2.2.2.2.2.2,false⟩),.top,.top,.top],keep:=true}
theorem GV:Aq G Tryz.prog 43 Bm:=
 vcFun_okP [] [(32,⟨Nd,ndA true⟩)] false (fun x=>[]) Tryz.func43 rfl (by decide) trivial (fun(x:ST×Int×Int×Bool×List Nd×Int×List UInt8×List Int)=>True∧Aa (xh x).bad (rA Bm x [.int .i64 (0:Int),.box 0 [sgs x.1.sg,.int .i64 (xh x).pos,.bool true,.int .i64 (xh x).deep,As (xh x).nodes],.top,.top,.top]) (Aa (decide ((↑(List.length (xh x).nodes):Int)≥(300:Int))) (rA Bm x [.int .i64 (0:Int),.box 0 [sgs x.1.sg,.int .i64 (xh x).pos,.bool true,.int .i64 (xh x).deep,As (xh x).nodes],.top,.top,.top]) (∃(x_1:Nd),x.2.2.2.2.2.1=x_1.kind∧x.2.2.2.2.2.2.1=x_1.text∧Ad x.2.2.2.2.2.2.2=Ad x_1.kids∧false=x_1.blank∧∃(zs:List Nd),As [x_1]=As zs∧Bt (ndA true)∧AW (List.length (xh x).nodes+List.length zs) (56:Nat)∧inR IntKind.i64 ((↑(List.length ((xh x).nodes++zs)):Int)-(1:Int))∧∃(y:Unit),True∧(↑(List.length ((xh x).nodes++zs)):Int)-(1:Int)=Au (xh x)∧sgs x.1.sg=sgs x.1.sg∧(xh x).pos=(Ah (xh x) {kind:=x.2.2.2.2.2.1,text:=x.2.2.2.2.2.2.1,kids:=x.2.2.2.2.2.2.2,blank:=false}).pos∧(xh x).bad=(Ah (xh x) {kind:=x.2.2.2.2.2.1,text:=x.2.2.2.2.2.2.1,kids:=x.2.2.2.2.2.2.2,blank:=false}).bad∧(xh x).deep=(Ah (xh x) {kind:=x.2.2.2.2.2.1,text:=x.2.2.2.2.2.2.1,kids:=x.2.2.2.2.2.2.2,blank:=false}).deep∧As ((xh x).nodes++zs)=As (Ah (xh x) {kind:=x.2.2.2.2.2.1,text:=x.2.2.2.2.2.2.1,kids:=x.2.2.2.2.2.2.2,blank:=false}).nodes∧True))) (fun x=>by kernel_rfl) fun(x:ST×Int×Int×Bool×List Nd×Int×List UInt8×List Int) (hx:rOk x.1 (xh x))=>(by
 dsimp only[Bf,Ad,As,rA,Bm,Br,sgs,srd,Av,Az]
 obtain⟨s,p,d,b,ns,k,t,ks⟩:=x;dsimp only[xg,xh] at hx ⊢
 have hx:rOk s ⟨p,d,b,ns⟩:=hx;have hs:=DD hx;dsimp only at hs
 (repeat' first|refine YU ?_|(with_reducible first|rfl|exact True.intro|apply AK|apply And.intro|((first|apply AA|apply AI|apply AB|apply AJ)<;>intro _))|(apply Ax<;>intro _)|apply AH|refine Af () ?_ ?_|((first|apply AO|apply AN|apply AM|apply AL|apply AG|apply AF|apply AE|apply AD|apply AC)<;>try dsimp only)|apply Af|(refine Prod.forall.2 ?_;intro _;try dsimp only)|(intro _;try dsimp only))
 all_goals first
  |rfl
  |(simp [Ah,Au,CM,Bc, *];done)
  |(have hn:ns.length=300:=by omega
    simp [Ah,Au,CM,Bc, *];done)
  |(have hn:ns.length≠300:=by omega
    simp [Ah,Au,CM,Bc, *];done)
  |((try simp only[AR,AW,List.length_append,List.length_cons,List.length_nil]);omega)
  |skip)
def Fv:Sig:= {X:=ST×Int×Int×Bool×List Nd,args:=fun x=>[srd x.1 (xg x)],pre:=fun x=>rOk x.1 (xg x),Y:=Unit,post:=fun x y=>True,res:=fun x y=> .bool (blG x.1.sg (xg x)),outs:=fun x y=>[srd x.1 (xg x)],keep:=true}
theorem QH:Aq G Tryz.prog 40 Fv:=
 vcFun_okP [] [] false (fun x=>[]) Tryz.func40 rfl (by decide) trivial (fun(x:ST×Int×Int×Bool×List Nd)=>True∧true=true∧true=true∧Aa (decide ((xg x).pos<(↑(List.length x.1.sg):Int))) (((0:Int)≤(xg x).pos∧(xg x).pos<(↑(List.length x.1.sg):Int))∧∀(e:Sg),x.1.sg[Int.toNat (xg x).pos]? =some e→rA Fv x [.bool e.blank,srd x.1 (xg x)]) (rA Fv x [.bool false,srd x.1 (xg x)])) (fun x=>by kernel_rfl) fun(x:ST×Int×Int×Bool×List Nd) (hx:rOk x.1 (xg x))=>(by
 dsimp only[Bf,As,rA,Fv,Br,sgs,srd,Av,Az]
 obtain⟨s,p,d,b,ns⟩:=x;dsimp only[xg,xh] at hx ⊢
 have hx:rOk s ⟨p,d,b,ns⟩:=hx;have hs:=DD hx;dsimp only at hs
 (repeat' first|(with_reducible first|rfl|exact True.intro|apply AK|apply And.intro|((first|apply AA|apply AI|apply AB|apply AJ)<;>intro _))|(apply Ax<;>intro _)|apply AH|refine Af () ?_ ?_|((first|apply AO|apply AN|apply AM|apply AL|apply AG|apply AF|apply AE|apply AD|apply AC)<;>try dsimp only)|apply Af|(refine Prod.forall.2 ?_;intro _;try dsimp only)|(intro _;try dsimp only))
 all_goals first
  |rfl
  |(simp [blG,IE (show s.sg[_]? =some _ by assumption), *];done)
  |(simp [blG, *];done)
  |((try simp only[AR]);omega)
  |skip)
def DY:Sig:= {X:=ST×Int×Int×Bool×List Nd×Int×Bool,args:=fun x=>[srd x.1 (xh x),.int .i64 x.2.2.2.2.2.1,.bool x.2.2.2.2.2.2],pre:=fun x=>rOk x.1 (xh x)∧((xh x).bad=false→0≤x.2.2.2.2.2.1),Y:=Unit,post:=fun x y=>True,res:=fun x y=> .tup [],outs:=fun x y=>[srd x.1 (gBl (xh x) x.2.2.2.2.2.1 x.2.2.2.2.2.2),.top,.top],keep:=true}
theorem QI:Aq G Tryz.prog 42 DY:=
 vcFun_okP [] [(32,⟨Nd,ndA true⟩)] false (fun x=>[]) Tryz.func42 rfl (by decide) trivial (fun(x:ST×Int×Int×Bool×List Nd×Int×Bool)=>True∧Aa (!(xh x).bad) (Aa (decide (x.2.2.2.2.2.1<(↑(List.length (xh x).nodes):Int))) (((0:Int)≤x.2.2.2.2.2.1∧x.2.2.2.2.2.1<(↑(List.length (xh x).nodes):Int))∧Int.toNat x.2.2.2.2.2.1<List.length (xh x).nodes∧∀(x_1:Nd),(xh x).nodes[Int.toNat x.2.2.2.2.2.1]? =some x_1→∃(x':Nd),([.int .i64 x'.kind,.str x'.text,Ad x'.kids]=[.int .i64 x_1.kind,.str x_1.text,Ad x_1.kids]∧(@List.nil AV)=[])∧x.2.2.2.2.2.2=x'.blank∧rA DY x [.tup [],.box 0 [sgs x.1.sg,.int .i64 (xh x).pos,.bool (xh x).bad,.int .i64 (xh x).deep,As (List.set (xh x).nodes (Int.toNat x.2.2.2.2.2.1) x')],.top,.top]) (rA DY x [.tup [],srd x.1 (xh x),.top,.top])) (rA DY x [.tup [],srd x.1 (xh x),.top,.top])) (fun x=>by kernel_rfl) fun(x:ST×Int×Int×Bool×List Nd×Int×Bool) (hx:rOk x.1 (xh x)∧((xh x).bad=false→0≤x.2.2.2.2.2.1))=>(by
 dsimp only[Bf,Ad,As,rA,DY,Br,sgs,srd,Av,Az]
 obtain⟨s,p,d,b,ns,k,bl⟩:=x;dsimp only[xg,xh] at hx ⊢
 obtain⟨hx,hk⟩:=hx
 have hx:rOk s ⟨p,d,b,ns⟩:=hx;have hs:=DD hx;dsimp only at hs
 (repeat' first|refine b0u ?_|(with_reducible first|rfl|exact True.intro|apply AK|apply And.intro|((first|apply AA|apply AI|apply AB|apply AJ)<;>intro _))|(apply Ax<;>intro _)|apply AH|refine Af () ?_ ?_|((first|apply AO|apply AN|apply AM|apply AL|apply AG|apply AF|apply AE|apply AD|apply AC)<;>try dsimp only)|apply Af|(refine Prod.forall.2 ?_;intro _;try dsimp only)|(intro _;try dsimp only))
 all_goals first
  |rfl
  |(simp [gBl, *];done)
  |exact b0v (g:=⟨p,d,b,ns⟩) ‹_› ‹_› ‹_›
  |(have hk2:=hk ‹_›;(try simp only[AR]);omega)
  |((try simp only[AR]);omega)
  |skip)
end Go.My
end
section
set_option linter.unusedVariables false
set_option linter.unusedSimpArgs false
namespace Go.My
open Go.Eng
theorem Ms{sg:List Sg}{x:Gs}{f:Ps→PR}{k k':Int}{y y':Gs}(h:Ae sg x f (k,y))(h1:gsOk sg y')(h2:y'.deep=y.deep)(h3:y.pos≤y'.pos)(h4:pur y'=pur y)(h5:y'.bad=false→k'=k):Ae sg x f (k',y'):=by
 obtain⟨⟨a1,a2,a3,a4,a5⟩,b⟩:=h
 simp only at a1 a2 a3 a4 a5 b
 have hb:y'.bad=y.bad:=by
  cases hy:y.bad with
  |true=>exact YP.1 (h4.trans (DC hy))
  |false=>
   cases hy':y'.bad with
   |false=>rfl
   |true=>rw[DC hy',CR hy] at h4;cases h4
 refine⟨⟨h1,by simp only;omega,by simp only;omega,by simp only;rw[h4];exact a4,fun p hp=> ?_⟩,fun hw=> ?_⟩
 ·simp only
  have:=a5 p hp
  rw[h5 ?_]
  ·exact this
  ·cases hy:y'.bad with
   |false=>rfl
   |true=>rw[←h4,DC hy,hp] at a4;cases a4
 ·simp only at hw ⊢
  have:=b (by rw[←hb];exact hw);omega
theorem Ux{α:Type}{sg:List Sg}{x y y':Gs}{f g:Ps→Option (α×Ps)}{d:Int}(h:restP sg x f y g d)(h1:gsOk sg y')(h2:y'.deep=y.deep)(h3:y.pos≤y'.pos)(h4:pur y'=pur y):restP sg x f y' g d:=by
 obtain⟨a1,a2,a3,a4⟩:=h
 exact⟨h1,by omega,by omega,by rw[h4];exact a4⟩
theorem Uy{sg:List Sg}{g:Gs}{w:Nd}(h:gsOk sg g)(hl:g.pos<sg.length)(hw:Cq w):gsOk sg (Ah (Aj g) w)∧(Ah (Aj g) w).deep=(BW (Ah g w)).deep∧(BW (Ah g w)).pos≤(Ah (Aj g) w).pos∧pur (Ah (Aj g) w)=pur (BW (Ah g w))∧Au (Aj g)=Au g:=by
 refine⟨Ib (EL h hl) hw,?_⟩
 cases hf:CM g with
 |true=>
  have hf2:CM (Aj g)=true:=hf
  simp only[Ah,Au,hf,hf2,if_true]
  simp [BW,Bc,Aj,pur];omega
 |false=>
  have hf2:CM (Aj g)=false:=hf
  have:=(PG hf).1
  simp only[Ah,Au,hf,hf2,Bool.false_eq_true,if_false]
  simp [BW,Bc,Aj,pur,this]
theorem HD{sg:List Sg}{x g:Gs}{f:Ps→PR}{m:List UInt8}{w:Nd}(hg:gsOk sg g)(hw:Cq w)(h:Ae sg x f (Bw sg g m,Bn sg g m w)):Ae sg x f (Au (Al sg g m),Ah (Al sg g m) w):=by
 cases hq:isG sg g 4 m with
 |true=>
  obtain⟨a,b,c,d,e⟩:=Uy hg (Ct hq (by omega)).2 hw
  simp only[Bn,Bw,Al,hq,if_true] at h ⊢
  exact Ms h a b c d (fun _=>e)
 |false=>
  simp only[Bn,Bw,Al,hq,Bool.false_eq_true,if_false] at h ⊢
  have hf:CM (Bc g)=true:=by simp [CM,Bc]
  simp only[Ah,Au,hf,if_true]
  exact Ms h hg rfl (Int.le_refl _) rfl (fun _=>rfl)
theorem NX{sg:List Sg}{g:Gs}{k:Int}(hk:k≠1):kdG sg g k=decide ((pkG sg g 0).kind=k):=by simp [kdG,hk]
theorem Mt{sg:List Sg}{x g:Gs}{f:Ps→PR}{k c:Int}(hs:sgB sg)(hg:gsOk sg g)(hk:k≠0)(hq:kdG sg g k=true)(h:Ae sg x f (Au g,CS sg g c false)):Ae sg x f (Au (Bd sg g k),Ah (Bd sg g k) ⟨c,Bv sg g k,[],false⟩):=by
 have hl:=QF hk hq
 have hw:Cq ⟨c,(pkG sg g 0).text,[],false⟩:=⟨JA hs,by simp⟩
 obtain⟨a1,a2,a3,a4,a5⟩:=Uy hg hl.2 hw
 simp only[Bd,Bv,hq,if_true]
 exact Ms h a1 a2 a3 a4 (fun _=>a5)
theorem b0x{sg:List Sg}{g:Gs}(hs:sgB sg)(hg:gsOk sg g):Ae sg g (Bu sg) (Au (Bd sg g 1),Ah (Bd sg g 1) ⟨1,Bv sg g 1,[],false⟩):=by
 have h:=IH hs hg
 cases hq:nmG sg g 0 with
 |true=>
  refine Mt hs hg (by omega) (by rw[Ii];exact hq) ?_
  simp only[Cu,Da,hq,if_true] at h;exact h
 |false=>
  have hq2:kdG sg g 1=false:=by rw[Ii];exact hq
  simp only[Cu,Da,hq,Bool.false_eq_true,if_false] at h
  have hf:CM (Bc g)=true:=by simp [CM,Bc]
  simp only[Bd,Bv,hq2,Bool.false_eq_true,if_false,Ah,Au,hf,if_true]
  exact Ms h hg rfl (Int.le_refl _) rfl (fun _=>rfl)
theorem HE{sg:List Sg}{g:Gs}:Bd sg g 1=BP sg g∧Bv sg g 1=BQ sg g:=by
 simp only[Bd,BP,Bv,BQ,Ii];exact⟨trivial,trivial⟩
theorem QJ{sg:List Sg}{g:Gs}{m:List UInt8}(h:g.bad=true):Al sg g m=g:=by
 have:isG sg g 4 m=false:=YR (DC h) (by omega)
 simp only[Al,this,Bool.false_eq_true,if_false,Bc]
 cases g;simp only at h;simp [h]
theorem IU{sg:List Sg}{g:Gs}{m:List UInt8}(h:isG sg g 4 m=true):Al sg g m=Aj g:=by simp [Al,h]
theorem NY{sg:List Sg}{g:Gs}{m:List UInt8}(h:isG sg g 4 m=false):Al sg g m=Bc g:=by simp [Al,h]
theorem Uz{w:Nd}{s:Ps}(h:¬300≤s.nodes.length):AZ w s=some ((s.nodes.length:Int),⟨s.pos,s.deep,s.nodes++[w]⟩):=if_neg h
theorem UA{w:Nd}{s:Ps}(h:300≤s.nodes.length):AZ w s=none:=if_pos h
def chS(sg:List Sg)(n l:Nat)(x y:Gs)(t:List UInt8)(ks:List Int)(N:Nat):Prop:=
 restP sg x (pE sg (n+1) (.chain l)) y (chF sg n l N t ks) 0∧(2*((sg.length:Int)-y.pos)+4≤N∨(t=[]∧2*((sg.length:Int)-y.pos)+3≤N))∧(ks.length:Int)≤y.pos+1∧(y.bad=false→x.pos<y.pos)∧(t=[]→ks.length=1)∧(t≠[]→2≤ks.length∧t∈Bs l)
theorem b0y{sg:List Sg}{x:Gs}{n l:Nat}{z:Int×Gs}(h:gsOk sg x)(hl:l≠6)(h1:Ae sg x (pE sg n (.chain (l+1))) z):chS sg n l x z.2 [] [z.1] (2*sg.length+4):=by
 obtain⟨a,b,c⟩:=Zl h hl h1
 have:=a.1.1
 exact⟨a,.inr ⟨rfl,b⟩,by simp;omega,c,fun _=>rfl,fun h=>(h rfl).elim⟩
theorem UB{sg:List Sg}{l:Nat}{m:List UInt8}{ks:List Int}(hs:sgB sg)(hml:m∈Bs l)(hk:(ks.length:Int)≤sg.length+1):Cq ⟨7,m,ks,false⟩:=by
 refine⟨?_,by have:=hs.1;simp only;omega⟩
 simp only
 unfold Bs at hml
 split at hml<;>simp at hml<;>(first|(subst hml;simp)|(rcases hml with rfl|rfl<;>simp))
theorem b0z{sg:List Sg}{n l:Nat}{x y:Gs}{t:List UInt8}{ks:List Int}{N:Nat}{z:Int×Gs}(h:chS sg n l x y t ks N)(hm:Bx sg l y≠[])(ht:t=[]∨Bx sg l y=t)(hz:Ae sg (Aj y) (pE sg n (.chain (l+1))) z):
 chS sg n l x z.2 (Bx sg l y) (ks++[z.1]) (N-1)∧N-1<N:=by
 obtain⟨h1,hN,hk,hb,hk1,hk2⟩:=h
 have hq:=(GN hm).1
 have hp:=h1.1.1
 have hl:=Ct hq (by omega)
 match N with
 |0=>omega
 |M+1=>
  refine⟨?_,by omega⟩
  have k1:=FK (g':=fun s=>(pE sg n (.chain (l+1)) s).bind fun p=>chF sg n l M (Bx sg l y) (ks++[p.1]) p.2) h1 (by omega) hq (fun s hs hts=>by
   rw[chF,DV,if_neg ?_,if_neg (by rw[Fs hs];exact hm),Fs hs];rfl
   rw[Fs hs];rintro⟨q1,q2⟩;rcases ht with ht|ht
   ·exact q1 ht
   ·exact q2 ht)
  have k2:=BI (k:=fun k s=>chF sg n l M (Bx sg l y) (ks++[k]) s) k1 hz.1 (fun _ _=>rfl)
  have e:=Cw hz
  simp only[Aj] at e
  have:=h1.2.2.1
  simp only[Nat.add_sub_cancel]
  refine⟨k2,.inl (by omega),by simp;omega,fun hb2=>by omega,fun he=>(hm he).elim,fun _=>⟨?_,(GN hm).2⟩⟩
  simp only[List.length_append,List.length_cons,List.length_nil]
  rcases Classical.em (t=[]) with e0|e0
  ·have:=hk1 e0;omega
  ·have:=(hk2 e0).1;omega
theorem b0A{sg:List Sg}{n l:Nat}{x y:Gs}{t:List UInt8}{ks:List Int}{N:Nat}{z:Int×Gs}(hs:sgB sg)(h:chS sg n l x y t ks N)(hm:Bx sg l y≠[])(ht:t≠[])(hne:Bx sg l y≠t)(hz:Ae sg (Ah (Aj y) ⟨7,t,ks,false⟩) (pE sg n (.chain (l+1))) z):
 chS sg n l x z.2 (Bx sg l y) ([Au (Aj y)]++[z.1]) (N-2)∧N-2<N:=by
 obtain⟨h1,hN,hk,hb,hk1,hk2⟩:=h
 have hq:=(GN hm).1
 have hp:=h1.1.1
 have hl:=Ct hq (by omega)
 have hN2:2*((sg.length:Int)-y.pos)+4≤N:=by
  rcases hN with h|h
  ·exact h
  ·exact(ht h.1).elim
 match N with
 |0=>omega
 |1=>omega
 |M+2=>
  refine⟨?_,by omega⟩
  have hw:Cq ⟨7,t,ks,false⟩:=UB hs (hk2 ht).2 (by omega)
  have k1:=FK (g':=fun s=>(AZ ⟨7,t,ks,false⟩ s).bind fun p=>(pE sg n (.chain (l+1)) p.2).bind fun q=>chF sg n l M (Bx sg l y) ([p.1]++[q.1]) q.2) h1 (by omega) hq (fun s hs hts=>by
   rw[chF,DV,if_pos ⟨ht,by rw[Fs hs];exact hne⟩]
   by_cases h3:300≤s.nodes.length
   ·rw[UA h3,UA (s:=adv s) h3];rfl
   ·rw[Uz h3,Uz (s:=adv s) h3]
    simp only[Option.bind_some]
    have e:Fp sg l ⟨s.pos,s.deep,s.nodes++[⟨7,t,ks,false⟩]⟩=Bx sg l y:=by rw[←Fs hs];rfl
    rw[DV,if_neg (by simp),if_neg (by rw[e];exact hm),e];rfl)
  have k2:=BI (k:=fun k s=>(pE sg n (.chain (l+1)) s).bind fun q=>chF sg n l M (Bx sg l y) ([k]++[q.1]) q.2) k1 (Nz k1.1 hw) (fun _ _=>rfl)
  have k3:=BI (k:=fun k s=>chF sg n l M (Bx sg l y) ([Au (Aj y)]++[k]) s) k2 hz.1 (fun _ _=>rfl)
  have e:=Cw hz
  obtain⟨d1,d2,d3⟩:= @GM (Aj y) ⟨7,t,ks,false⟩
  rw[d2] at e;simp only[Aj] at e
  have:=h1.2.2.1
  simp only[Nat.add_sub_cancel]
  refine⟨k3,.inl (by omega),by simp;omega,fun hb2=>by omega,fun he=>(hm he).elim,fun _=>⟨by simp,(GN hm).2⟩⟩
theorem a1s{sg:List Sg}{n l:Nat}{x y:Gs}{t:List UInt8}{ks:List Int}{N:Nat}{k:Int}(h:chS sg n l x y t ks N)(hm:y.bad=true∨Bx sg l y=[])(hl:ks.length=1)(hk:ks[0]? =some k):Ae sg x (pE sg (n+1) (.chain l)) (k,y):=by
 obtain⟨h1,hN,hk0,hb,hk1,hk2⟩:=h
 rcases hm with hm|hm
 ·exact⟨ND h1 hm,fun hb2=>by simp only at hb2;rw[hm] at hb2;cases hb2⟩
 ·have ht:t=[]:=by
   rcases Classical.em (t=[]) with e0|e0
   ·exact e0
   ·have:=(hk2 e0).1;omega
  subst ht
  have hp:=h1.1.1
  match ks,hl with
  |[k0],_=>
   simp at hk;subst hk
   match N with
   |0=>omega
   |N+1=>exact⟨Fq (Dq h1 (g':=fun s=>some (k0,s)) (fun s hs=>by rw[chF,DV,if_neg (by simp),if_pos (by rw[Fs hs,hm])];rfl)),hb⟩
theorem a1t{sg:List Sg}{n l:Nat}{x y:Gs}{t:List UInt8}{ks:List Int}{N:Nat}(hs:sgB sg)(h:chS sg n l x y t ks N)(hm:y.bad=true∨Bx sg l y=[])(hl:ks.length≠1):Ae sg x (pE sg (n+1) (.chain l)) (Au y,Ah y ⟨7,t,ks,false⟩):=by
 obtain⟨h1,hN,hk0,hb,hk1,hk2⟩:=h
 have ht:t≠[]:=fun e=>hl (hk1 e)
 have hp:=h1.1.1
 have hw:Cq ⟨7,t,ks,false⟩:=UB hs (hk2 ht).2 (by omega)
 obtain⟨d1,d2,d3⟩:= @GM y ⟨7,t,ks,false⟩
 have hN2:2*((sg.length:Int)-y.pos)+4≤N:=by
  rcases hN with h|h
  ·exact h
  ·exact(ht h.1).elim
 match N with
 |0=>omega
 |1=>omega
 |M+2=>
  have k1:restP sg x (pE sg (n+1) (.chain l)) y (AZ ⟨7,t,ks,false⟩) 0:=by
   rcases hm with hm|hm
   ·exact Dq h1 (fun s hs=>by rw[DC hm] at hs;cases hs)
   ·refine Dq h1 (fun s hs=> ?_)
    rw[chF,DV,if_pos ⟨ht,by rw[Fs hs,hm];exact Ne.symm ht⟩,AZ]
    split
    ·rfl
    ·simp only[Option.bind_some]
     have e:Fp sg l ⟨s.pos,s.deep,s.nodes++[⟨7,t,ks,false⟩]⟩=[]:=by rw[←hm,←Fs hs];rfl
     rw[DV,if_neg (by simp),if_pos e];rfl
  exact⟨PN k1 hw,fun hb2=>by simp only[d2];exact hb (d3 hb2)⟩
def gM(y:Gs)(m:List UInt8):Gs:=if m=[] then y else Aj y
theorem UC{y:Gs}:gM y []=y:=rfl
theorem QK{y:Gs}{m:List UInt8}(h:m≠[]):gM y m=Aj y:=if_neg h
def mkQ(sg:List Sg)(y:Gs)(l:Nat)(i:Int)(m:List UInt8):Prop:=(0≤i∧i≤(Bs l).length)∧((m=[]∧Bx sg l y=(((Bs l).drop i.toNat).find? fun m=>isG sg y 4 m).getD [])∨(m≠[]∧m=Bx sg l y))
theorem b0B{sg:List Sg}{y:Gs}{l:Nat}:mkQ sg y l 0 []:=⟨by omega,.inl ⟨rfl,rfl⟩⟩
theorem b0C{sg:List Sg}{y:Gs}{l:Nat}{i:Int}{m v:List UInt8}(h:mkQ sg y l i m)(hm:m=[])(ha:(Bs l)[i.toNat]? =some v)(hg:isG sg (gM y m) 4 v=false):mkQ sg y l (i+1) m:=by
 subst hm
 have hlt:=(List.getElem?_eq_some_iff.1 ha).1
 refine⟨by have:=h.1;omega,?_⟩
 rcases h.2 with h2|h2
 ·left;refine⟨rfl,?_⟩
  rw[h2.2,List.drop_eq_getElem_cons hlt,(List.getElem?_eq_some_iff.1 ha).2,List.find?_cons_of_neg (by simp;exact hg),show(i+1).toNat=i.toNat+1 by have:=h.1;omega]
 ·exact(h2.1 rfl).elim
theorem UD{sg:List Sg}{y:Gs}{l:Nat}{i:Int}{m v:List UInt8}(h:mkQ sg y l i m)(hm:m=[])(ha:(Bs l)[i.toNat]? =some v)(hg:isG sg (gM y m) 4 v=true):mkQ sg y l (i+1) v∧Ai sg (gM y m) v=gM y v:=by
 subst hm
 have hlt:=(List.getElem?_eq_some_iff.1 ha).1
 have hv:=PP (List.mem_of_getElem? ha)
 refine⟨⟨by have:=h.1;omega,.inr ⟨hv,?_⟩⟩,?_⟩
 ·exact(Zm (List.mem_of_getElem? ha) hg).symm
 ·rw[UC] at hg ⊢;rw[QK hv];exact CU hg
theorem b0D{sg:List Sg}{y:Gs}{l:Nat}{i:Int}{m:List UInt8}(h:mkQ sg y l i m)(hi:i<((Bs l).length:Int))(hm:m≠[]):mkQ sg y l (i+1) m:=by
 refine⟨by have:=h.1;omega,?_⟩
 rcases h.2 with h2|h2
 ·exact(hm h2.1).elim
 ·exact .inr h2
theorem QL{sg:List Sg}{y:Gs}{l:Nat}{i:Int}{m:List UInt8}(h:mkQ sg y l i m)(hi:¬i<((Bs l).length:Int)):m=Bx sg l y:=by
 rcases h.2 with h2|h2
 ·rw[h2.2,List.drop_eq_nil_of_le (by omega),h2.1];rfl
 ·exact h2.2
theorem a1u{sg:List Sg}{x:Gs}{f:Ps→PR}{a:Int}(h:gsOk sg x)(hb:x.bad=true):Ae sg x f (a,x):=⟨ND (Df h) hb,fun hb2=>by simp only at hb2;rw[hb] at hb2;cases hb2⟩
theorem b0E{sg:List Sg}{n:Nat}{x y y':Gs}{k k':Int}{N:Nat}(h:enI sg n x y k N)(h1:gsOk sg y')(h2:y'.deep=y.deep)(h3:y.pos≤y'.pos)(h4:pur y'=pur y)(h5:y'.bad=false→k'=k):enI sg n x y' k' N:=by
 obtain⟨a,b,c⟩:=h
 cases hb:y'.bad with
 |false=>
  have hy:y.bad=false:=by
   cases hy:y.bad with
   |false=>rfl
   |true=>rw[DC hy,CR hb] at h4;cases h4
  rw[h5 hb]
  exact⟨Ux a h1 h2 h3 h4,fun _=>by have:=b hy;omega,fun _=>by have:=c hy;omega⟩
 |true=>
  have hy:y.bad=true:=by
   cases hy:y.bad with
   |true=>rfl
   |false=>rw[DC hb,CR hy] at h4;cases h4
  refine⟨Dq (Ux a h1 h2 h3 h4) (fun s hs=>by rw[DC hb] at hs;cases hs),fun e=>(Bool.noConfusion (hb.symm.trans e)),fun e=>(Bool.noConfusion (hb.symm.trans e))⟩
theorem b0F{sg:List Sg}{n:Nat}{x y:Gs}{a k:Int}{N:Nat}(h:Ae sg x (pE sg (n+1) .fin) (a,y))(hb:y.bad=true):enI sg n x y k N:=
 ⟨Dq (a7H h.1) (fun s hs=>by rw[DC hb] at hs;cases hs),fun e=>(Bool.noConfusion (hb.symm.trans e)),fun e=>(Bool.noConfusion (hb.symm.trans e))⟩
theorem b0G{sg:List Sg}{n:Nat}{x y:Gs}{k:Int}{N:Nat}(hs:sgB sg)(h:enI sg n x y k N)(hp:isG sg y 4 [40]=false)(hq:isG sg y 4 [46]=true):
 enI sg n x (Ah (Bd sg (Aj y) 1) ⟨6,Bv sg (Aj y) 1,[k],false⟩) (Au (Bd sg (Aj y) 1)) (N-1)∧N-1<N:=by
 have hl:=Ct hq (by omega)
 obtain⟨M,rfl⟩:=NF h hl.1
 refine⟨?_,by omega⟩
 have ho:=EL h.1.1 hl.2
 have hw:Cq ⟨6,(pkG sg (Aj y) 0).text,[k],false⟩:=⟨JA hs,by simp⟩
 cases hn:nmG sg (Aj y) 0 with
 |true=>
  obtain⟨M',e,h2⟩:=Zo hs h hp hq hn
  have:M'=M:=by omega
  subst this
  obtain⟨a1,a2,a3,a4,a5⟩:=Uy ho (by have:=(Ia hn).2;omega) hw
  have e1:Bd sg (Aj y) 1=Aj (Aj y):=by rw[Bd,Ii,if_pos hn]
  have e2:Bv sg (Aj y) 1=(pkG sg (Aj y) 0).text:=by rw[Bv,Ii,if_pos hn]
  rw[e1,e2]
  exact b0E h2 a1 a2 a3 a4 (fun _=>a5)
 |false=>
  have h2:=Zp (a:=0) h hp hq hn
  have e1:Bd sg (Aj y) 1=Bc (Aj y):=by rw[Bd,Ii,if_neg (by simp [hn])]
  have hf:CM (Bc (Aj y))=true:=by simp [CM,Bc]
  rw[e1]
  have e3:Ah (Bc (Aj y)) ⟨6,Bv sg (Aj y) 1,[k],false⟩=Bc (Bc (Aj y)):=if_pos hf
  rw[e3]
  exact b0F (a:=0) (Ms h2 ho rfl (Int.le_refl _) rfl (fun _=>rfl)) rfl
def vlQ(sg:List Sg)(one:Ps→PR)(m:List UInt8)(ks0:List Int)(x:Gs)(y:List Int×Gs):Prop:=∃l:List Int×Gs,(Bh sg x (Bg sg one m (sg.length+1) []) l∧l.1.length≤3001)∧y=(ks0++l.1,Al sg l.2 m)
theorem UE{s:ST}{one:Ps→PR}{m:List UInt8}{ks0:List Int}{x:Gs}{y:List Int×Gs}(hs:sgB s.sg)(h:vlQ s.sg one m ks0 x y):rOk s y.2∧y.1.length≤ks0.length+3001∧y.2.deep=x.deep∧x.pos≤y.2.pos:=by
 obtain⟨l,⟨h1,h2⟩,rfl⟩:=h
 have t:=Ft (m:=m) h1.1
 have:=h1.2.1;have:=h1.2.2.1
 exact⟨⟨hs,t.1⟩,by simp;omega,by simp only;omega,by simp only;omega⟩
theorem a1v{sg:List Sg}{x:Gs}{one:Ps→PR}{k:Int}{y:List Int×Gs}(hx:gsOk sg x)(h:vlQ sg one [41] [k] (Al sg x [40]) y):Ae sg x (CL sg one k) (Au y.2,Ah y.2 ⟨5,[],y.1,false⟩):=by
 obtain⟨l,⟨h1,h2⟩,rfl⟩:=h
 exact HD h1.1 ⟨by simp,by simp;omega⟩ (Zy hx ⟨h1,h2⟩)
theorem b0H{sg:List Sg}{x y:Gs}{n N:Nat}{ks:List Int}{c w:Int×Gs}(h:JD sg n x y ks N)(hq:isG sg y 4 [46,46]=true)(hc:Ae sg (Aj y) (Bu sg) c)
 (h2:Ae sg c.2 (CL sg (pE sg n .value) c.1) w):∃M,N=M+1∧JD sg n x w.2 (ks++[w.1]) M:=by
 obtain⟨h1,hN,hk,hb⟩:=h
 obtain⟨hl1,hl⟩:=Ct hq (by omega)
 match N with
 |0=>omega
 |M+1=>
  refine⟨M,rfl,?_⟩
  have k1:=FK (g':=fun s=>((Bu sg s).bind fun p=>(CL sg (pE sg n .value) p.1 p.2).bind fun q=>EJ sg (pE sg n .value) M (ks++[q.1]) q.2).bind fun q=>AZ ⟨10,[],q.1,false⟩ q.2)
   h1 (by omega) hq (fun s hs ht=>by rw[EJ,if_pos (show isM sg s [46,46]=true from ht)])
  have k2:=BI (k:=fun k s=>((CL sg (pE sg n .value) k s).bind fun q=>EJ sg (pE sg n .value) M (ks++[q.1]) q.2).bind fun q=>AZ ⟨10,[],q.1,false⟩ q.2) k1 hc.1 (fun s _=>by simp only[Option.bind_assoc])
  have k3:=BI (k:=fun k s=>(EJ sg (pE sg n .value) M (ks++[k]) s).bind fun q=>AZ ⟨10,[],q.1,false⟩ q.2) k2 h2.1 (fun s _=>by simp only[Option.bind_assoc])
  have e0:(Aj y).pos≤c.2.pos:=hc.1.2.2.1
  have e1:=Cw h2
  have ea:(Aj y).pos=y.pos+1:=rfl
  refine⟨k3,by omega,by simp;omega,fun hb2=> ?_⟩
  have:=h1.2.2.1
  omega
theorem b0I{sg:List Sg}(hm:sgM sg){s:Ps}(h0:0≤s.pos)(h:Eg sg s=true):JC sg s=true:=by
 have hp:∀(n:Nat) (i:Int),0≤i→0≤Dc sg n i:=by
  intro n
  induction n with
  |zero=>intro i hi;simpa [Dc] using hi
  |succ n ih=>
   intro i hi;rw[Dc];split
   ·split
    ·exact ih _ (by omega)
    ·omega
   ·exact hi
 exact Ze hm _ _ (by omega) (by rw[←TC hm (hp _ _ (by omega))];exact h)
theorem b0J{sg:List Sg}(hm:sgM sg){s:Ps}(h0:0≤s.pos)(h1:JC sg s=true)(h2:Eg sg s=false)(N:Nat):Bg sg (Bu sg) [41] N [] (adv s)=none:=by
 have hp:∀(n:Nat) (i:Int),0≤i→0≤Dc sg n i:=by
  intro n
  induction n with
  |zero=>intro i hi;simpa [Dc] using hi
  |succ n ih=>
   intro i hi;rw[Dc];split
   ·split
    ·exact ih _ (by omega)
    ·omega
   ·exact hi
 exact Zf hm (sg.length+1) (s.pos+1) (by omega) h1 (by rw[←TC hm (hp _ _ (by omega))];exact h2) N [] (adv s) rfl
theorem b0K{sg:List Sg}{x:Gs}{n:Nat}{z:Int×Gs}(hm:sgM sg)(hx:gsOk sg x)(h1:(pkG sg x 0).kind≠1)(h2:(pkG sg x 0).kind≠2)(h3:(pkG sg x 0).kind≠3)(hn:isG sg x 4 [91]=false)(hq:isG sg x 4 [40]=true)
 (ha:∀s,pur x=some s→JC sg s=true) (hz:Ae sg x (fnR sg n) z):Ae sg x (pE sg (n+1) .base) z:=by
 refine JH hz (fun s hs=> ?_)
 have h0:0≤s.pos:=by obtain⟨_,rfl⟩:=Eh.1 hs;exact hx.1.1
 cases har:Eg sg s with
 |true=>rw[Ml hs h1 h2 h3,if_neg (by simp [Ek hs hn]),if_pos (by simp [Hq hs hq,har]),fnR,BC,if_pos (Hq hs hq)];rfl
 |false=>
  rw[Ml hs h1 h2 h3,if_neg (by simp [Ek hs hn]),if_neg (by simp [har]),if_pos (Hq hs hq),a7K (x:=⟨0,[],[],false⟩) hm h0 (ha s hs) har (fun k=>⟨11,[],[k],false⟩),fnR,BC,if_pos (Hq hs hq)]
  simp only[Option.bind_some]
  rw[b0J hm h0 (ha s hs) har];rfl
theorem b0L{sg:List Sg}{x:Gs}{n:Nat}{z:Int×Gs}(hm:sgM sg)(h:gsOk sg x)(h1:(pkG sg x 0).kind≠1)(h2:(pkG sg x 0).kind≠2)(h3:(pkG sg x 0).kind≠3)(hn:isG sg x 4 [91]=false)(hq:isG sg x 4 [40]=true)
 (ha:∀s,pur x=some s→JC sg s=false) (hz:Ae sg (Aj x) (pE sg n .value) z):
 Ae sg x (pE sg (n+1) .base) (Au (Al sg z.2 [41]),Ah (Al sg z.2 [41]) ⟨11,[],[z.1],false⟩):=by
 refine HD (En hz) ⟨by simp,by simp⟩ (Zt h h1 h2 h3 hn hq (fun s hs=> ?_) hz)
 have h0:0≤s.pos:=by obtain⟨_,rfl⟩:=Eh.1 hs;exact h.1.1
 cases har:Eg sg s with
 |false=>rfl
 |true=>have:=b0I hm h0 har;rw[ha s hs] at this;cases this
end Go.My
end
section
set_option linter.unusedVariables false
set_option linter.unusedSimpArgs false
namespace Go.My
open Go.Eng Go.Proofs
variable {G:GInv}
def vQ(r n:Nat)(s:ST)(g:Gs):Prop:=vP r n s g∧sgM s.sg
def wQ(r n:Nat)(s:ST)(g:Gs):Prop:=wP r n s g∧sgM s.sg
def Lc(n:Nat):Sig:= {X:=ST×Int×Int×Bool×List Nd,args:=fun x=>[srd x.1 (xg x)],pre:=fun x=>vQ 11 n x.1 (xg x),Y:=Int×Int×Int×Bool×List Nd,post:=fun x y=>Ae x.1.sg (xg x) (pE x.1.sg n .value) (yS y),res:=fun x y=> .int .i64 y.1,outs:=fun x y=>[srd x.1 (yG y.2)],keep:=true}
def Gr(n:Nat):Sig:= {X:=ST×Int×Int×Bool×List Nd,args:=fun x=>[srd x.1 (xg x)],pre:=fun x=>vQ 10 n x.1 (xg x),Y:=Int×Int×Int×Bool×List Nd,post:=fun x y=>Ae x.1.sg (xg x) (pE x.1.sg n .pick) (yS y),res:=fun x y=> .int .i64 y.1,outs:=fun x y=>[srd x.1 (yG y.2)],keep:=true}
def HF(n:Nat):Sig:= {X:=ST×Int×Int×Bool×List Nd×Int,args:=fun x=>[srd x.1 (xh x),.int .i64 x.2.2.2.2.2],pre:=fun x=>wQ (9-x.2.2.2.2.2.toNat) n x.1 (xh x)∧0≤x.2.2.2.2.2∧x.2.2.2.2.2≤6,Y:=Int×Int×Int×Bool×List Nd,post:=fun x y=>Ae x.1.sg (xh x) (pE x.1.sg n (.chain x.2.2.2.2.2.toNat)) (yS y),res:=fun x y=> .int .i64 y.1,outs:=fun x y=>[srd x.1 (yG y.2),.top],keep:=true}
def QM(n:Nat):Sig:= {X:=ST×Int×Int×Bool×List Nd,args:=fun x=>[srd x.1 (xg x)],pre:=fun x=>wQ 2 n x.1 (xg x),Y:=Int×Int×Int×Bool×List Nd,post:=fun x y=>Ae x.1.sg (xg x) (pE x.1.sg n .fin) (yS y),res:=fun x y=> .int .i64 y.1,outs:=fun x y=>[srd x.1 (yG y.2)],keep:=true}
def QN(n:Nat):Sig:= {X:=ST×Int×Int×Bool×List Nd,args:=fun x=>[srd x.1 (xg x)],pre:=fun x=>wQ 1 n x.1 (xg x),Y:=Int×Int×Int×Bool×List Nd,post:=fun x y=>Ae x.1.sg (xg x) (pE x.1.sg n .base) (yS y),res:=fun x y=> .int .i64 y.1,outs:=fun x y=>[srd x.1 (yG y.2)],keep:=true}
structure qAll (G:GInv) (n:Nat):Prop where
 val:Aq G Go.Proofs.Tryz.prog 107 (Lc n)
 pick:Aq G Go.Proofs.Tryz.prog 142 (Gr n)
 chain:Aq G Go.Proofs.Tryz.prog 171 (HF n)
 fin:Aq G Go.Proofs.Tryz.prog 185 (QM n)
 base:Aq G Go.Proofs.Tryz.prog 191 (QN n)
def saI(sg:List Sg)(p:Int)(i:Int)(N:Nat):Prop:=(p+1≤i∧i≤sg.length+1∧(sg.length:Int)-i<N)∧Em sg (sg.length+1) (p+1)=Em sg N i
def arG(sg:List Sg)(x:Gs):Bool:=isG sg x 4 [40]&&JC sg ⟨x.pos,x.deep,x.nodes⟩
theorem b0M{sg:List Sg}{p i:Int}{N:Nat}(h:saI sg p i N):p+1≤i∧i≤sg.length+1:=⟨h.1.1,h.1.2.1⟩
theorem b0N{sg:List Sg}{p:Int}(h0:0≤p)(h:p≤sg.length):saI sg p (p+1) (sg.length+1):=⟨by omega,rfl⟩
theorem a1w{sg:List Sg}{p i:Int}{N:Nat}(h0:0≤p)(h:saI sg p i N)(h1:i+1<sg.length)(hk:(sgO sg i).kind=1)(ht:((sgO sg (i+1)).text==[44])=true):saI sg p (i+1+1) (N-1)∧N-1<N:=by
 obtain⟨⟨a1,a2,a3⟩,h4⟩:=h
 match N with
 |0=>omega
 |N+1=>
  refine⟨⟨⟨by omega,by omega,by simp;omega⟩,?_⟩,by omega⟩
  rw[h4,Em,if_pos ⟨h1,hk⟩,if_pos (by simpa using ht)]
  simp only[Nat.add_sub_cancel];congr 1;omega
theorem b0O{sg:List Sg}{p i:Int}{N:Nat}(h:saI sg p i N)(h1:i+1<sg.length)(hk:(sgO sg i).kind=1)(ht:((sgO sg (i+1)).text==[44])=false):Em sg (sg.length+1) (p+1)=i+1:=by
 obtain⟨⟨a1,a2,a3⟩,h4⟩:=h
 match N with
 |0=>omega
 |N+1=>rw[h4,Em,if_pos ⟨h1,hk⟩,if_neg (by simpa using ht)]
theorem b0P{sg:List Sg}{p i:Int}{N:Nat}(h:saI sg p i N)(h1:¬i+1<sg.length):Em sg (sg.length+1) (p+1)=i:=by
 rw[h.2]
 match N with
 |0=>rfl
 |N+1=>rw[Em,if_neg (fun hh=>h1 hh.1)]
theorem b0Q{sg:List Sg}{p i:Int}{N:Nat}(h:saI sg p i N)(hk:(sgO sg i).kind≠1):Em sg (sg.length+1) (p+1)=i:=by
 rw[h.2]
 match N with
 |0=>rfl
 |N+1=>rw[Em,if_neg (fun hh=>hk hh.2)]
theorem b0R{sg:List Sg}{x:Gs}(h:isG sg x 4 [40]=false):false=arG sg x:=by simp [arG,h]
theorem UF{sg:List Sg}{x:Gs}{i:Int}{b:Bool}(h:isG sg x 4 [40]=true)(hi:Em sg (sg.length+1) (x.pos+1)=i)(hb:b=EZ sg i):b=arG sg x:=by
 rw[arG,h,Bool.true_and,JC];simp only[hi];exact hb
theorem a1x{sg:List Sg}{i k:Int}{e:Sg}(he:sg[i.toNat]? =some e)(hk:e.kind=k):(sgO sg i).kind=k:=by rw[IE he];exact hk
theorem a1y{sg:List Sg}{i:Int}{e:Sg}{m:List UInt8}{b:Bool}(he:sg[i.toNat]? =some e)(hk:(e.text==m)=b):((sgO sg i).text==m)=b:=by rw[IE he];exact hk
def lqJ(sg:List Sg)(one:Ps→PR)(m:List UInt8)(x y:Gs)(ks:List Int)(N:Nat):Prop:=EA sg one m x y ks N∧(y.bad=false→x.bad=false)
theorem a1z{sg:List Sg}{one:Ps→PR}{m:List UInt8}{x:Gs}(h:gsOk sg x):lqJ sg one m x x [] (sg.length+1):=⟨TD h,fun h=>h⟩
theorem IV{s:ST}{one:Ps→PR}{m:List UInt8}{x y:Gs}{ks:List Int}{N:Nat}(hs:sgB s.sg)(h:lqJ s.sg one m x y ks N):rOk s y:=TL hs h
theorem NZ{s:ST}{one:Ps→PR}{m:List UInt8}{x y:Gs}{ks:List Int}{N:Nat}(hs:sgB s.sg)(h:lqJ s.sg one m x y ks N):ks.length≤3000:=TK hs h
theorem b0S{s:ST}{one:Ps→PR}{m:List UInt8}{x y:Gs}{ks:List Int}{N n:Nat}(hx:wQ 11 n s x)(h:lqJ s.sg one m x y ks N)(hb:y.bad=false)(hq:isG s.sg y 4 m=false):vQ 11 n s (Ai s.sg y m):=by
 rw[CT hq];exact⟨Zw hx.1.1.1.1 h hb hx.1.1.2 hx.1.2,hx.2⟩
theorem QO{sg:List Sg}{one:Ps→PR}{m:List UInt8}{x y:Gs}{ks:List Int}{N:Nat}{z:Int×Gs}(h:lqJ sg one m x y ks N)(hq:isG sg y 4 m=false)(hz:Ae sg (Ai sg y m) one z)(hc:isG sg z.2 4 [44]=true):
 lqJ sg one m x (Ai sg z.2 [44]) (ks++[z.1]) (N-1)∧N-1<N:=by
 rw[CT hq] at hz;exact NH h hz hq hc
theorem a1A{s:ST}{one:Ps→PR}{m:List UInt8}{ks0:List Int}{x y:Gs}{ks:List Int}{N:Nat}{z:Int×Gs}(hs:sgB s.sg)(h:lqJ s.sg one m x y ks N)(hq:isG s.sg y 4 m=false)(hz:Ae s.sg (Ai s.sg y m) one z)(hc:isG s.sg z.2 4 [44]=false):
 vlQ s.sg one m ks0 x (ks0++ks++[z.1],Al s.sg (Ai s.sg z.2 [44]) m):=by
 rw[CT hq] at hz
 have a:=TI h hz hq hc
 refine⟨_,⟨a,?_⟩,?_⟩
 ·have:=NZ hs h;simp;omega
 ·simp only[List.append_assoc]
theorem a1B{s:ST}{one:Ps→PR}{m:List UInt8}{ks0:List Int}{x y:Gs}{ks:List Int}{N:Nat}(hs:sgB s.sg)(h:lqJ s.sg one m x y ks N)(hb:y.bad=true):vlQ s.sg one m ks0 x (ks0++ks,y):=by
 refine⟨_,⟨TE h.1 hb,?_⟩,by simp only[QJ hb]⟩
 have:=NZ hs h;simp only;omega
theorem a1C{s:ST}{one:Ps→PR}{m:List UInt8}{ks0:List Int}{x y:Gs}{ks:List Int}{N:Nat}(hs:sgB s.sg)(h:lqJ s.sg one m x y ks N)(hq:isG s.sg y 4 m=true):vlQ s.sg one m ks0 x (ks0++ks,Ai s.sg y m):=by
 refine⟨_,⟨TF h.1 hq,?_⟩,by simp only[CU hq,IU hq]⟩
 have:=NZ hs h;simp only;omega
theorem Fc{s:ST}{y:Gs}{m:List UInt8}(h:rOk s y):rOk s (Ai s.sg y m):=by
 cases hq:isG s.sg y 4 m with
 |true=>rw[CU hq];exact⟨h.1,EL h.2 (Ct hq (by omega)).2⟩
 |false=>rw[CT hq];exact h
theorem GW{s:ST}{y:Gs}{k:Int}(h:rOk s y)(hk:k≠0):rOk s (Bd s.sg y k):=by
 unfold Bd;split
 ·rename_i hq;exact⟨h.1,EL h.2 (QF hk hq).2⟩
 ·exact h
theorem Mu{s:ST}{y:Gs}{m:List UInt8}(h:rOk s y):Ae s.sg (Ai s.sg y m) (Bu s.sg) (Au (Bd s.sg (Ai s.sg y m) 1),Ah (Bd s.sg (Ai s.sg y m) 1) ⟨1,Bv s.sg (Ai s.sg y m) 1,[],false⟩):=b0x h.1 (Fc h).2
theorem UG{s:ST}{y:Gs}{m:List UInt8}(h:rOk s y):rOk s (Ah (Bd s.sg (Ai s.sg y m) 1) ⟨1,Bv s.sg (Ai s.sg y m) 1,[],false⟩):=⟨h.1,En (Mu (m:=m) h)⟩
attribute [local irreducible] pE Bg CL fnR Ae Bh gsOk Al Bn Ah BW CS Ai Cu Da Au Bw pkG isG nmG kdG Bd Bv Bu vlQ lqJ saI
def DQ:Sig:= {X:=ST×Int×Int×Bool×List Nd,args:=fun x=>[srd x.1 (xg x)],pre:=fun x=>rOk x.1 (xg x),Y:=Unit,post:=fun x y=>True,res:=fun x y=> .bool (arG x.1.sg (xg x)),outs:=fun x y=>[srd x.1 (xg x)],keep:=true}
def QP(x:ST×Int×Int×Bool×List Nd):LS:= {ι:=Int×Nat,inv:=fun i=>saI x.1.sg (xg x).pos i.1 i.2,regs:=fun i=>[(0,srd x.1 (xg x)),(3,.int .i64 i.1)],als:=[],meas:=fun i=>i.2}
theorem b0T:Aq G Tryz.prog 195 DQ:=
 vcFun_okP [(106,0,DN)] [] false (fun x=>[(5,QP x)]) Tryz.func195 rfl (by decide) ⟨NW,trivial⟩ (fun(x:ST×Int×Int×Bool×List Nd)=>True∧cA DN [srd x.1 (xg x),.int .i64 (4:Int),.str #[(40:UInt8)].toList] fun x_1 y=>Aa (!isG x_1.1.sg (xh x_1) x_1.2.2.2.2.2.1 x_1.2.2.2.2.2.2) (rA DQ x [.bool false,srd x_1.1 (xh x_1)]) (inR IntKind.i64 ((xg x).pos+(1:Int))∧eA (QP x) [srd x_1.1 (xh x_1),.int .i64 ((xg x).pos+(1:Int))]∧∀(i:Int×Nat),saI x.1.sg (xg x).pos i.1 i.2→inR IntKind.i64 (i.1+(1:Int))∧Aa (decide (i.1+(1:Int)<(↑(List.length x.1.sg):Int))) (((0:Int)≤i.1∧i.1<(↑(List.length x.1.sg):Int))∧∀(e:Sg),x.1.sg[Int.toNat i.1]? =some e→Aa (e.kind==(1:Int)) (inR IntKind.i64 (i.1+(1:Int))∧((0:Int)≤i.1+(1:Int)∧i.1+(1:Int)<(↑(List.length x.1.sg):Int))∧∀(e:Sg),x.1.sg[Int.toNat (i.1+(1:Int))]? =some e→Aa (!e.text== #[(44:UInt8)].toList) (inR IntKind.i64 (i.1+(1:Int)+(1:Int))∧Aa (decide (i.1+(1:Int)+(1:Int)<(↑(List.length x.1.sg):Int))) (((0:Int)≤i.1+(1:Int)∧i.1+(1:Int)<(↑(List.length x.1.sg):Int))∧∀(e:Sg),x.1.sg[Int.toNat (i.1+(1:Int))]? =some e→Aa (e.text== #[(41:UInt8)].toList) (((0:Int)≤i.1+(1:Int)∧i.1+(1:Int)<(↑(List.length x.1.sg):Int))∧∀(e:Sg),x.1.sg[Int.toNat (i.1+(1:Int))]? =some e→Aa (e.kind==(4:Int)) (inR IntKind.i64 (i.1+(1:Int)+(1:Int))∧((0:Int)≤i.1+(1:Int)+(1:Int)∧i.1+(1:Int)+(1:Int)<(↑(List.length x.1.sg):Int))∧∀(e:Sg),x.1.sg[Int.toNat (i.1+(1:Int)+(1:Int))]? =some e→Aa (e.text== #[(61:UInt8),(62:UInt8)].toList) (inR IntKind.i64 (i.1+(1:Int)+(1:Int))∧((0:Int)≤i.1+(1:Int)+(1:Int)∧i.1+(1:Int)+(1:Int)<(↑(List.length x.1.sg):Int))∧∀(e:Sg),x.1.sg[Int.toNat (i.1+(1:Int)+(1:Int))]? =some e→rA DQ x [.bool (e.kind==(4:Int)),srd x.1 (xg x)]) (rA DQ x [.bool false,srd x.1 (xg x)])) (rA DQ x [.bool false,srd x.1 (xg x)])) (rA DQ x [.bool false,srd x.1 (xg x)])) (rA DQ x [.bool false,srd x.1 (xg x)])) (inR IntKind.i64 (i.1+(1:Int)+(1:Int))∧eN (QP x) i [srd x.1 (xg x),.int .i64 (i.1+(1:Int)+(1:Int))])) (inR IntKind.i64 (i.1+(1:Int))∧Aa (decide (i.1+(1:Int)<(↑(List.length x.1.sg):Int))) (((0:Int)≤i.1∧i.1<(↑(List.length x.1.sg):Int))∧∀(e:Sg),x.1.sg[Int.toNat i.1]? =some e→Aa (e.text== #[(41:UInt8)].toList) (((0:Int)≤i.1∧i.1<(↑(List.length x.1.sg):Int))∧∀(e:Sg),x.1.sg[Int.toNat i.1]? =some e→Aa (e.kind==(4:Int)) (inR IntKind.i64 (i.1+(1:Int))∧((0:Int)≤i.1+(1:Int)∧i.1+(1:Int)<(↑(List.length x.1.sg):Int))∧∀(e:Sg),x.1.sg[Int.toNat (i.1+(1:Int))]? =some e→Aa (e.text== #[(61:UInt8),(62:UInt8)].toList) (inR IntKind.i64 (i.1+(1:Int))∧((0:Int)≤i.1+(1:Int)∧i.1+(1:Int)<(↑(List.length x.1.sg):Int))∧∀(e:Sg),x.1.sg[Int.toNat (i.1+(1:Int))]? =some e→rA DQ x [.bool (e.kind==(4:Int)),srd x.1 (xg x)]) (rA DQ x [.bool false,srd x.1 (xg x)])) (rA DQ x [.bool false,srd x.1 (xg x)])) (rA DQ x [.bool false,srd x.1 (xg x)])) (rA DQ x [.bool false,srd x.1 (xg x)]))) (inR IntKind.i64 (i.1+(1:Int))∧Aa (decide (i.1+(1:Int)<(↑(List.length x.1.sg):Int))) (((0:Int)≤i.1∧i.1<(↑(List.length x.1.sg):Int))∧∀(e:Sg),x.1.sg[Int.toNat i.1]? =some e→Aa (e.text== #[(41:UInt8)].toList) (((0:Int)≤i.1∧i.1<(↑(List.length x.1.sg):Int))∧∀(e:Sg),x.1.sg[Int.toNat i.1]? =some e→Aa (e.kind==(4:Int)) (inR IntKind.i64 (i.1+(1:Int))∧((0:Int)≤i.1+(1:Int)∧i.1+(1:Int)<(↑(List.length x.1.sg):Int))∧∀(e:Sg),x.1.sg[Int.toNat (i.1+(1:Int))]? =some e→Aa (e.text== #[(61:UInt8),(62:UInt8)].toList) (inR IntKind.i64 (i.1+(1:Int))∧((0:Int)≤i.1+(1:Int)∧i.1+(1:Int)<(↑(List.length x.1.sg):Int))∧∀(e:Sg),x.1.sg[Int.toNat (i.1+(1:Int))]? =some e→rA DQ x [.bool (e.kind==(4:Int)),srd x.1 (xg x)]) (rA DQ x [.bool false,srd x.1 (xg x)])) (rA DQ x [.bool false,srd x.1 (xg x)])) (rA DQ x [.bool false,srd x.1 (xg x)])) (rA DQ x [.bool false,srd x.1 (xg x)])))) (fun x=>by kernel_rfl) fun(x:ST×Int×Int×Bool×List Nd) (hx:rOk x.1 (xg x))=>(by
 dsimp only[cA,eA,eN,QP,Bf,As,rA,DQ,DN,Br,sgs,srd,Av,Az,mvL,lnL,mvE,lnE,BA]
 obtain⟨s,p,d,b,ns⟩:=x;dsimp only[xg,xh] at hx ⊢
 have hx:rOk s ⟨p,d,b,ns⟩:=hx;have hs:=DD hx;dsimp only at hs
 (repeat' first|(with_reducible first|rfl|exact True.intro|apply AK|apply And.intro|((first|apply AA|apply AI|apply AB|apply AJ)<;>intro _))|(apply Ax<;>intro _)|apply AH|refine Af () ?_ ?_|((first|apply AO|apply AN|apply AM|apply AL|apply AG|apply AF|apply AE|apply AD|apply AC)<;>try dsimp only)|apply Af|(refine Prod.forall.2 ?_;intro _;try dsimp only)|(intro _;try dsimp only))
 all_goals(try dsimp only[xg,xh,yG,yS,iG] at*)
 all_goals first
  |(show Nat;skip)
  |rfl
  |exact hx
  |exact b0N hs.1.1.1 hs.1.1.2
  |exact b0R (x:=⟨p,d,b,ns⟩) ‹_›
  |exact(a1w hs.1.1.1 ‹_› ‹_› (a1x ‹_› ‹_›) (a1y ‹_› ‹_›)).1
  |(have hq:=b0M (show saI _ _ _ _ by assumption);(try simp only[AR]);omega)
  |omega
  |skip
 all_goals first
  |exact(a1w hs.1.1.1 ‹_› ‹_› (a1x ‹_› ‹_›) (a1y ‹_› ‹_›)).2
  |skip
 all_goals(repeat(rename s.sg[_]? =some _=>hq;have hq2:=IE hq;clear hq;subst hq2))
 all_goals first
  |(refine UF (x:=⟨p,d,b,ns⟩) ‹_› (b0O ‹_› ‹_› ‹_› ‹_›) ?_;rw[Bool.eq_iff_iff];simp [EZ,Fr, *];done)
  |(refine UF (x:=⟨p,d,b,ns⟩) ‹_› (b0P ‹_› ‹_›) ?_;rw[Bool.eq_iff_iff];simp [EZ,Fr, *];done)
  |(refine UF (x:=⟨p,d,b,ns⟩) ‹_› (b0Q ‹_› ‹_›) ?_;rw[Bool.eq_iff_iff];simp [EZ,Fr, *];done)
  |skip)
def FS(n:Nat):Sig:= {X:=ST×Int×Int×Bool×List Nd×List UInt8×List Int,args:=fun x=>[srd x.1 (xh x),.str x.2.2.2.2.2.1,Ad x.2.2.2.2.2.2],pre:=fun x=>wQ 11 n x.1 (xh x)∧x.2.2.2.2.2.2.length≤1,Y:=List Int×Int×Int×Bool×List Nd,post:=fun x y=>vlQ x.1.sg (pE x.1.sg n .value) x.2.2.2.2.2.1 x.2.2.2.2.2.2 (xh x) (yS y),res:=fun x y=>Ad y.1,outs:=fun x y=>[srd x.1 (yG y.2),.top,.top],keep:=true}
def QQ(n:Nat)(x:ST×Int×Int×Bool×List Nd×List UInt8×List Int):LS:= {ι:=Int×Int×Bool×List Nd×List Int×Nat,inv:=fun i=>lqJ x.1.sg (pE x.1.sg n .value) x.2.2.2.2.2.1 (xh x) (iG i) i.2.2.2.2.1 i.2.2.2.2.2,regs:=fun i=>[(0,srd x.1 (iG i)),(1,.str x.2.2.2.2.2.1),(2,Ad (x.2.2.2.2.2.2++i.2.2.2.2.1))],als:=[],meas:=fun i=>i.2.2.2.2.2}
theorem UH(n:Nat)(h:qAll G n):Aq G Tryz.prog 143 (FS n):=
 vcFun_okP [(73,0,Ca),(107,0,(Lc n)),(72,0,BM)] [(45,⟨Int,Ba⟩)] false (fun x=>[(1,QQ n x)]) Tryz.func143 rfl (by decide) ⟨GU,h.val,HC,trivial⟩ (fun(x:ST×Int×Int×Bool×List Nd×List UInt8×List Int)=>True∧eA (QQ n x) [srd x.1 (xh x),.str x.2.2.2.2.2.1,Ad x.2.2.2.2.2.2]∧∀(i:Int×Int×Bool×List Nd×List Int×Nat),lqJ x.1.sg (pE x.1.sg n NT.value) x.2.2.2.2.2.1 (xh x) (iG i) i.2.2.2.2.1 i.2.2.2.2.2→Aa (!(iG i).bad) (cA Ca [srd x.1 (iG i),.str x.2.2.2.2.2.1] fun x_1 y=>Aa (!isG x_1.1.sg (xh x_1) (4:Int) x_1.2.2.2.2.2) (cA (Lc n) [srd x_1.1 (Ai x_1.1.sg (xh x_1) x_1.2.2.2.2.2)] fun x_2 y=>∃(x_3:Int),y.1=x_3∧∃(zs:List Int),Ad [x_3]=Ad zs∧Bt Ba∧AW (List.length (x.2.2.2.2.2.2++i.2.2.2.2.1)+List.length zs) (8:Nat)∧cA Ca [srd x_2.1 (yG y.2),.str #[(44:UInt8)].toList] fun x_4 y=>Aa (!isG x_4.1.sg (xh x_4) (4:Int) x_4.2.2.2.2.2) (cA BM [srd x_4.1 (Ai x_4.1.sg (xh x_4) x_4.2.2.2.2.2),.str x.2.2.2.2.2.1] fun x_5 y=>rA (FS n) x [Ad (x.2.2.2.2.2.2++i.2.2.2.2.1++zs),srd x_5.1 (Al x_5.1.sg (xh x_5) x_5.2.2.2.2.2),.top,.top]) (eN (QQ n x) i [srd x_4.1 (Ai x_4.1.sg (xh x_4) x_4.2.2.2.2.2),.str x.2.2.2.2.2.1,Ad (x.2.2.2.2.2.2++i.2.2.2.2.1++zs)])) (rA (FS n) x [Ad (x.2.2.2.2.2.2++i.2.2.2.2.1),srd x_1.1 (Ai x_1.1.sg (xh x_1) x_1.2.2.2.2.2),.top,.top])) (rA (FS n) x [Ad (x.2.2.2.2.2.2++i.2.2.2.2.1),srd x.1 (iG i),.top,.top])) (fun x=>by kernel_rfl) fun(x:ST×Int×Int×Bool×List Nd×List UInt8×List Int) (hx:wQ 11 n x.1 (xh x)∧x.2.2.2.2.2.2.length≤1)=>(by
 dsimp only[cA,eA,eN,QQ,Bf,Ad,As,rA,Ca,Lc,FS,BM,Br,sgs,srd,Av,Az,mvL,lnL,mvE,lnE,BA]
 obtain⟨s,p,d,b,ns,m,ks0⟩:=x;dsimp only[xg,xh] at hx ⊢
 obtain⟨hx,hk0⟩:=hx
 have hx:wQ 11 n s ⟨p,d,b,ns⟩:=hx
 have hs:=hx.1.1.1.1;have h1:=hx.1.1.1
 (repeat' first|(with_reducible first|rfl|exact True.intro|apply AK|apply And.intro|((first|apply AA|apply AI|apply AB|apply AJ)<;>intro _))|(apply Ax<;>intro _)|apply AH|refine Af () ?_ ?_|((first|apply AO|apply AN|apply AM|apply AL|apply AG|apply AF|apply AE|apply AD|apply AC)<;>try dsimp only)|apply Af|(refine Prod.forall.2 ?_;intro _;try dsimp only)|(intro _;try dsimp only))
 all_goals(try dsimp only[xg,xh,yG,yS,iG] at*)
 all_goals(try simp only[CG] at*)
 all_goals first
  |(show Nat;skip)
  |rfl
  |exact h1
  |exact a1z h1.2
  |exact IV hs ‹_›
  |exact b0S hx ‹_› ‹_› ‹_›
  |exact Dg h1 ‹_›
  |exact Fc (Dg h1 ‹_›)
  |exact(QO ‹_› ‹_› ‹_› ‹_›).1
  |exact a1A hs ‹_› ‹_› ‹_› ‹_›
  |exact a1B hs ‹_› ‹_›
  |exact a1C hs ‹_› ‹_›
  |(simp;done)
  |(have hq:=NZ hs (show lqJ _ _ _ _ _ _ _ by assumption);(try simp only[AW,List.length_append,List.length_cons,List.length_nil]);omega)
  |skip
 all_goals first
  |exact(QO ‹_› ‹_› ‹_› ‹_›).2
  |(simp;done)
  |skip)
def FT:Sig:= {X:=ST×Int×Int×Bool×List Nd,args:=fun x=>[srd x.1 (xg x)],pre:=fun x=>rOk x.1 (xg x),Y:=List Int×Int×Int×Bool×List Nd,post:=fun x y=>vlQ x.1.sg (Bu x.1.sg) [41] [] (Al x.1.sg (xg x) [40]) (yS y),res:=fun x y=>Ad y.1,outs:=fun x y=>[srd x.1 (yG y.2)],keep:=true}
def QR(x:ST×Int×Int×Bool×List Nd):LS:= {ι:=Int×Int×Bool×List Nd×List Int×Nat,inv:=fun i=>lqJ x.1.sg (Bu x.1.sg) [41] (Al x.1.sg (xg x) [40]) (iG i) i.2.2.2.2.1 i.2.2.2.2.2,regs:=fun i=>[(0,srd x.1 (iG i)),(3,Ad i.2.2.2.2.1)],als:=[],meas:=fun i=>i.2.2.2.2.2}
theorem UI:Aq G Tryz.prog 74 FT:=
 vcFun_okP [(73,0,Ca),(72,0,BM),(43,0,Bm),(69,0,CA)] [(45,⟨Int,Ba⟩)] false (fun x=>[(3,QR x)]) Tryz.func74 rfl (by decide) ⟨GU,HC,GV,JQ,trivial⟩ (fun(x:ST×Int×Int×Bool×List Nd)=>True∧cA BM [srd x.1 (xg x),.str #[(40:UInt8)].toList] fun x_1 y=>eA (QR x) [srd x_1.1 (Al x_1.1.sg (xh x_1) x_1.2.2.2.2.2),Ad []]∧∀(i:Int×Int×Bool×List Nd×List Int×Nat),lqJ x.1.sg (Bu x.1.sg) [(41:UInt8)] (Al x.1.sg (xg x) [(40:UInt8)]) (iG i) i.2.2.2.2.1 i.2.2.2.2.2→Aa (!(iG i).bad) (cA Ca [srd x.1 (iG i),.str #[(41:UInt8)].toList] fun x_2 y=>Aa (!isG x_2.1.sg (xh x_2) (4:Int) x_2.2.2.2.2.2) (cA CA [srd x_2.1 (Ai x_2.1.sg (xh x_2) x_2.2.2.2.2.2),.int .i64 (1:Int)] fun x_3 y=>cA Bm [srd x_3.1 (Bd x_3.1.sg (xh x_3) x_3.2.2.2.2.2),.int .i64 (1:Int),.str (Bv x_3.1.sg (xh x_3) x_3.2.2.2.2.2),Ad []] fun x_4 y=>∃(x_5:Int),Au (xh x_4)=x_5∧∃(zs:List Int),Ad [x_5]=Ad zs∧Bt Ba∧AW (List.length i.2.2.2.2.1+List.length zs) (8:Nat)∧cA Ca [srd x_4.1 (Ah (xh x_4) {kind:=x_4.2.2.2.2.2.1,text:=x_4.2.2.2.2.2.2.1,kids:=x_4.2.2.2.2.2.2.2,blank:=false}),.str #[(44:UInt8)].toList] fun x_6 y=>Aa (!isG x_6.1.sg (xh x_6) (4:Int) x_6.2.2.2.2.2) (cA BM [srd x_6.1 (Ai x_6.1.sg (xh x_6) x_6.2.2.2.2.2),.str #[(41:UInt8)].toList] fun x_7 y=>rA FT x [Ad (i.2.2.2.2.1++zs),srd x_7.1 (Al x_7.1.sg (xh x_7) x_7.2.2.2.2.2)]) (eN (QR x) i [srd x_6.1 (Ai x_6.1.sg (xh x_6) x_6.2.2.2.2.2),Ad (i.2.2.2.2.1++zs)])) (rA FT x [Ad i.2.2.2.2.1,srd x_2.1 (Ai x_2.1.sg (xh x_2) x_2.2.2.2.2.2)])) (rA FT x [Ad i.2.2.2.2.1,srd x.1 (iG i)])) (fun x=>by kernel_rfl) fun(x:ST×Int×Int×Bool×List Nd) (hx:rOk x.1 (xg x))=>(by
 dsimp only[cA,eA,eN,QR,Bf,Ad,As,rA,Ca,FT,Bm,CA,BM,Br,sgs,srd,Av,Az,mvL,lnL,mvE,lnE,BA]
 obtain⟨s,p,d,b,ns⟩:=x;dsimp only[xg,xh] at hx ⊢
 have h1:rOk s ⟨p,d,b,ns⟩:=hx;have hs:=h1.1
 have t:=DX (m:=[40]) h1
 (repeat' first|(with_reducible first|rfl|exact True.intro|apply AK|apply And.intro|((first|apply AA|apply AI|apply AB|apply AJ)<;>intro _))|(apply Ax<;>intro _)|apply AH|refine Af () ?_ ?_|((first|apply AO|apply AN|apply AM|apply AL|apply AG|apply AF|apply AE|apply AD|apply AC)<;>try dsimp only)|apply Af|(refine Prod.forall.2 ?_;intro _;try dsimp only)|(intro _;try dsimp only))
 all_goals(try dsimp only[xg,xh,yG,yS,iG] at*)
 all_goals(try simp only[CG] at*)
 all_goals first
  |(show Nat;skip)
  |rfl
  |exact h1
  |omega
  |exact a1z t.1.2
  |exact IV hs ‹_›
  |exact Fc (IV hs ‹_›)
  |exact GW (Fc (IV hs ‹_›)) (by omega)
  |exact UG (IV hs ‹_›)
  |exact Fc (UG (IV hs ‹_›))
  |exact(QO ‹_› ‹_› (Mu (IV hs ‹_›)) ‹_›).1
  |exact a1A (ks0:=[]) hs ‹_› ‹_› (Mu (IV hs ‹_›)) ‹_›
  |exact a1B (ks0:=[]) hs ‹_› ‹_›
  |exact a1C (ks0:=[]) hs ‹_› ‹_›
  |(have hq:=NZ hs (show lqJ _ _ _ _ _ _ _ by assumption);(try simp only[AW,List.length_append,List.length_cons,List.length_nil]);omega)
  |skip
 all_goals first
  |exact(QO ‹_› ‹_› (Mu (IV hs ‹_›)) ‹_›).2
  |skip)
end Go.My
end
section
set_option linter.unusedVariables false
set_option linter.unusedSimpArgs false
namespace Go.My
open Go.Eng Go.Proofs
variable {G:GInv}
theorem IW{sg:List Sg}{x:Gs}{k:Int}(h:kdG sg x k=false)(hk:k≠1):(pkG sg x 0).kind≠k:=by
 rw[NX hk] at h;simpa using h
theorem b0U{sg:List Sg}{x:Gs}{n:Nat}{k:Int}{y:Gs}(hs:sgB sg)(h:gsOk sg x)(h1:kdG sg x 1=false)(hk:(pkG sg x 0).kind=1)(hy:y=Bc x):Ae sg x (pE sg (n+1) .base) (k,y):=by
 have a:=TG (n:=n) hs h hk
 rw[Ii] at h1
 rw[Da,Cu,if_neg (by simp [h1]),if_neg (by simp [h1])] at a
 subst hy
 exact Ms a h rfl (Int.le_refl _) rfl (fun hb=>by simp [Bc] at hb)
theorem b0V{sg:List Sg}{x:Gs}{n:Nat}(hs:sgB sg)(h:gsOk sg x)(h1:kdG sg x 1=true):Ae sg x (pE sg (n+1) .base) (Au (Bd sg x 1),Ah (Bd sg x 1) ⟨1,Bv sg x 1,[],false⟩):=by
 have hn:=h1
 rw[Ii] at hn
 have a:=TG (n:=n) hs h (by simp [nmG] at hn;exact hn.1)
 rw[Da,Cu,if_pos hn,if_pos hn] at a
 exact Mt hs h (by omega) h1 a
theorem a1D{sg:List Sg}{x:Gs}{n:Nat}{k:Int}(hs:sgB sg)(h:gsOk sg x)(hk:k=2∨k=3)(h1:kdG sg x k=true):Ae sg x (pE sg (n+1) .base) (Au (Bd sg x k),Ah (Bd sg x k) ⟨k,Bv sg x k,[],false⟩):=by
 have hn:=h1
 rw[NX (by omega)] at hn
 exact Mt hs h (by omega) h1 (TH hs h (by simpa using hn) hk)
theorem UJ{sg:List Sg}{x:Gs}{m:List UInt8}(hq:isG sg x 4 m=true):(pkG sg x 0).kind≠1:=by
 simp [isG] at hq;rw[hq.1];omega
theorem b0W{s:ST}{x:Gs}{n:Nat}{v:List Int×Gs}(h:rOk s x)(h1:kdG s.sg x 1=false)(h2:kdG s.sg x 2=false)(h3:kdG s.sg x 3=false)(hq:isG s.sg x 4 [91]=true)(hv:vlQ s.sg (pE s.sg n .value) [93] [] (Ai s.sg x [91]) v):
 Ae s.sg x (pE s.sg (n+1) .base) (Au v.2,Ah v.2 ⟨4,[],v.1,false⟩):=by
 rw[CU hq] at hv
 obtain⟨l,⟨a,b⟩,rfl⟩:=hv
 exact HD a.1 ⟨by simp,by simp;omega⟩ (Zs h.2 (UJ hq) (IW h2 (by omega)) (IW h3 (by omega)) hq a b)
theorem b0X{s:ST}{x:Gs}{n:Nat}{v:List Int×Gs}{z:Int×Gs}(hm:sgM s.sg)(h:rOk s x)(h1:kdG s.sg x 1=false)(h2:kdG s.sg x 2=false)(h3:kdG s.sg x 3=false)(hn:isG s.sg x 4 [91]=false)(ha:arG s.sg (Ai s.sg x [91])=true)
 (hv:vlQ s.sg (Bu s.sg) [41] [] (Al s.sg (Ai s.sg x [91]) [40]) v) (hz:Ae s.sg (Al s.sg v.2 [61,62]) (pE s.sg n .pick) z):Ae s.sg x (pE s.sg (n+1) .base) (Au z.2,Ah z.2 ⟨9,[],v.1++[z.1],false⟩):=by
 rw[CT hn] at ha hv
 simp only[arG,Bool.and_eq_true] at ha
 obtain⟨l,⟨a,b⟩,rfl⟩:=hv
 refine b0K hm h.2 (UJ ha.1) (IW h2 (by omega)) (IW h3 (by omega)) hn ha.1 (fun s0 hs=> ?_) (Zv (l:=l) h.2 a b hz)
 obtain⟨_,rfl⟩:=Eh.1 hs;exact ha.2
theorem b0Y{s:ST}{x:Gs}{n:Nat}{z:Int×Gs}(hm:sgM s.sg)(h:rOk s x)(h1:kdG s.sg x 1=false)(h2:kdG s.sg x 2=false)(h3:kdG s.sg x 3=false)(hn:isG s.sg x 4 [91]=false)(ha:arG s.sg (Ai s.sg x [91])=false)(hb:(Al s.sg (Ai s.sg x [91]) [40]).bad=false)
 (hz:Ae s.sg (Al s.sg (Ai s.sg x [91]) [40]) (pE s.sg n .value) z):Ae s.sg x (pE s.sg (n+1) .base) (Au (Al s.sg z.2 [41]),Ah (Al s.sg z.2 [41]) ⟨11,[],[z.1],false⟩):=by
 rw[CT hn] at ha hb hz
 have hq:isG s.sg x 4 [40]=true:=by
  cases hq:isG s.sg x 4 [40] with
  |true=>rfl
  |false=>rw[NY hq] at hb;cases hb
 rw[IU hq] at hz
 simp only[arG,hq,Bool.true_and] at ha
 refine b0L hm h.2 (UJ hq) (IW h2 (by omega)) (IW h3 (by omega)) hn hq (fun s0 hs=> ?_) hz
 obtain⟨_,rfl⟩:=Eh.1 hs;exact ha
theorem b0Z{s:ST}{x:Gs}{n:Nat}{k:Int}(h:rOk s x)(h1:kdG s.sg x 1=false)(h2:kdG s.sg x 2=false)(h3:kdG s.sg x 3=false)(hn:isG s.sg x 4 [91]=false)(hx:x.bad=false)(hb:(Al s.sg (Ai s.sg x [91]) [40]).bad=true):
 Ae s.sg x (pE s.sg (n+1) .base) (k,Al s.sg (Ai s.sg x [91]) [40]):=by
 rw[CT hn] at hb ⊢
 have hq:isG s.sg x 4 [40]=false:=by
  cases hq:isG s.sg x 4 [40] with
  |false=>rfl
  |true=>rw[IU hq] at hb;simp only[Aj] at hb;rw[hx] at hb;cases hb
 rw[NY hq]
 rcases Classical.em ((pkG s.sg x 0).kind=1) with e|e
 ·exact b0U h.1 h.2 h1 e rfl
 ·exact Zu h.2 e (IW h2 (by omega)) (IW h3 (by omega)) hn hq
theorem b1a{s:ST}{x:Gs}{n:Nat}(hx:wQ 1 (n+1) s x)(hq:isG s.sg x 4 [91]=true):wQ 11 n s (Ai s.sg x [91]):=by
 rw[CU hq];exact⟨(PW hq (by omega) hx.1.1.1 hx.1.1.2 hx.1.2 (by omega)).1,hx.2⟩
theorem b1b{s:ST}{x:Gs}{n:Nat}{v:List Int×Gs}(hx:wQ 1 (n+1) s x)(hn:isG s.sg x 4 [91]=false)(ha:arG s.sg (Ai s.sg x [91])=true)(hv:vlQ s.sg (Bu s.sg) [41] [] (Al s.sg (Ai s.sg x [91]) [40]) v):vQ 10 n s (Al s.sg v.2 [61,62]):=by
 rw[CT hn] at ha hv
 simp only[arG,Bool.and_eq_true] at ha
 obtain⟨l,a,rfl⟩:=hv
 exact⟨ZB (x:=x) (n:=n) (l:=l) hx.1.1.1 (hx.1.1.2 (Ct ha.1 (by omega)).1) ha.1 (by have:=hx.1.2;omega) a,hx.2⟩
theorem b1c{s:ST}{x:Gs}{n:Nat}(hx:wQ 1 (n+1) s x)(hn:isG s.sg x 4 [91]=false)(hb:(Al s.sg (Ai s.sg x [91]) [40]).bad=false):vQ 11 n s (Al s.sg (Ai s.sg x [91]) [40]):=by
 rw[CT hn] at hb ⊢
 have hq:isG s.sg x 4 [40]=true:=by
  cases hq:isG s.sg x 4 [40] with
  |true=>rfl
  |false=>rw[NY hq] at hb;cases hb
 rw[IU hq];exact⟨(PW hq (by omega) hx.1.1.1 hx.1.1.2 hx.1.2 (by omega)).2,hx.2⟩
theorem UK{s:ST}{one:Ps→PR}{m:List UInt8}{ks0:List Int}{x:Gs}{y:List Int×Gs}(hs:sgB s.sg)(h:vlQ s.sg one m ks0 x y):rOk s y.2:=(UE hs h).1
theorem UL{s:ST}{one:Ps→PR}{m:List UInt8}{ks0:List Int}{x:Gs}{y:List Int×Gs}(hs:sgB s.sg)(h:vlQ s.sg one m ks0 x y):y.1.length≤ks0.length+3001:=(UE hs h).2.1
def eqJ(sg:List Sg)(n:Nat)(x y:Gs)(k:Int)(N:Nat):Prop:=enI sg n x y k N∧(y.bad=false→y.deep≤20)
theorem b1d{s:ST}{x:Gs}{n:Nat}{z:Int×Gs}(hx:wQ 2 (n+1) s x)(hz:Ae s.sg x (pE s.sg n .base) z):eqJ s.sg n x z.2 z.1 (s.sg.length+1):=TO hx.1.1.1 hx.1.1.2 hz
theorem a1E{s:ST}{x y:Gs}{n:Nat}{k:Int}{N:Nat}(hx:wQ 2 (n+1) s x)(h:eqJ s.sg n x y k N):rOk s y:=⟨hx.1.1.1.1,h.1.1.1⟩
theorem b1e{s:ST}{x y:Gs}{n:Nat}{k:Int}{N:Nat}(hx:wQ 2 (n+1) s x)(h:eqJ s.sg n x y k N)(hq:isG s.sg y 4 [40]=true):wQ 11 n s (Ai s.sg y [40]):=by
 have hb:=(Ct hq (by omega)).1
 have:=h.1.2.2 hb;have:=hx.1.2
 have hl:=Ct hq (by omega)
 rw[CU hq]
 have e1:(Aj y).pos=y.pos+1:=rfl
 have e2:(Aj y).deep=y.deep:=rfl
 exact⟨⟨⟨⟨hx.1.1.1.1,EL h.1.1.1 hl.2⟩,fun _=>by rw[e2];exact h.2 hb⟩,by omega⟩,hx.2⟩
theorem a1F{s:ST}{x y:Gs}{n:Nat}{k:Int}{N:Nat}{v:List Int×Gs}(hx:wQ 2 (n+1) s x)(h:eqJ s.sg n x y k N)(hq:isG s.sg y 4 [40]=true)(hv:vlQ s.sg (pE s.sg n .value) [41] [k] (Ai s.sg y [40]) v):
 eqJ s.sg n x (Ah v.2 ⟨5,[],v.1,false⟩) (Au v.2) (N-1)∧N-1<N:=by
 rw[CU hq,←IU hq] at hv
 have hw:=a1v h.1.1.1 hv
 exact PX h hw hq
theorem a1G{s:ST}{x y:Gs}{n:Nat}{k:Int}{N:Nat}(hx:wQ 2 (n+1) s x)(h:eqJ s.sg n x y k N)(hp:isG s.sg y 4 [40]=false)(hq:isG s.sg (Ai s.sg y [40]) 4 [46]=true):
 eqJ s.sg n x (Ah (Bd s.sg (Ai s.sg (Ai s.sg y [40]) [46]) 1) ⟨6,Bv s.sg (Ai s.sg (Ai s.sg y [40]) [46]) 1,[k],false⟩) (Au (Bd s.sg (Ai s.sg (Ai s.sg y [40]) [46]) 1)) (N-1)∧N-1<N:=by
 rw[CT hp] at hq ⊢
 rw[CU hq]
 obtain⟨a,b⟩:=b0G hx.1.1.1.1 h.1 hp hq
 refine⟨⟨a,fun _=> ?_⟩,b⟩
 rw[PZ]
 have:=h.2 (Ct hq (by omega)).1
 have e:(Bd s.sg (Aj y) 1).deep=y.deep:=by unfold Bd;split<;>rfl
 omega
theorem UM{s:ST}{x y:Gs}{n:Nat}{k:Int}{N:Nat}(hx:wQ 2 (n+1) s x)(h:eqJ s.sg n x y k N):rOk s (Ai s.sg y [40])∧rOk s (Ai s.sg (Ai s.sg y [40]) [46])∧rOk s (Bd s.sg (Ai s.sg (Ai s.sg y [40]) [46]) 1):=
 have a:=Fc (m:=[40]) (a1E hx h)
 ⟨a,Fc a,GW (Fc a) (by omega)⟩
theorem b1f{s:ST}{x y:Gs}{n:Nat}{k:Int}{N:Nat}(h:eqJ s.sg n x y k N)(hb:y.bad=true):Ae s.sg x (pE s.sg (n+1) .fin) (k,y):=Zn h.1 hb
theorem b1g{s:ST}{x y:Gs}{n:Nat}{k:Int}{N:Nat}(h:eqJ s.sg n x y k N)(hb:y.bad=false)(hp:isG s.sg y 4 [40]=false)(hq:isG s.sg (Ai s.sg y [40]) 4 [46]=false):Ae s.sg x (pE s.sg (n+1) .fin) (k,Ai s.sg (Ai s.sg y [40]) [46]):=by
 rw[CT hp] at hq ⊢
 rw[CT hq];exact Zq h.1 hb hp hq
attribute [local irreducible] pE Bg CL fnR Ae Bh gsOk Al Bn Ah BW CS Ai Cu Da Au Bw pkG isG nmG kdG Bd Bv Bu vlQ lqJ saI arG eqJ
def Ij(n:Nat):Sig:= {X:=ST×Int×Int×Bool×List Nd,args:=fun x=>[srd x.1 (xg x)],pre:=fun x=>wQ 1 (n+1) x.1 (xg x),Y:=Int×Int×Int×Bool×List Nd,post:=fun x y=>Ae x.1.sg (xg x) (pE x.1.sg (n+1) .base) (yS y),res:=fun x y=> .int .i64 y.1,outs:=fun x y=>[srd x.1 (yG y.2)],keep:=true}
theorem b1h(n:Nat)(h:qAll G n):Aq G Tryz.prog 191 (Ij n):=
 vcFun_okP [(68,0,DP),(69,0,CA),(43,0,Bm),(73,0,Ca),(143,0,(FS n)),(195,0,DQ),(74,0,FT),(72,0,BM),(142,0,(Gr n)),(107,0,(Lc n))] [(45,⟨Int,Ba⟩)] false (fun x=>[]) Tryz.func191 rfl (by decide) ⟨QG,JQ,GV,GU,(UH n h),b0T,UI,HC,h.pick,h.val,trivial⟩ (fun(x:ST×Int×Int×Bool×List Nd)=>True∧Aa (xg x).bad (rA (Ij n) x [.int .i64 (0:Int),srd x.1 (xg x)]) (cA DP [srd x.1 (xg x),.int .i64 (1:Int)] fun x_1 y=>Aa (kdG x_1.1.sg (xh x_1) x_1.2.2.2.2.2) (cA CA [srd x_1.1 (xh x_1),.int .i64 (1:Int)] fun x_2 y=>cA Bm [srd x_2.1 (Bd x_2.1.sg (xh x_2) x_2.2.2.2.2.2),.int .i64 (1:Int),.str (Bv x_2.1.sg (xh x_2) x_2.2.2.2.2.2),Ad []] fun x_3 y=>rA (Ij n) x [.int .i64 (Au (xh x_3)),srd x_3.1 (Ah (xh x_3) {kind:=x_3.2.2.2.2.2.1,text:=x_3.2.2.2.2.2.2.1,kids:=x_3.2.2.2.2.2.2.2,blank:=false})]) (cA DP [srd x_1.1 (xh x_1),.int .i64 (2:Int)] fun x_2 y=>Aa (kdG x_2.1.sg (xh x_2) x_2.2.2.2.2.2) (cA CA [srd x_2.1 (xh x_2),.int .i64 (2:Int)] fun x_3 y=>cA Bm [srd x_3.1 (Bd x_3.1.sg (xh x_3) x_3.2.2.2.2.2),.int .i64 (2:Int),.str (Bv x_3.1.sg (xh x_3) x_3.2.2.2.2.2),Ad []] fun x_4 y=>rA (Ij n) x [.int .i64 (Au (xh x_4)),srd x_4.1 (Ah (xh x_4) {kind:=x_4.2.2.2.2.2.1,text:=x_4.2.2.2.2.2.2.1,kids:=x_4.2.2.2.2.2.2.2,blank:=false})]) (cA DP [srd x_2.1 (xh x_2),.int .i64 (3:Int)] fun x_3 y=>Aa (kdG x_3.1.sg (xh x_3) x_3.2.2.2.2.2) (cA CA [srd x_3.1 (xh x_3),.int .i64 (3:Int)] fun x_4 y=>cA Bm [srd x_4.1 (Bd x_4.1.sg (xh x_4) x_4.2.2.2.2.2),.int .i64 (3:Int),.str (Bv x_4.1.sg (xh x_4) x_4.2.2.2.2.2),Ad []] fun x_5 y=>rA (Ij n) x [.int .i64 (Au (xh x_5)),srd x_5.1 (Ah (xh x_5) {kind:=x_5.2.2.2.2.2.1,text:=x_5.2.2.2.2.2.2.1,kids:=x_5.2.2.2.2.2.2.2,blank:=false})]) (cA Ca [srd x_3.1 (xh x_3),.str #[(91:UInt8)].toList] fun x_4 y=>Aa (isG x_4.1.sg (xh x_4) (4:Int) x_4.2.2.2.2.2) (cA (FS n) [srd x_4.1 (Ai x_4.1.sg (xh x_4) x_4.2.2.2.2.2),.str #[(93:UInt8)].toList,Ad []] fun x_5 y=>cA Bm [srd x_5.1 (yG y.2),.int .i64 (4:Int),.str #[].toList,Ad y.1] fun x_6 y=>rA (Ij n) x [.int .i64 (Au (xh x_6)),srd x_6.1 (Ah (xh x_6) {kind:=x_6.2.2.2.2.2.1,text:=x_6.2.2.2.2.2.2.1,kids:=x_6.2.2.2.2.2.2.2,blank:=false})]) (cA DQ [srd x_4.1 (Ai x_4.1.sg (xh x_4) x_4.2.2.2.2.2)] fun x_5 y=>Aa (arG x_5.1.sg (xg x_5)) (cA FT [srd x_5.1 (xg x_5)] fun x_6 y=>cA BM [srd x_6.1 (yG y.2),.str #[(61:UInt8),(62:UInt8)].toList] fun x_7 y_1=>cA (Gr n) [srd x_7.1 (Al x_7.1.sg (xh x_7) x_7.2.2.2.2.2)] fun x_8 y_2=>∃(x_9:Int),y_2.1=x_9∧∃(zs:List Int),Ad [x_9]=Ad zs∧Bt Ba∧AW (List.length y.1+List.length zs) (8:Nat)∧cA Bm [srd x_8.1 (yG y_2.2),.int .i64 (9:Int),.str #[].toList,Ad (y.1++zs)] fun x_10 y=>rA (Ij n) x [.int .i64 (Au (xh x_10)),srd x_10.1 (Ah (xh x_10) {kind:=x_10.2.2.2.2.2.1,text:=x_10.2.2.2.2.2.2.1,kids:=x_10.2.2.2.2.2.2.2,blank:=false})]) (cA BM [srd x_5.1 (xg x_5),.str #[(40:UInt8)].toList] fun x_6 y=>Aa (Al x_6.1.sg (xh x_6) x_6.2.2.2.2.2).bad (rA (Ij n) x [.int .i64 (0:Int),srd x_6.1 (Al x_6.1.sg (xh x_6) x_6.2.2.2.2.2)]) (cA (Lc n) [srd x_6.1 (Al x_6.1.sg (xh x_6) x_6.2.2.2.2.2)] fun x_7 y=>cA BM [srd x_7.1 (yG y.2),.str #[(41:UInt8)].toList] fun x_8 y_1=>∃(x_9:Int),y.1=x_9∧cA Bm [srd x_8.1 (Al x_8.1.sg (xh x_8) x_8.2.2.2.2.2),.int .i64 (11:Int),.str #[].toList,Ad [x_9]] fun x_10 y=>rA (Ij n) x [.int .i64 (Au (xh x_10)),srd x_10.1 (Ah (xh x_10) {kind:=x_10.2.2.2.2.2.1,text:=x_10.2.2.2.2.2.2.1,kids:=x_10.2.2.2.2.2.2.2,blank:=false})])))))))) (fun x=>by kernel_rfl) fun(x:ST×Int×Int×Bool×List Nd) (hx:wQ 1 (n+1) x.1 (xg x))=>(by
 dsimp only[cA,Bf,Ad,As,rA,DQ,Ij,DP,Ca,FT,Gr,Bm,CA,Lc,FS,BM,Br,sgs,srd,Av,Az,mvL,lnL,mvE,lnE]
 obtain⟨s,p,d,b,ns⟩:=x;dsimp only[xg,xh] at hx ⊢
 have hx:wQ 1 (n+1) s ⟨p,d,b,ns⟩:=hx
 have h1:=hx.1.1.1;have hs:=h1.1
 (repeat' first|(with_reducible first|rfl|exact True.intro|apply AK|apply And.intro|((first|apply AA|apply AI|apply AB|apply AJ)<;>intro _))|(apply Ax<;>intro _)|apply AH|refine Af () ?_ ?_|((first|apply AO|apply AN|apply AM|apply AL|apply AG|apply AF|apply AE|apply AD|apply AC)<;>try dsimp only)|apply Af|(refine Prod.forall.2 ?_;intro _;try dsimp only)|(intro _;try dsimp only))
 all_goals(try dsimp only[xg,xh,yG,yS,iG] at*)
 all_goals(try simp only[CG] at*)
 all_goals first
  |rfl
  |exact h1
  |omega
  |(simp;done)
  |exact a1u h1.2 ‹_›
  |exact b0V hs h1.2 ‹_›
  |exact a1D hs h1.2 (.inl rfl) ‹_›
  |exact a1D hs h1.2 (.inr rfl) ‹_›
  |exact GW h1 (by omega)
  |exact b1a hx ‹_›
  |exact b0W h1 ‹_› ‹_› ‹_› ‹_› ‹_›
  |exact UK hs ‹_›
  |exact Fc h1
  |exact b1b hx ‹_› ‹_› ‹_›
  |exact b1c hx ‹_› ‹_›
  |exact(DX (Fc h1)).1
  |exact Dg h1 ‹_›
  |exact(DX (Dg h1 ‹_›)).1
  |exact b0X hx.2 h1 ‹_› ‹_› ‹_› ‹_› ‹_› ‹_› ‹_›
  |exact b0Y hx.2 h1 ‹_› ‹_› ‹_› ‹_› ‹_› ‹_› ‹_›
  |exact b0Z h1 ‹_› ‹_› ‹_› ‹_› ‹_› ‹_›
  |(have hq:=UL hs (show vlQ _ _ _ [] _ _ by assumption);(try simp only[AW,List.length_append,List.length_cons,List.length_nil] at*);omega)
  |skip)
def QS(n:Nat):Sig:= {X:=ST×Int×Int×Bool×List Nd,args:=fun x=>[srd x.1 (xg x)],pre:=fun x=>wQ 2 (n+1) x.1 (xg x),Y:=Int×Int×Int×Bool×List Nd,post:=fun x y=>Ae x.1.sg (xg x) (pE x.1.sg (n+1) .fin) (yS y),res:=fun x y=> .int .i64 y.1,outs:=fun x y=>[srd x.1 (yG y.2)],keep:=true}
def Oa(n:Nat)(x:ST×Int×Int×Bool×List Nd):LS:= {ι:=Int×Int×Bool×List Nd×Int×Nat,inv:=fun i=>eqJ x.1.sg n (xg x) (iG i) i.2.2.2.2.1 i.2.2.2.2.2,regs:=fun i=>[(0,srd x.1 (iG i)),(3,.int .i64 i.2.2.2.2.1)],als:=[],meas:=fun i=>i.2.2.2.2.2}
theorem b1i(n:Nat)(h:qAll G n):Aq G Tryz.prog 185 (QS n):=
 vcFun_okP [(191,0,(QN n)),(73,0,Ca),(143,0,(FS n)),(43,0,Bm),(69,0,CA)] [(45,⟨Int,Ba⟩)] false (fun x=>[(2,Oa n x)]) Tryz.func185 rfl (by decide) ⟨h.base,GU,(UH n h),GV,JQ,trivial⟩ (fun(x:ST×Int×Int×Bool×List Nd)=>True∧cA (QN n) [srd x.1 (xg x)] fun x_1 y=>eA (Oa n x) [srd x_1.1 (yG y.2),.int .i64 y.1]∧∀(i:Int×Int×Bool×List Nd×Int×Nat),eqJ x.1.sg n (xg x) (iG i) i.2.2.2.2.1 i.2.2.2.2.2→Aa (!(iG i).bad) (cA Ca [srd x.1 (iG i),.str #[(40:UInt8)].toList] fun x_2 y=>Aa (isG x_2.1.sg (xh x_2) (4:Int) x_2.2.2.2.2.2) (∃(x_3:Int),i.2.2.2.2.1=x_3∧cA (FS n) [srd x_2.1 (Ai x_2.1.sg (xh x_2) x_2.2.2.2.2.2),.str #[(41:UInt8)].toList,Ad [x_3]] fun x_4 y=>cA Bm [srd x_4.1 (yG y.2),.int .i64 (5:Int),.str #[].toList,Ad y.1] fun x_5 y=>eN (Oa n x) i [srd x_5.1 (Ah (xh x_5) {kind:=x_5.2.2.2.2.2.1,text:=x_5.2.2.2.2.2.2.1,kids:=x_5.2.2.2.2.2.2.2,blank:=false}),.int .i64 (Au (xh x_5))]) (cA Ca [srd x_2.1 (Ai x_2.1.sg (xh x_2) x_2.2.2.2.2.2),.str #[(46:UInt8)].toList] fun x_3 y=>Aa (isG x_3.1.sg (xh x_3) (4:Int) x_3.2.2.2.2.2) (cA CA [srd x_3.1 (Ai x_3.1.sg (xh x_3) x_3.2.2.2.2.2),.int .i64 (1:Int)] fun x_4 y=>∃(x_5:Int),i.2.2.2.2.1=x_5∧cA Bm [srd x_4.1 (Bd x_4.1.sg (xh x_4) x_4.2.2.2.2.2),.int .i64 (6:Int),.str (Bv x_4.1.sg (xh x_4) x_4.2.2.2.2.2),Ad [x_5]] fun x_6 y=>eN (Oa n x) i [srd x_6.1 (Ah (xh x_6) {kind:=x_6.2.2.2.2.2.1,text:=x_6.2.2.2.2.2.2.1,kids:=x_6.2.2.2.2.2.2.2,blank:=false}),.int .i64 (Au (xh x_6))]) (rA (QS n) x [.int .i64 i.2.2.2.2.1,srd x_3.1 (Ai x_3.1.sg (xh x_3) x_3.2.2.2.2.2)]))) (rA (QS n) x [.int .i64 i.2.2.2.2.1,srd x.1 (iG i)])) (fun x=>by kernel_rfl) fun(x:ST×Int×Int×Bool×List Nd) (hx:wQ 2 (n+1) x.1 (xg x))=>(by
 dsimp only[cA,eA,eN,Oa,Bf,Ad,As,rA,QN,QS,Ca,Bm,CA,FS,Br,sgs,srd,Av,Az,mvL,lnL,mvE,lnE,BA]
 obtain⟨s,p,d,b,ns⟩:=x;dsimp only[xg,xh] at hx ⊢
 have hx:wQ 2 (n+1) s ⟨p,d,b,ns⟩:=hx
 have h1:=hx.1.1.1;have hs:=h1.1
 (repeat' first|(with_reducible first|rfl|exact True.intro|apply AK|apply And.intro|((first|apply AA|apply AI|apply AB|apply AJ)<;>intro _))|(apply Ax<;>intro _)|apply AH|refine Af () ?_ ?_|((first|apply AO|apply AN|apply AM|apply AL|apply AG|apply AF|apply AE|apply AD|apply AC)<;>try dsimp only)|apply Af|(refine Prod.forall.2 ?_;intro _;try dsimp only)|(intro _;try dsimp only))
 all_goals(try dsimp only[xg,xh,yG,yS,iG] at*)
 all_goals(try simp only[CG] at*)
 all_goals first
  |(show Nat;skip)
  |rfl
  |exact⟨ZL hx.1.1.1 hx.1.1.2 hx.1.2,hx.2⟩
  |exact b1d hx ‹_›
  |exact a1E hx ‹_›
  |exact b1e hx ‹_› ‹_›
  |exact(UM hx ‹_›).1
  |exact(UM hx ‹_›).2.1
  |exact(UM hx ‹_›).2.2
  |exact UK hs ‹_›
  |exact(a1F hx ‹_› ‹_› ‹_›).1
  |exact(a1G hx ‹_› ‹_› ‹_›).1
  |exact b1f ‹_› ‹_›
  |exact b1g ‹_› ‹_› ‹_› ‹_›
  |omega
  |(simp;done)
  |skip
 all_goals first
  |exact(a1F hx ‹_› ‹_› ‹_›).2
  |exact(a1G hx ‹_› ‹_› ‹_›).2
  |skip)
end Go.My
end
