/- joined -/
import Derived.Test.YtglbamflbnldhaaGreatDoorQK
set_option linter.unusedSimpArgs false
set_option linter.unusedVariables false
section
namespace Go.My
open Go.Eng Go.Proofs
variable {G:GInv}
def Qx:List (List UInt8):=[[38,38],[124,124],[61,61],[61,62],[46,46]]
def Mx:List (List UInt8):=[[40],[41],[123],[125],[91],[93],[59],[44],[46],[61],[43],[45],[42],[60],[63],[58]]
def mks:List (List UInt8):=[[38,38],[124,124],[61,61],[61,62],[46,46],[40],[41],[123],[125],[91],[93],[59],[44],[46],[61],[43],[45],[42],[60],[63],[58]]
def Gk(s:List UInt8):List UInt8:=(mks.find? fun m=>s.take m.length==m).getD []
theorem Ym{s:List UInt8}{k:Nat}:∀ {l:List (List UInt8)},(∀m∈l,m.length=k)→l.find? (fun m=>s.take m.length==m)=if l.elem (s.take k) then some (s.take k) else none
 |[],_=>rfl
 |m::l,h=>by
  have hm:=h m (by simp)
  rw[List.find?_cons,List.elem_cons,hm]
  cases he:(s.take k==m) with
  |true=>
   have:s.take k=m:=by simpa using he
   simp [this]
  |false=>
   rw[Ym (l:=l) (fun m hm=>h m (by simp [hm]))]
theorem a6r{s:List UInt8}:Gk s=if Qx.elem (s.take 2) then s.take 2 else if Mx.elem (s.take 1) then s.take 1 else []:=by
 have e:mks=Qx++Mx:=rfl
 rw[Gk,e,List.find?_append,Ym (k:=2) (l:=Qx) (by decide),Ym (k:=1) (l:=Mx) (by decide)]
 split
 ·rfl
 ·split<;>rfl
theorem c0t{s:List UInt8}:Qx.elem s=mk2 s:=by
 rw[Bool.eq_iff_iff];simp [Qx,mk2]
theorem c0u{c:UInt8}:Mx.elem [c]=mk1.elem c:=by
 simp [Mx,mk1,List.elem_cons,List.elem_nil]
theorem a6s{c:UInt8}{s:List UInt8}:Gk (c::s)=if CL ((c::s).take 2) then(c::s).take 2 else if CL ((c::s).take 1) then(c::s).take 1 else []:=by
 rw[a6r,c0t]
 have h1:Mx.elem ((c::s).take 1)=CL ((c::s).take 1):=by
  show Mx.elem [c]=CL [c]
  rw[c0u]
  simp [CL,mk2]
 rw[h1]
 cases s with
 |nil=>
  show(if mk2 [c]=true then [c] else if CL [c]=true then [c] else [])=if CL [c]=true then [c] else if CL [c]=true then [c] else []
  have:mk2 [c]=false:=by simp [mk2]
  rw[this];simp
 |cons d r=>
  have:CL ((c::d::r).take 2)=mk2 ((c::d::r).take 2):=by
   show CL [c,d]=mk2 [c,d]
   simp [CL]
  rw[this]
def IJ(x:List UInt8×Int)(i:Int):Prop:=(0≤i∧i≤21)∧Gk (x.1.drop x.2.toNat)=((mks.drop i.toNat).find? fun m=>(x.1.drop x.2.toNat).take m.length==m).getD []
theorem c0v{x:List UInt8×Int}:IJ x 0:=⟨by omega,rfl⟩
theorem a6t{x:List UInt8×Int}{i:Int}{m:List UInt8}(h:IJ x i)(ha:mks[i.toNat]? =some m)(hg:((x.1.drop x.2.toNat).take m.length==m)=false):IJ x (i+1):=by
 have hlt:=(List.getElem?_eq_some_iff.1 ha).1
 have h21:mks.length=21:=rfl
 obtain⟨h1,h2⟩:=h
 refine⟨by omega,?_⟩
 rw[h2,List.drop_eq_getElem_cons hlt,(List.getElem?_eq_some_iff.1 ha).2,List.find?_cons_of_neg (by simpa using hg),show(i+1).toNat=i.toNat+1 by omega]
theorem c0w{x:List UInt8×Int}{i:Int}{m:List UInt8}(h:IJ x i)(ha:mks[i.toNat]? =some m)(hg:((x.1.drop x.2.toNat).take m.length==m)=true):m=Gk (x.1.drop x.2.toNat):=by
 have hlt:=(List.getElem?_eq_some_iff.1 ha).1
 rw[h.2,List.drop_eq_getElem_cons hlt,(List.getElem?_eq_some_iff.1 ha).2,List.find?_cons_of_pos (by simpa using hg)];rfl
theorem c0x{x:List UInt8×Int}{i:Int}(h:IJ x i)(hi:¬i<21):[]=Gk (x.1.drop x.2.toNat):=by
 have e:mks.drop i.toNat=[]:=List.drop_eq_nil_of_le (by have h21:mks.length=21:=rfl;rw[h21];omega)
 rw[h.2,e];rfl
theorem Ty{t:List UInt8}{a n:Int}(h0:0≤a)(hn:0≤n):List.drop a.toNat (List.take (a+n).toNat t)=(t.drop a.toNat).take n.toNat:=by
 rw[List.drop_take,show(a+n).toNat-a.toNat=n.toNat by omega]
theorem c0y{x:List UInt8×Int}{m:List UInt8}(h0:0≤x.2)(h2:x.2≤x.1.length)(hl:¬x.2+(m.length:Int)≤x.1.length):((x.1.drop x.2.toNat).take m.length==m)=false:=by
 have:((x.1.drop x.2.toNat).take m.length)≠m:=by
  intro e
  have:=congrArg List.length e
  simp at this;omega
 simpa using this
theorem c0z{x:List UInt8×Int}{m:List UInt8}(h0:0≤x.2)(h:List.drop (Int.toNat x.2) (List.take (Int.toNat (x.2+(m.length:Int))) x.1)=m):((x.1.drop x.2.toNat).take m.length==m)=true:=by
 rw[Ty h0 (by omega)] at h;simpa using h
theorem c0A{x:List UInt8×Int}{m:List UInt8}(h0:0≤x.2)(h:List.drop (Int.toNat x.2) (List.take (Int.toNat (x.2+(m.length:Int))) x.1)≠m):((x.1.drop x.2.toNat).take m.length==m)=false:=by
 rw[Ty h0 (by omega)] at h;simpa using h
theorem c0B{i:Int}{m:List UInt8}(ha:mks[i.toNat]? =some m):m.length≤2:=by
 have:∀m∈mks,m.length≤2:=by decide
 exact this m (List.mem_of_getElem? ha)
theorem a6u{x:List UInt8×Int}{i:Int}(h:IJ x i):0≤i∧i≤21:=h.1
attribute [local irreducible] IJ Gk
def Oq:Sig:= {X:=Unit,args:=fun x=>[],pre:=fun x=>True,Y:=Unit,post:=fun x y=>True,res:=fun x y=> .sl false 0 1 (List UInt8) Ck mks,outs:=fun x y=>[],keep:=true}
theorem c0C:Aj G Tryz.prog 108 Oq:=
 vcFun_okP [] [(91,⟨List UInt8,Ck⟩)] false (fun x=>[]) Tryz.func108 rfl (by decide) trivial (fun(x:Unit)=>True∧∃(x_1:List UInt8),#[(38:UInt8),(38:UInt8)].toList=x_1∧∃(x_2:List UInt8),#[(124:UInt8),(124:UInt8)].toList=x_2∧∃(x_3:List UInt8),#[(61:UInt8),(61:UInt8)].toList=x_3∧∃(x_4:List UInt8),#[(61:UInt8),(62:UInt8)].toList=x_4∧∃(x_5:List UInt8),#[(46:UInt8),(46:UInt8)].toList=x_5∧∃(x_6:List UInt8),#[(40:UInt8)].toList=x_6∧∃(x_7:List UInt8),#[(41:UInt8)].toList=x_7∧∃(x_8:List UInt8),#[(123:UInt8)].toList=x_8∧∃(x_9:List UInt8),#[(125:UInt8)].toList=x_9∧∃(x_10:List UInt8),#[(91:UInt8)].toList=x_10∧∃(x_11:List UInt8),#[(93:UInt8)].toList=x_11∧∃(x_12:List UInt8),#[(59:UInt8)].toList=x_12∧∃(x_13:List UInt8),#[(44:UInt8)].toList=x_13∧∃(x_14:List UInt8),#[(46:UInt8)].toList=x_14∧∃(x_15:List UInt8),#[(61:UInt8)].toList=x_15∧∃(x_16:List UInt8),#[(43:UInt8)].toList=x_16∧∃(x_17:List UInt8),#[(45:UInt8)].toList=x_17∧∃(x_18:List UInt8),#[(42:UInt8)].toList=x_18∧∃(x_19:List UInt8),#[(60:UInt8)].toList=x_19∧∃(x_20:List UInt8),#[(63:UInt8)].toList=x_20∧∃(x_21:List UInt8),#[(58:UInt8)].toList=x_21∧rA Oq x [AV.sl true 0 1 (List UInt8) Ck [x_1,x_2,x_3,x_4,x_5,x_6,x_7,x_8,x_9,x_10,x_11,x_12,x_13,x_14,x_15,x_16,x_17,x_18,x_19,x_20,x_21]]) (fun x=>by kernel_rfl) fun(x:Unit) (hx:True)=>(by
 dsimp only[rA,Oq,Au,Az]
 (repeat' first|(with_reducible first|rfl|exact True.intro|apply AK|apply And.intro|((first|apply AA|apply AI|apply AB|apply AJ)<;>intro _))|(apply Ax<;>intro _)|apply AH|refine Ae () ?_ ?_|((first|apply AO|apply AN|apply AM|apply AL|apply AG|apply AF|apply AE|apply AD|apply AC)<;>try dsimp only)|apply Ae|(refine Prod.forall.2 ?_;intro _;try dsimp only)|(intro _;try dsimp only))
 all_goals first
  |rfl
  |(simp [AY];done)
  |skip)
def Mz:Sig:= {X:=List UInt8×Int,args:=fun x=>[.str x.1,.int .i64 x.2],pre:=fun x=>0≤x.2∧x.2≤x.1.length∧x.1.length<2^62,Y:=Unit,post:=fun x y=>True,res:=fun x y=> .str (Gk (x.1.drop x.2.toNat)),outs:=fun x y=>[.top,.top],keep:=false}
def Qy(x:List UInt8×Int):LS:= {ι:=Int,inv:=fun i=>IJ x i,regs:=fun i=>[(0,.str x.1),(1,.int .i64 x.2),(5,.sl false 0 1 (List UInt8) Ck mks),(6,.int .i64 i)],als:=[],meas:=fun i=>21-i.toNat}
theorem c0D:Aj G Tryz.prog 88 Mz:=
 vcFun_okP [(108,0,Oq)] [(91,⟨List UInt8,Ck⟩)] false (fun x=>[(3,Qy x)]) Tryz.func88 rfl (by decide) ⟨c0C,trivial⟩ (fun(x:List UInt8×Int)=>(∀(y:Unit),True→True∧True∧True∧True)∧cA Oq [] fun x_1 y=>eA (Qy x) [.str x.1,.int .i64 x.2,AV.sl false 0 1 (List UInt8) Ck mks,.int .i64 (0:Int)]∧∀(i:Int),IJ x i→Aa (decide (i<(↑(21:Nat):Int))) (((0:Int)≤i∧i<(↑(21:Nat):Int))∧∀(e:List UInt8),mks[Int.toNat i]? =some e→true=true∧true=true∧inR IntKind.i64 (x.2+(↑(List.length e):Int))∧Aa (decide (x.2+(↑(List.length e):Int)≤(↑(List.length x.1):Int))) (inR IntKind.i64 (x.2+(↑(List.length e):Int))∧((0:Int)≤x.2∧x.2≤x.2+(↑(List.length e):Int)∧x.2+(↑(List.length e):Int)≤(↑(List.length x.1):Int))∧((0:Int)≤i∧i<(↑(21:Nat):Int))∧∀(e_1:List UInt8),mks[Int.toNat i]? =some e_1→Aa (List.drop (Int.toNat x.2) (List.take (Int.toNat (x.2+(↑(List.length e):Int))) x.1)==e_1) (((0:Int)≤i∧i<(↑(21:Nat):Int))∧∀(e:List UInt8),mks[Int.toNat i]? =some e→rA Mz x [.str e,.top,.top]) (inR IntKind.i64 (i+(1:Int))∧eN (Qy x) i [.str x.1,.int .i64 x.2,AV.sl false 0 1 (List UInt8) Ck mks,.int .i64 (i+(1:Int))])) (inR IntKind.i64 (i+(1:Int))∧eN (Qy x) i [.str x.1,.int .i64 x.2,AV.sl false 0 1 (List UInt8) Ck mks,.int .i64 (i+(1:Int))])) (rA Mz x [.str #[].toList,.top,.top])) (fun x=>by kernel_rfl) fun(x:List UInt8×Int) (hx:0≤x.2∧x.2≤x.1.length∧x.1.length<2^62)=>(by
 dsimp only[cA,eA,eN,Qy,rA,Mz,Oq,Au,Az,mvL,lnL,mvE,lnE,Br]
 obtain⟨h1,h2,h3⟩:=hx
 (repeat' first|(with_reducible first|rfl|exact True.intro|apply AK|apply And.intro|((first|apply AA|apply AI|apply AB|apply AJ)<;>intro _))|(apply Ax<;>intro _)|apply AH|refine Ae () ?_ ?_|((first|apply AO|apply AN|apply AM|apply AL|apply AG|apply AF|apply AE|apply AD|apply AC)<;>try dsimp only)|apply Ae|(refine Prod.forall.2 ?_;intro _;try dsimp only)|(intro _;try dsimp only))
 all_goals(try(repeat(rename mks[_]? =some _=>hq;revert hq;rename mks[_]? =some _=>hr;intro hq;rw[hr] at hq;cases hq)))
 all_goals first
  |rfl
  |exact c0v
  |exact a6t ‹_› ‹_› (c0y h1 h2 ‹_›)
  |exact a6t ‹_› ‹_› (c0A h1 ‹_›)
  |exact c0w ‹_› ‹_› (c0z h1 ‹_›)
  |exact c0x ‹_› (by omega)
  |(have hq:=a6u (show IJ _ _ by assumption);(try simp only[AQ]);omega)
  |(have hq:=a6u (show IJ _ _ by assumption);have hm:=c0B ‹_›;(try simp only[AQ]);omega)
  |skip)
def rwI(p:UInt8→Bool)(x:List UInt8×Int)(i:Int):Prop:=(x.2≤i∧i≤x.1.length)∧∀e∈(x.1.drop x.2.toNat).take (i-x.2).toNat,p e=true
theorem c0E{p:UInt8→Bool}{x:List UInt8×Int}(h:x.2≤x.1.length):rwI p x x.2:=by
 refine⟨⟨by omega,h⟩,fun e he=> ?_⟩
 rw[show(x.2-x.2).toNat=0 by omega] at he;simp at he
theorem Yn{p:UInt8→Bool}{x:List UInt8×Int}{i:Int}{c:UInt8}(h0:0≤x.2)(h:rwI p x i)(hi:i<x.1.length)(hc:x.1[i.toNat]? =some c)(hp:p c=true):rwI p x (i+1):=by
 obtain⟨⟨a,b⟩,h2⟩:=h
 exact⟨by omega,RH h2 (by rw[PC h0 a];exact hc) hp (by omega)⟩
theorem a6v{p:UInt8→Bool}{x:List UInt8×Int}{i:Int}(h0:0≤x.2)(h:rwI p x i)(he:¬i<x.1.length∨∃c,x.1[i.toNat]? =some c∧p c=false):((x.1.drop x.2.toNat).takeWhile p)=List.drop (Int.toNat x.2) (List.take (Int.toNat i) x.1)∧((((x.1.drop x.2.toNat).takeWhile p).length:Nat):Int)=i-x.2:=by
 obtain⟨⟨a,b⟩,h2⟩:=h
 have e:=JB h2 (by
  rcases he with he|⟨c,hc,hp⟩
  ·left;simp;omega
  ·right;exact⟨c,by rw[PC h0 a];exact hc,hp⟩)
 rw[←e,List.drop_take]
 refine⟨by congr 1;omega,?_⟩
 simp;omega
theorem c0F{p:UInt8→Bool}{x:List UInt8×Int}{i:Int}(h:rwI p x i):x.2≤i∧i≤x.1.length:=h.1
def sgR(x:List UInt8×Int)(k:Int)(t:List UInt8)(p:Int)(b:Bool)(n:Int):Prop:=
 ((Bd (x.1.drop x.2.toNat)).ok=true∧(k=(Bd (x.1.drop x.2.toNat)).kind∧t=(Bd (x.1.drop x.2.toNat)).text∧p=x.2∧b=false)∧n=(Bd (x.1.drop x.2.toNat)).size)∨((Bd (x.1.drop x.2.toNat)).ok=false∧n=0)
theorem Tz{x:List UInt8×Int}{c:UInt8}(hc:x.1[x.2.toNat]? =some c):x.1.drop x.2.toNat=c::x.1.drop (x.2.toNat+1):=by
 have hlt:=(List.getElem?_eq_some_iff.1 hc).1
 rw[List.drop_eq_getElem_cons hlt,(List.getElem?_eq_some_iff.1 hc).2]
theorem c0G{x:List UInt8×Int}(h0:0≤x.2)(h:(Cv (x.1.drop x.2.toNat):Int)>0):sgR x 5 (CM (List.drop (Int.toNat x.2) (List.take (Int.toNat (x.2+(Cv (x.1.drop x.2.toNat):Int))) x.1))) x.2 false (Cv (x.1.drop x.2.toNat)):=by
 rw[Ty h0 (by omega)]
 unfold sgR
 generalize x.1.drop x.2.toNat=s at*
 unfold Cv at h ⊢
 split at h
 ·rename_i h2
  split at h
  ·rename_i hp
   rw[if_pos h2,if_pos hp]
   match s with
   |[]=>simp at h2
   |[_]=>simp at h2
   |b::c::r=>
    simp at h2
    obtain⟨rfl,rfl⟩:=h2
    left
    simp only[Bd,show Cx 47=false by decide,show Bj 47=false by decide,Bool.false_eq_true,if_false,show(47:UInt8).toNat≠39 by decide,List.take_succ_cons,List.take_zero,if_true]
    refine⟨hp,⟨trivial,?_,trivial,trivial⟩,trivial⟩
    congr 1
    have:=List.takeWhile_prefix Cl (l:=47::47::r)
    rw[Int.toNat_natCast]
    exact(List.prefix_iff_eq_take.1 this).symm
  ·simp at h
 ·simp at h
theorem c0H{s:List UInt8}{c:UInt8}(h:¬(Cv (c::s):Int)>0)(h2:(c::s).take 2=[47,47]):((c::s).takeWhile Cl).all Cm=false:=by
 cases hp:((c::s).takeWhile Cl).all Cm with
 |false=>rfl
 |true=>
  exfalso
  apply h
  rw[Cv,if_pos h2,if_pos hp]
  match s with
  |[]=>simp at h2
  |d::r=>
   simp at h2
   obtain⟨rfl,rfl⟩:=h2
   have:Cl 47=true:=by decide
   simp [List.takeWhile_cons,this];omega
theorem TA{x:List UInt8×Int}{i:Int}{c:UInt8}(h0:0≤x.2)(hc:x.1[x.2.toNat]? =some c)(hf:Cx c=true)(h:rwI BR x i)(he:¬i<x.1.length∨∃c,x.1[i.toNat]? =some c∧BR c=false):
 (i-x.2>30→sgR x 0 [] 0 false 0)∧(¬i-x.2>30→sgR x 1 (List.drop (Int.toNat x.2) (List.take (Int.toNat i) x.1)) x.2 false (i-x.2)):=by
 obtain⟨e1,e2⟩:=a6v h0 h he
 have e:=Tz hc
 have es:Bd (x.1.drop x.2.toNat)=⟨1,(x.1.drop x.2.toNat).takeWhile BR,((x.1.drop x.2.toNat).takeWhile BR).length,decide (((x.1.drop x.2.toNat).takeWhile BR).length≤30)⟩:=by
  rw[e];simp only[Bd,hf,if_true]
 unfold sgR
 rw[es]
 refine⟨fun h3=> .inr ⟨by simp;omega,rfl⟩,fun h3=> .inl ⟨by simp;omega,⟨rfl,e1.symm,rfl,rfl⟩,by simp only;omega⟩⟩
theorem Qz{x:List UInt8×Int}{i:Int}{c:UInt8}(h0:0≤x.2)(hc:x.1[x.2.toNat]? =some c)(hf:Cx c=false)(hg:Bj c=true)(h:rwI Bj x i)(he:¬i<x.1.length∨∃c,x.1[i.toNat]? =some c∧Bj c=false):
 (i-x.2>12→sgR x 0 [] 0 false 0)∧(¬i-x.2>12→sgR x 2 (List.drop (Int.toNat x.2) (List.take (Int.toNat i) x.1)) x.2 false (i-x.2)):=by
 obtain⟨e1,e2⟩:=a6v h0 h he
 have e:=Tz hc
 have es:Bd (x.1.drop x.2.toNat)=⟨2,(x.1.drop x.2.toNat).takeWhile Bj,((x.1.drop x.2.toNat).takeWhile Bj).length,decide (((x.1.drop x.2.toNat).takeWhile Bj).length≤12)⟩:=by
  rw[e];simp only[Bd,hf,hg,Bool.false_eq_true,if_false,if_true]
 unfold sgR
 rw[es]
 refine⟨fun h3=> .inr ⟨by simp;omega,rfl⟩,fun h3=> .inl ⟨by simp;omega,⟨rfl,e1.symm,rfl,rfl⟩,by simp only;omega⟩⟩
theorem c0I{x:List UInt8×Int}{c:UInt8}(h0:0≤x.2)(hc:x.1[x.2.toNat]? =some c)(hf:Cx c=false)(hg:Bj c=false)(hq:(c.toNat:Int)=39):
 sgR x 3 (List.drop (Int.toNat x.2) (List.take (Int.toNat (x.2+(CE (x.1.drop x.2.toNat):Int))) x.1)) x.2 false (CE (x.1.drop x.2.toNat)):=by
 rw[Ty h0 (by omega)]
 have e:=Tz hc
 have hq2:isQ c=true:=by simp [isQ];omega
 unfold sgR
 rw[e]
 have es:Bd (c::x.1.drop (x.2.toNat+1))=⟨3,(DD (c::x.1.drop (x.2.toNat+1))).1,(DD (c::x.1.drop (x.2.toNat+1))).1.length,(DD (c::x.1.drop (x.2.toNat+1))).2⟩:=by
  simp only[Bd,hf,hg,Bool.false_eq_true,if_false,show c.toNat=39 by omega,if_true]
 rw[es]
 by_cases hz:CE (c::x.1.drop (x.2.toNat+1))=0
 ·right
  refine⟨?_,by rw[hz];rfl⟩
  cases hb:(DD (c::x.1.drop (x.2.toNat+1))).2 with
  |false=>rfl
  |true=>exact((RG hq2).1 hb hz).elim
 ·left
  obtain⟨l1,l2⟩:=a1i hq2 hz
  refine⟨(RG hq2).2 hz,⟨rfl,?_,rfl,rfl⟩,?_⟩
  ·simp only[l1,Int.toNat_natCast]
  ·simp only[l1,List.length_take];omega
theorem c0J{x:List UInt8×Int}{c:UInt8}(h0:0≤x.2)(hc:x.1[x.2.toNat]? =some c)(hn:¬(Cv (x.1.drop x.2.toNat):Int)>0)(hf:Cx c=false)(hg:Bj c=false)(hq:(c.toNat:Int)≠39):
 sgR x 4 (Gk (x.1.drop x.2.toNat)) x.2 false (Gk (x.1.drop x.2.toNat)).length:=by
 have e:=Tz hc
 unfold sgR
 rw[e] at hn ⊢
 generalize x.1.drop (x.2.toNat+1)=s at*
 by_cases h2:(c::s).take 2=[47,47]
 ·right
  have e0:Gk (c::s)=[]:=by
   rw[a6s,h2,if_neg (by decide)]
   have:(c::s).take 1=[47]:=by
    have:=congrArg (List.take 1) h2
    simpa using this
   rw[this,if_neg (by decide)]
  have hp:=c0H hn h2
  refine⟨?_,by rw[e0];rfl⟩
  simp only[Bd,hf,hg,Bool.false_eq_true,if_false,if_neg (show¬c.toNat=39 by omega),h2,if_true]
  exact hp
 ·have es:Bd (c::s)=if CL ((c::s).take 2) then⟨4,(c::s).take 2,((c::s).take 2).length,true⟩ else if CL ((c::s).take 1) then⟨4,(c::s).take 1,1,true⟩ else⟨0,[],0,false⟩:=by
   simp only[Bd,hf,hg,Bool.false_eq_true,if_false,if_neg (show¬c.toNat=39 by omega),if_neg h2]
  rw[es,a6s]
  split
  ·left;exact⟨rfl,⟨rfl,rfl,rfl,rfl⟩,rfl⟩
  ·split
   ·left;exact⟨rfl,⟨rfl,rfl,rfl,rfl⟩,by simp⟩
   ·right;exact⟨rfl,rfl⟩
end Go.My
end
section
namespace Go.My
open Go.Eng Go.Proofs
variable {G:GInv}
def srd(s:ST)(g:Gs):AV:= .box 0 [sgs s.sg,.int .i64 g.pos,.bool g.bad,.int .i64 g.deep,Ba g.nodes]
theorem a6w{sg:List Sg}{g:Gs}(h:g.bad=true∨(sg.length:Int)≤g.pos):pkG sg g 0=ED:=b4w (by simpa using h)
theorem Yo{sg:List Sg}{g:Gs}{e:Sg}(he:sg[g.pos.toNat]? =some e)(hb:g.bad=false)(hl:g.pos<sg.length):pkG sg g 0=e:=b4x (by simpa using he) hb (by omega)
theorem a6x{sg:List Sg}{g:Gs}{k:Int}{t:List UInt8}(hk:k≠0)(h:g.bad=true∨(sg.length:Int)≤g.pos):isG sg g k t=false:=by
 simp [isG,a6w h,ED,Ne.symm hk]
theorem c0K{sg:List Sg}{g:Gs}{e:Sg}{k:Int}{t:List UInt8}(he:sg[g.pos.toNat]? =some e)(hb:g.bad=false)(hl:g.pos<sg.length):isG sg g k t=(decide (e.kind=k)&&(e.text==t)):=by
 rw[isG,Yo he hb hl]
def kdG(sg:List Sg)(g:Gs)(k:Int):Bool:=decide ((pkG sg g 0).kind=k)&&(decide (k≠1)|| !kw (pkG sg g 0).text)
theorem Ot{sg:List Sg}{g:Gs}{k:Int}(hk:k≠0)(h:g.bad=true∨(sg.length:Int)≤g.pos):kdG sg g k=false:=by
 simp [kdG,a6w h,ED,Ne.symm hk]
theorem a6y{sg:List Sg}{g:Gs}{e:Sg}{k:Int}(he:sg[g.pos.toNat]? =some e)(hb:g.bad=false)(hl:g.pos<sg.length):kdG sg g k=(decide (e.kind=k)&&(decide (k≠1)|| !kw e.text)):=by
 rw[kdG,Yo he hb hl]
theorem Jp{sg:List Sg}{g:Gs}:kdG sg g 1=nmG sg g 0:=by simp [kdG,nmG]
theorem TB{sg:List Sg}{g:Gs}{k:Int}(hk:k≠0)(h:kdG sg g k=true):g.bad=false∧g.pos<sg.length:=by
 cases hb:g.bad with
 |true=>rw[Ot hk (.inl hb)] at h;cases h
 |false=>
  refine⟨rfl,?_⟩
  rcases Int.lt_or_le g.pos sg.length with hh|hh
  ·exact hh
  ·rw[Ot hk (.inr hh)] at h;cases h
theorem c0L{e:Nd}{b:Bool}{q:Nd→Prop}(h:q ⟨e.kind,e.text,e.kids,b⟩):
 ∃x':Nd,([AV.int IntKind.i64 x'.kind,AV.str x'.text,AV.sl true 0 1 Int AZ x'.kids]=[AV.int IntKind.i64 e.kind,AV.str e.text,AV.sl true 0 1 Int AZ e.kids]∧(@List.nil AV)=[])∧b=x'.blank∧q x':=
 ⟨⟨e.kind,e.text,e.kids,b⟩,⟨rfl,rfl⟩,rfl,h⟩
def BD(sg:List Sg)(g:Gs)(m:List UInt8):Gs:=if isG sg g 1 m then An g else g
def Bh(sg:List Sg)(g:Gs)(k:Int):Gs:=if kdG sg g k then An g else Bw g
def BC(sg:List Sg)(g:Gs)(k:Int):List UInt8:=if kdG sg g k then(pkG sg g 0).text else []
def gBl(g:Gs)(k:Int)(b:Bool):Gs:=if g.bad=false∧k<g.nodes.length then⟨g.pos,g.deep,g.bad,g.nodes.set k.toNat ⟨(ndAt g.nodes k).kind,(ndAt g.nodes k).text,(ndAt g.nodes k).kids,b⟩⟩ else g
theorem c0M{g:Gs}{k:Int}{b:Bool}{e:Nd}(he:g.nodes[k.toNat]? =some e)(hb:g.bad=false)(hk:k<g.nodes.length):g.nodes.set k.toNat ⟨e.kind,e.text,e.kids,b⟩=(gBl g k b).nodes:=by
 rw[gBl,if_pos ⟨hb,hk⟩,Bn he]
def blG(sg:List Sg)(g:Gs):Bool:=decide (g.pos<sg.length)&&(sgO sg g.pos).blank
theorem c0N{sg:List Sg}{g:Gs}{e:Sg}{k:Int}(he:sg[(g.pos+1-1).toNat]? =some e)(hk:k≠0)(h:kdG sg g k=true):e.text=BC sg g k:=by
 obtain⟨hb,hl⟩:=TB hk h
 rw[BC,if_pos h,Yo (by rw[show g.pos=g.pos+1-1 by omega];exact he) hb hl]
def Ee:Sig:= {X:=ST×Int×Int×Bool×List Nd×Int×List UInt8,args:=fun x=>[srd x.1 (xh x),.int .i64 x.2.2.2.2.2.1,.str x.2.2.2.2.2.2],pre:=fun x=>rOk x.1 (xh x)∧x.2.2.2.2.2.1≠0,Y:=Unit,post:=fun x y=>True,res:=fun x y=> .bool (isG x.1.sg (xh x) x.2.2.2.2.2.1 x.2.2.2.2.2.2),outs:=fun x y=>[srd x.1 (xh x),.top,.top],keep:=true}
theorem QA:Aj G Tryz.prog 90 Ee:=
 vcFun_okP [] [] false (fun x=>[]) Tryz.func90 rfl (by decide) trivial (fun(x:ST×Int×Int×Bool×List Nd×Int×List UInt8)=>True∧true=true∧true=true∧Aa (!(xh x).bad) (Aa (decide ((xh x).pos<(↑(List.length x.1.sg):Int))) (((0:Int)≤(xh x).pos∧(xh x).pos<(↑(List.length x.1.sg):Int))∧∀(e:Sg),x.1.sg[Int.toNat (xh x).pos]? =some e→Aa (e.kind==x.2.2.2.2.2.1) (((0:Int)≤(xh x).pos∧(xh x).pos<(↑(List.length x.1.sg):Int))∧∀(e:Sg),x.1.sg[Int.toNat (xh x).pos]? =some e→rA Ee x [.bool (e.text==x.2.2.2.2.2.2),srd x.1 (xh x),.top,.top]) (rA Ee x [.bool false,srd x.1 (xh x),.top,.top])) (rA Ee x [.bool false,srd x.1 (xh x),.top,.top])) (rA Ee x [.bool false,srd x.1 (xh x),.top,.top])) (fun x=>by kernel_rfl) fun(x:ST×Int×Int×Bool×List Nd×Int×List UInt8) (hx:rOk x.1 (xh x)∧x.2.2.2.2.2.1≠0)=>(by
 dsimp only[Bu,Ba,rA,Ee,Db,sgs,srd,Au,Az]
 obtain⟨s,p,d,b,ns,k,m⟩:=x;dsimp only[xg,xh] at hx ⊢
 obtain⟨h1,h2⟩:=hx;have hs:=Hl h1;dsimp only at hs
 (repeat' first|(with_reducible first|rfl|exact True.intro|apply AK|apply And.intro|((first|apply AA|apply AI|apply AB|apply AJ)<;>intro _))|(apply Ax<;>intro _)|apply AH|refine Ae () ?_ ?_|((first|apply AO|apply AN|apply AM|apply AL|apply AG|apply AF|apply AE|apply AD|apply AC)<;>try dsimp only)|apply Ae|(refine Prod.forall.2 ?_;intro _;try dsimp only)|(intro _;try dsimp only))
 all_goals(try(repeat(rename s.sg[_]? =some _=>hq;revert hq;rename s.sg[_]? =some _=>hr;intro hq;rw[hr] at hq;cases hq)))
 all_goals first
  |rfl
  |exact(a6x h2 (.inl ‹_›)).symm
  |exact(a6x h2 (.inr (by simp only;omega))).symm
  |(rw[c0K ‹_› ‹_› (by simp only;omega)];simp [*];done)
  |((try simp only[AQ]);omega)
  |skip)
def Ch:Sig:= {X:=ST×Int×Int×Bool×List Nd×List UInt8,args:=fun x=>[srd x.1 (xh x),.str x.2.2.2.2.2],pre:=fun x=>rOk x.1 (xh x),Y:=Unit,post:=fun x y=>True,res:=fun x y=> .bool (isG x.1.sg (xh x) 4 x.2.2.2.2.2),outs:=fun x y=>[srd x.1 (Aw x.1.sg (xh x) x.2.2.2.2.2),.top],keep:=true}
theorem Ic:Aj G Tryz.prog 63 Ch:=
 vcFun_okP [(90,0,Ee)] [] false (fun x=>[]) Tryz.func63 rfl (by decide) ⟨QA,trivial⟩ (fun(x:ST×Int×Int×Bool×List Nd×List UInt8)=>True∧cA Ee [srd x.1 (xh x),.int .i64 (4:Int),.str x.2.2.2.2.2] fun x_1 y=>Aa (isG x_1.1.sg (xh x_1) x_1.2.2.2.2.2.1 x_1.2.2.2.2.2.2) (inR IntKind.i64 ((xh x_1).pos+(1:Int))∧rA Ch x [.bool true,.box 0 [sgs x_1.1.sg,.int .i64 ((xh x_1).pos+(1:Int)),.bool (xh x_1).bad,.int .i64 (xh x_1).deep,Ba (xh x_1).nodes],.top]) (rA Ch x [.bool false,srd x_1.1 (xh x_1),.top])) (fun x=>by kernel_rfl) fun(x:ST×Int×Int×Bool×List Nd×List UInt8) (hx:rOk x.1 (xh x))=>(by
 dsimp only[cA,Bu,Ba,rA,Ee,Ch,Db,sgs,srd,Au,Az,mvL,lnL,mvE,lnE]
 obtain⟨s,p,d,b,ns,m⟩:=x;dsimp only[xg,xh] at hx ⊢
 have hx:rOk s ⟨p,d,b,ns⟩:=hx;have hs:=Hl hx;dsimp only at hs
 (repeat' first|(with_reducible first|rfl|exact True.intro|apply AK|apply And.intro|((first|apply AA|apply AI|apply AB|apply AJ)<;>intro _))|(apply Ax<;>intro _)|apply AH|refine Ae () ?_ ?_|((first|apply AO|apply AN|apply AM|apply AL|apply AG|apply AF|apply AE|apply AD|apply AC)<;>try dsimp only)|apply Ae|(refine Prod.forall.2 ?_;intro _;try dsimp only)|(intro _;try dsimp only))
 all_goals first
  |rfl
  |exact hx
  |omega
  |(simp [Aw,An, *];done)
  |((try simp only[AQ]);omega)
  |skip)
def Fa:Sig:= {X:=ST×Int×Int×Bool×List Nd×List UInt8,args:=fun x=>[srd x.1 (xh x),.str x.2.2.2.2.2],pre:=fun x=>rOk x.1 (xh x),Y:=Unit,post:=fun x y=>True,res:=fun x y=> .bool (isG x.1.sg (xh x) 1 x.2.2.2.2.2),outs:=fun x y=>[srd x.1 (BD x.1.sg (xh x) x.2.2.2.2.2),.top],keep:=true}
theorem Yp:Aj G Tryz.prog 60 Fa:=
 vcFun_okP [(90,0,Ee)] [] false (fun x=>[]) Tryz.func60 rfl (by decide) ⟨QA,trivial⟩ (fun(x:ST×Int×Int×Bool×List Nd×List UInt8)=>True∧cA Ee [srd x.1 (xh x),.int .i64 (1:Int),.str x.2.2.2.2.2] fun x_1 y=>Aa (isG x_1.1.sg (xh x_1) x_1.2.2.2.2.2.1 x_1.2.2.2.2.2.2) (inR IntKind.i64 ((xh x_1).pos+(1:Int))∧rA Fa x [.bool true,.box 0 [sgs x_1.1.sg,.int .i64 ((xh x_1).pos+(1:Int)),.bool (xh x_1).bad,.int .i64 (xh x_1).deep,Ba (xh x_1).nodes],.top]) (rA Fa x [.bool false,srd x_1.1 (xh x_1),.top])) (fun x=>by kernel_rfl) fun(x:ST×Int×Int×Bool×List Nd×List UInt8) (hx:rOk x.1 (xh x))=>(by
 dsimp only[cA,Bu,Ba,rA,Ee,Fa,Db,sgs,srd,Au,Az,mvL,lnL,mvE,lnE]
 obtain⟨s,p,d,b,ns,m⟩:=x;dsimp only[xg,xh] at hx ⊢
 have hx:rOk s ⟨p,d,b,ns⟩:=hx;have hs:=Hl hx;dsimp only at hs
 (repeat' first|(with_reducible first|rfl|exact True.intro|apply AK|apply And.intro|((first|apply AA|apply AI|apply AB|apply AJ)<;>intro _))|(apply Ax<;>intro _)|apply AH|refine Ae () ?_ ?_|((first|apply AO|apply AN|apply AM|apply AL|apply AG|apply AF|apply AE|apply AD|apply AC)<;>try dsimp only)|apply Ae|(refine Prod.forall.2 ?_;intro _;try dsimp only)|(intro _;try dsimp only))
 all_goals first
  |rfl
  |exact hx
  |omega
  |(simp [BD,An, *];done)
  |((try simp only[AQ]);omega)
  |skip)
def BQ:Sig:= {X:=ST×Int×Int×Bool×List Nd×List UInt8,args:=fun x=>[srd x.1 (xh x),.str x.2.2.2.2.2],pre:=fun x=>rOk x.1 (xh x),Y:=Unit,post:=fun x y=>True,res:=fun x y=> .tup [],outs:=fun x y=>[srd x.1 (Aq x.1.sg (xh x) x.2.2.2.2.2),.top],keep:=true}
theorem IK:Aj G Tryz.prog 62 BQ:=
 vcFun_okP [(63,0,Ch)] [] false (fun x=>[]) Tryz.func62 rfl (by decide) ⟨Ic,trivial⟩ (fun(x:ST×Int×Int×Bool×List Nd×List UInt8)=>True∧cA Ch [srd x.1 (xh x),.str x.2.2.2.2.2] fun x_1 y=>Aa (!isG x_1.1.sg (xh x_1) (4:Int) x_1.2.2.2.2.2) (rA BQ x [.tup [],.box 0 [sgs x_1.1.sg,.int .i64 (Aw x_1.1.sg (xh x_1) x_1.2.2.2.2.2).pos,.bool true,.int .i64 (Aw x_1.1.sg (xh x_1) x_1.2.2.2.2.2).deep,Ba (Aw x_1.1.sg (xh x_1) x_1.2.2.2.2.2).nodes],.top]) (rA BQ x [.tup [],srd x_1.1 (Aw x_1.1.sg (xh x_1) x_1.2.2.2.2.2),.top])) (fun x=>by kernel_rfl) fun(x:ST×Int×Int×Bool×List Nd×List UInt8) (hx:rOk x.1 (xh x))=>(by
 dsimp only[cA,Bu,Ba,rA,Ch,BQ,Db,sgs,srd,Au,Az,mvL,lnL,mvE,lnE]
 obtain⟨s,p,d,b,ns,m⟩:=x;dsimp only[xg,xh] at hx ⊢
 have hx:rOk s ⟨p,d,b,ns⟩:=hx;have hs:=Hl hx;dsimp only at hs
 (repeat' first|(with_reducible first|rfl|exact True.intro|apply AK|apply And.intro|((first|apply AA|apply AI|apply AB|apply AJ)<;>intro _))|(apply Ax<;>intro _)|apply AH|refine Ae () ?_ ?_|((first|apply AO|apply AN|apply AM|apply AL|apply AG|apply AF|apply AE|apply AD|apply AC)<;>try dsimp only)|apply Ae|(refine Prod.forall.2 ?_;intro _;try dsimp only)|(intro _;try dsimp only))
 all_goals first
  |rfl
  |exact hx
  |(simp [Aq,Aw,An,Bw, *];done)
  |((try simp only[AQ]);omega)
  |skip)
def Ef:Sig:= {X:=ST×Int×Int×Bool×List Nd×Int,args:=fun x=>[srd x.1 (xh x),.int .i64 x.2.2.2.2.2],pre:=fun x=>rOk x.1 (xh x)∧x.2.2.2.2.2≠0,Y:=Unit,post:=fun x y=>True,res:=fun x y=> .bool (kdG x.1.sg (xh x) x.2.2.2.2.2),outs:=fun x y=>[srd x.1 (xh x),.top],keep:=true}
theorem TC:Aj G Tryz.prog 58 Ef:=
 vcFun_okP [(89,0,Gw)] [] false (fun x=>[]) Tryz.func58 rfl (by decide) ⟨Wk,trivial⟩ (fun(x:ST×Int×Int×Bool×List Nd×Int)=>True∧true=true∧true=true∧Aa (!(xh x).bad) (Aa (decide ((xh x).pos<(↑(List.length x.1.sg):Int))) (((0:Int)≤(xh x).pos∧(xh x).pos<(↑(List.length x.1.sg):Int))∧∀(e:Sg),x.1.sg[Int.toNat (xh x).pos]? =some e→Aa (e.kind==x.2.2.2.2.2) (Aa (x.2.2.2.2.2 != (1:Int)) (rA Ef x [.bool true,srd x.1 (xh x),.top]) (((0:Int)≤(xh x).pos∧(xh x).pos<(↑(List.length x.1.sg):Int))∧∀(e:Sg),x.1.sg[Int.toNat (xh x).pos]? =some e→∃(x_1:List UInt8),True∧e.text=x_1∧∃(y0:Unit),(∀(y:Unit),True→AV.bool (kw x_1)=AV.bool (kw x_1))∧true=true∧rA Ef x [.bool !kw x_1,srd x.1 (xh x),.top])) (rA Ef x [.bool false,srd x.1 (xh x),.top])) (rA Ef x [.bool false,srd x.1 (xh x),.top])) (rA Ef x [.bool false,srd x.1 (xh x),.top])) (fun x=>by kernel_rfl) fun(x:ST×Int×Int×Bool×List Nd×Int) (hx:rOk x.1 (xh x)∧x.2.2.2.2.2≠0)=>(by
 dsimp only[Bu,Ba,rA,Ef,Db,sgs,srd,Au,Az]
 obtain⟨s,p,d,b,ns,k⟩:=x;dsimp only[xg,xh] at hx ⊢
 obtain⟨h1,h2⟩:=hx;have hs:=Hl h1;dsimp only at hs
 (repeat' first|(with_reducible first|rfl|exact True.intro|apply AK|apply And.intro|((first|apply AA|apply AI|apply AB|apply AJ)<;>intro _))|(apply Ax<;>intro _)|apply AH|refine Ae () ?_ ?_|((first|apply AO|apply AN|apply AM|apply AL|apply AG|apply AF|apply AE|apply AD|apply AC)<;>try dsimp only)|apply Ae|(refine Prod.forall.2 ?_;intro _;try dsimp only)|(intro _;try dsimp only))
 all_goals(try(repeat(rename s.sg[_]? =some _=>hq;revert hq;rename s.sg[_]? =some _=>hr;intro hq;rw[hr] at hq;cases hq)))
 all_goals first
  |rfl
  |exact(Ot h2 (.inl ‹_›)).symm
  |exact(Ot h2 (.inr (by simp only;omega))).symm
  |(rw[a6y ‹_› ‹_› (by simp only;omega)];simp [*];done)
  |((try simp only[AQ]);omega)
  |skip)
def CH:Sig:= {X:=ST×Int×Int×Bool×List Nd×Int,args:=fun x=>[srd x.1 (xh x),.int .i64 x.2.2.2.2.2],pre:=fun x=>rOk x.1 (xh x)∧x.2.2.2.2.2≠0,Y:=Unit,post:=fun x y=>True,res:=fun x y=> .str (BC x.1.sg (xh x) x.2.2.2.2.2),outs:=fun x y=>[srd x.1 (Bh x.1.sg (xh x) x.2.2.2.2.2),.top],keep:=true}
theorem KY:Aj G Tryz.prog 59 CH:=
 vcFun_okP [(58,0,Ef)] [] false (fun x=>[]) Tryz.func59 rfl (by decide) ⟨TC,trivial⟩ (fun(x:ST×Int×Int×Bool×List Nd×Int)=>True∧cA Ef [srd x.1 (xh x),.int .i64 x.2.2.2.2.2] fun x_1 y=>Aa (!kdG x_1.1.sg (xh x_1) x_1.2.2.2.2.2) (rA CH x [.str #[].toList,.box 0 [sgs x_1.1.sg,.int .i64 (xh x_1).pos,.bool true,.int .i64 (xh x_1).deep,Ba (xh x_1).nodes],.top]) (inR IntKind.i64 ((xh x_1).pos+(1:Int))∧true=true∧true=true∧inR IntKind.i64 ((xh x_1).pos+(1:Int)-(1:Int))∧((0:Int)≤(xh x_1).pos+(1:Int)-(1:Int)∧(xh x_1).pos+(1:Int)-(1:Int)<(↑(List.length x_1.1.sg):Int))∧∀(e:Sg),x_1.1.sg[Int.toNat ((xh x_1).pos+(1:Int)-(1:Int))]? =some e→rA CH x [.str e.text,.box 0 [sgs x_1.1.sg,.int .i64 ((xh x_1).pos+(1:Int)),.bool (xh x_1).bad,.int .i64 (xh x_1).deep,Ba (xh x_1).nodes],.top])) (fun x=>by kernel_rfl) fun(x:ST×Int×Int×Bool×List Nd×Int) (hx:rOk x.1 (xh x)∧x.2.2.2.2.2≠0)=>(by
 dsimp only[cA,Bu,Ba,rA,Ef,CH,Db,sgs,srd,Au,Az,mvL,lnL,mvE,lnE]
 obtain⟨s,p,d,b,ns,k⟩:=x;dsimp only[xg,xh] at hx ⊢
 obtain⟨h1,h2⟩:=hx;have hs:=Hl h1;dsimp only at hs
 (repeat' first|(with_reducible first|rfl|exact True.intro|apply AK|apply And.intro|((first|apply AA|apply AI|apply AB|apply AJ)<;>intro _))|(apply Ax<;>intro _)|apply AH|refine Ae () ?_ ?_|((first|apply AO|apply AN|apply AM|apply AL|apply AG|apply AF|apply AE|apply AD|apply AC)<;>try dsimp only)|apply Ae|(refine Prod.forall.2 ?_;intro _;try dsimp only)|(intro _;try dsimp only))
 all_goals first
  |rfl
  |exact h1
  |exact h2
  |(simp [Bh,BC,An,Bw, *];done)
  |exact c0N ‹_› h2 ‹_›
  |(have hl:=TB h2 (show kdG _ _ _=true by assumption);dsimp only at hl;(try simp only[AQ]);omega)
  |((try simp only[AQ]);omega)
  |skip)
def Bt:Sig:= {X:=ST×Int×Int×Bool×List Nd×Int×List UInt8×List Int,args:=fun x=>[srd x.1 (xh x),.int .i64 x.2.2.2.2.2.1,.str x.2.2.2.2.2.2.1,Ab x.2.2.2.2.2.2.2],pre:=fun x=>rOk x.1 (xh x),Y:=Unit,post:=fun x y=>True,res:=fun x y=> .int .i64 (AU (xh x)),outs:=fun x y=>[srd x.1 (Am (xh x) ⟨x.2.2.2.2.2.1,x.2.2.2.2.2.2.1,x.2.2.2.2.2.2.2,false⟩),.top,.top,.top],keep:=true}
theorem Ie:Aj G Tryz.prog 36 Bt:=
 vcFun_okP [] [(27,⟨Nd,ndA true⟩)] false (fun x=>[]) Tryz.func36 rfl (by decide) trivial (fun(x:ST×Int×Int×Bool×List Nd×Int×List UInt8×List Int)=>True∧Aa (xh x).bad (rA Bt x [.int .i64 (0:Int),.box 0 [sgs x.1.sg,.int .i64 (xh x).pos,.bool true,.int .i64 (xh x).deep,Ba (xh x).nodes],.top,.top,.top]) (Aa (decide ((↑(List.length (xh x).nodes):Int)≥(300:Int))) (rA Bt x [.int .i64 (0:Int),.box 0 [sgs x.1.sg,.int .i64 (xh x).pos,.bool true,.int .i64 (xh x).deep,Ba (xh x).nodes],.top,.top,.top]) (∃(x_1:Nd),x.2.2.2.2.2.1=x_1.kind∧x.2.2.2.2.2.2.1=x_1.text∧Ab x.2.2.2.2.2.2.2=Ab x_1.kids∧false=x_1.blank∧∃(zs:List Nd),Ba [x_1]=Ba zs∧Bo (ndA true)∧AY (List.length (xh x).nodes+List.length zs) (56:Nat)∧inR IntKind.i64 ((↑(List.length ((xh x).nodes++zs)):Int)-(1:Int))∧∃(y:Unit),True∧(↑(List.length ((xh x).nodes++zs)):Int)-(1:Int)=AU (xh x)∧sgs x.1.sg=sgs x.1.sg∧(xh x).pos=(Am (xh x) {kind:=x.2.2.2.2.2.1,text:=x.2.2.2.2.2.2.1,kids:=x.2.2.2.2.2.2.2,blank:=false}).pos∧(xh x).bad=(Am (xh x) {kind:=x.2.2.2.2.2.1,text:=x.2.2.2.2.2.2.1,kids:=x.2.2.2.2.2.2.2,blank:=false}).bad∧(xh x).deep=(Am (xh x) {kind:=x.2.2.2.2.2.1,text:=x.2.2.2.2.2.2.1,kids:=x.2.2.2.2.2.2.2,blank:=false}).deep∧Ba ((xh x).nodes++zs)=Ba (Am (xh x) {kind:=x.2.2.2.2.2.1,text:=x.2.2.2.2.2.2.1,kids:=x.2.2.2.2.2.2.2,blank:=false}).nodes∧True))) (fun x=>by kernel_rfl) fun(x:ST×Int×Int×Bool×List Nd×Int×List UInt8×List Int) (hx:rOk x.1 (xh x))=>(by
 dsimp only[Bu,Ab,Ba,rA,Bt,Db,sgs,srd,Au,Az]
 obtain⟨s,p,d,b,ns,k,t,ks⟩:=x;dsimp only[xg,xh] at hx ⊢
 have hx:rOk s ⟨p,d,b,ns⟩:=hx;have hs:=Hl hx;dsimp only at hs
 (repeat' first|refine b4v ?_|(with_reducible first|rfl|exact True.intro|apply AK|apply And.intro|((first|apply AA|apply AI|apply AB|apply AJ)<;>intro _))|(apply Ax<;>intro _)|apply AH|refine Ae () ?_ ?_|((first|apply AO|apply AN|apply AM|apply AL|apply AG|apply AF|apply AE|apply AD|apply AC)<;>try dsimp only)|apply Ae|(refine Prod.forall.2 ?_;intro _;try dsimp only)|(intro _;try dsimp only))
 all_goals first
  |rfl
  |(simp [Am,AU,DP,Bw, *];done)
  |(have hn:ns.length=300:=by omega
    simp [Am,AU,DP,Bw, *];done)
  |(have hn:ns.length≠300:=by omega
    simp [Am,AU,DP,Bw, *];done)
  |((try simp only[AQ,AY,List.length_append,List.length_cons,List.length_nil]);omega)
  |skip)
def GK:Sig:= {X:=ST×Int×Int×Bool×List Nd,args:=fun x=>[srd x.1 (xg x)],pre:=fun x=>rOk x.1 (xg x),Y:=Unit,post:=fun x y=>True,res:=fun x y=> .bool (blG x.1.sg (xg x)),outs:=fun x y=>[srd x.1 (xg x)],keep:=true}
theorem TD:Aj G Tryz.prog 33 GK:=
 vcFun_okP [] [] false (fun x=>[]) Tryz.func33 rfl (by decide) trivial (fun(x:ST×Int×Int×Bool×List Nd)=>True∧true=true∧true=true∧Aa (decide ((xg x).pos<(↑(List.length x.1.sg):Int))) (((0:Int)≤(xg x).pos∧(xg x).pos<(↑(List.length x.1.sg):Int))∧∀(e:Sg),x.1.sg[Int.toNat (xg x).pos]? =some e→rA GK x [.bool e.blank,srd x.1 (xg x)]) (rA GK x [.bool false,srd x.1 (xg x)])) (fun x=>by kernel_rfl) fun(x:ST×Int×Int×Bool×List Nd) (hx:rOk x.1 (xg x))=>(by
 dsimp only[Bu,Ba,rA,GK,Db,sgs,srd,Au,Az]
 obtain⟨s,p,d,b,ns⟩:=x;dsimp only[xg,xh] at hx ⊢
 have hx:rOk s ⟨p,d,b,ns⟩:=hx;have hs:=Hl hx;dsimp only at hs
 (repeat' first|(with_reducible first|rfl|exact True.intro|apply AK|apply And.intro|((first|apply AA|apply AI|apply AB|apply AJ)<;>intro _))|(apply Ax<;>intro _)|apply AH|refine Ae () ?_ ?_|((first|apply AO|apply AN|apply AM|apply AL|apply AG|apply AF|apply AE|apply AD|apply AC)<;>try dsimp only)|apply Ae|(refine Prod.forall.2 ?_;intro _;try dsimp only)|(intro _;try dsimp only))
 all_goals first
  |rfl
  |(simp [blG,JM (show s.sg[_]? =some _ by assumption), *];done)
  |(simp [blG, *];done)
  |((try simp only[AQ]);omega)
  |skip)
def Fb:Sig:= {X:=ST×Int×Int×Bool×List Nd×Int×Bool,args:=fun x=>[srd x.1 (xh x),.int .i64 x.2.2.2.2.2.1,.bool x.2.2.2.2.2.2],pre:=fun x=>rOk x.1 (xh x)∧((xh x).bad=false→0≤x.2.2.2.2.2.1),Y:=Unit,post:=fun x y=>True,res:=fun x y=> .tup [],outs:=fun x y=>[srd x.1 (gBl (xh x) x.2.2.2.2.2.1 x.2.2.2.2.2.2),.top,.top],keep:=true}
theorem TE:Aj G Tryz.prog 35 Fb:=
 vcFun_okP [] [(27,⟨Nd,ndA true⟩)] false (fun x=>[]) Tryz.func35 rfl (by decide) trivial (fun(x:ST×Int×Int×Bool×List Nd×Int×Bool)=>True∧Aa (!(xh x).bad) (Aa (decide (x.2.2.2.2.2.1<(↑(List.length (xh x).nodes):Int))) (((0:Int)≤x.2.2.2.2.2.1∧x.2.2.2.2.2.1<(↑(List.length (xh x).nodes):Int))∧Int.toNat x.2.2.2.2.2.1<List.length (xh x).nodes∧∀(x_1:Nd),(xh x).nodes[Int.toNat x.2.2.2.2.2.1]? =some x_1→∃(x':Nd),([AV.int .i64 x'.kind,.str x'.text,Ab x'.kids]=[.int .i64 x_1.kind,.str x_1.text,Ab x_1.kids]∧(@List.nil AV)=[])∧x.2.2.2.2.2.2=x'.blank∧rA Fb x [.tup [],.box 0 [sgs x.1.sg,.int .i64 (xh x).pos,.bool (xh x).bad,.int .i64 (xh x).deep,Ba (List.set (xh x).nodes (Int.toNat x.2.2.2.2.2.1) x')],.top,.top]) (rA Fb x [.tup [],srd x.1 (xh x),.top,.top])) (rA Fb x [.tup [],srd x.1 (xh x),.top,.top])) (fun x=>by kernel_rfl) fun(x:ST×Int×Int×Bool×List Nd×Int×Bool) (hx:rOk x.1 (xh x)∧((xh x).bad=false→0≤x.2.2.2.2.2.1))=>(by
 dsimp only[Bu,Ab,Ba,rA,Fb,Db,sgs,srd,Au,Az]
 obtain⟨s,p,d,b,ns,k,bl⟩:=x;dsimp only[xg,xh] at hx ⊢
 obtain⟨hx,hk⟩:=hx
 have hx:rOk s ⟨p,d,b,ns⟩:=hx;have hs:=Hl hx;dsimp only at hs
 (repeat' first|refine c0L ?_|(with_reducible first|rfl|exact True.intro|apply AK|apply And.intro|((first|apply AA|apply AI|apply AB|apply AJ)<;>intro _))|(apply Ax<;>intro _)|apply AH|refine Ae () ?_ ?_|((first|apply AO|apply AN|apply AM|apply AL|apply AG|apply AF|apply AE|apply AD|apply AC)<;>try dsimp only)|apply Ae|(refine Prod.forall.2 ?_;intro _;try dsimp only)|(intro _;try dsimp only))
 all_goals first
  |rfl
  |(simp [gBl, *];done)
  |exact c0M (g:=⟨p,d,b,ns⟩) ‹_› ‹_› ‹_›
  |(have hk2:=hk ‹_›;(try simp only[AQ]);omega)
  |((try simp only[AQ]);omega)
  |skip)
end Go.My
end
section
namespace Go.My
open Go.Eng
theorem Ou{sg:List Sg}{x:Gs}{f:Ps→PR}{k k':Int}{y y':Gs}(h:Ag sg x f (k,y))(h1:gsOk sg y')(h2:y'.deep=y.deep)(h3:y.pos≤y'.pos)(h4:pur y'=pur y)(h5:y'.bad=false→k'=k):Ag sg x f (k',y'):=by
 obtain⟨⟨a1,a2,a3,a4,a5⟩,b⟩:=h
 simp only at a1 a2 a3 a4 a5 b
 have hb:y'.bad=y.bad:=by
  cases hy:y.bad with
  |true=>exact a4g.1 (h4.trans (Eb hy))
  |false=>
   cases hy':y'.bad with
   |false=>rfl
   |true=>rw[Eb hy',Dn hy] at h4;cases h4
 refine⟨⟨h1,by simp only;omega,by simp only;omega,by simp only;rw[h4];exact a4,fun p hp=> ?_⟩,fun hw=> ?_⟩
 ·simp only
  have:=a5 p hp
  rw[h5 ?_]
  ·exact this
  ·cases hy:y'.bad with
   |false=>rfl
   |true=>rw[←h4,Eb hy,hp] at a4;cases a4
 ·simp only at hw ⊢
  have:=b (by rw[←hb];exact hw);omega
theorem Yq{α:Type}{sg:List Sg}{x y y':Gs}{f g:Ps→Option (α×Ps)}{d:Int}(h:restP sg x f y g d)(h1:gsOk sg y')(h2:y'.deep=y.deep)(h3:y.pos≤y'.pos)(h4:pur y'=pur y):restP sg x f y' g d:=by
 obtain⟨a1,a2,a3,a4⟩:=h
 exact⟨h1,by omega,by omega,by rw[h4];exact a4⟩
theorem Yr{sg:List Sg}{g:Gs}{w:Nd}(h:gsOk sg g)(hl:g.pos<sg.length)(hw:Dm w):gsOk sg (Am (An g) w)∧(Am (An g) w).deep=(Dq (Am g w)).deep∧(Dq (Am g w)).pos≤(Am (An g) w).pos∧pur (Am (An g) w)=pur (Dq (Am g w))∧AU (An g)=AU g:=by
 refine⟨Qb (GC h hl) hw,?_⟩
 cases hf:DP g with
 |true=>
  have hf2:DP (An g)=true:=hf
  simp only[Am,AU,hf,hf2,if_true]
  simp [Dq,Bw,An,pur];omega
 |false=>
  have hf2:DP (An g)=false:=hf
  have:=(SI hf).1
  simp only[Am,AU,hf,hf2,Bool.false_eq_true,if_false]
  simp [Dq,Bw,An,pur,this]
theorem IL{sg:List Sg}{x g:Gs}{f:Ps→PR}{m:List UInt8}{w:Nd}(hg:gsOk sg g)(hw:Dm w)(h:Ag sg x f (CT sg g m,CS sg g m w)):Ag sg x f (AU (Aq sg g m),Am (Aq sg g m) w):=by
 cases hq:isG sg g 4 m with
 |true=>
  obtain⟨a,b,c,d,e⟩:=Yr hg (Dp hq (by omega)).2 hw
  simp only[CS,CT,Aq,hq,if_true] at h ⊢
  exact Ou h a b c d (fun _=>e)
 |false=>
  simp only[CS,CT,Aq,hq,Bool.false_eq_true,if_false] at h ⊢
  have hf:DP (Bw g)=true:=by simp [DP,Bw]
  simp only[Am,AU,hf,if_true]
  exact Ou h hg rfl (Int.le_refl _) rfl (fun _=>rfl)
theorem QB{sg:List Sg}{g:Gs}{k:Int}(hk:k≠1):kdG sg g k=decide ((pkG sg g 0).kind=k):=by simp [kdG,hk]
theorem Ov{sg:List Sg}{x g:Gs}{f:Ps→PR}{k c:Int}(hs:sgB sg)(hg:gsOk sg g)(hk:k≠0)(hq:kdG sg g k=true)(h:Ag sg x f (AU g,EE sg g c false)):Ag sg x f (AU (Bh sg g k),Am (Bh sg g k) ⟨c,BC sg g k,[],false⟩):=by
 have hl:=TB hk hq
 have hw:Dm ⟨c,(pkG sg g 0).text,[],false⟩:=⟨Qc hs,by simp⟩
 obtain⟨a1,a2,a3,a4,a5⟩:=Yr hg hl.2 hw
 simp only[Bh,BC,hq,if_true]
 exact Ou h a1 a2 a3 a4 (fun _=>a5)
theorem c0O{sg:List Sg}{g:Gs}(hs:sgB sg)(hg:gsOk sg g):Ag sg g (BS sg) (AU (Bh sg g 1),Am (Bh sg g 1) ⟨1,BC sg g 1,[],false⟩):=by
 have h:=SK hs hg
 cases hq:nmG sg g 0 with
 |true=>
  refine Ov hs hg (by omega) (by rw[Jp];exact hq) ?_
  simp only[Ec,En,hq,if_true] at h;exact h
 |false=>
  have hq2:kdG sg g 1=false:=by rw[Jp];exact hq
  simp only[Ec,En,hq,Bool.false_eq_true,if_false] at h
  have hf:DP (Bw g)=true:=by simp [DP,Bw]
  simp only[Bh,BC,hq2,Bool.false_eq_true,if_false,Am,AU,hf,if_true]
  exact Ou h hg rfl (Int.le_refl _) rfl (fun _=>rfl)
theorem IM{sg:List Sg}{g:Gs}:Bh sg g 1=CV sg g∧BC sg g 1=Dh sg g:=by
 simp only[Bh,CV,BC,Dh,Jp];exact⟨trivial,trivial⟩
theorem TF{sg:List Sg}{g:Gs}{m:List UInt8}(h:g.bad=true):Aq sg g m=g:=by
 have:isG sg g 4 m=false:=a4h (Eb h) (by omega)
 simp only[Aq,this,Bool.false_eq_true,if_false,Bw]
 cases g;simp only at h;simp [h]
theorem JX{sg:List Sg}{g:Gs}{m:List UInt8}(h:isG sg g 4 m=true):Aq sg g m=An g:=by simp [Aq,h]
theorem QC{sg:List Sg}{g:Gs}{m:List UInt8}(h:isG sg g 4 m=false):Aq sg g m=Bw g:=by simp [Aq,h]
theorem Ys{w:Nd}{s:Ps}(h:¬300≤s.nodes.length):Be w s=some ((s.nodes.length:Int),⟨s.pos,s.deep,s.nodes++[w]⟩):=if_neg h
theorem Yt{w:Nd}{s:Ps}(h:300≤s.nodes.length):Be w s=none:=if_pos h
def chS(sg:List Sg)(n l:Nat)(x y:Gs)(t:List UInt8)(ks:List Int)(N:Nat):Prop:=
 restP sg x (pE sg (n+1) (.chain l)) y (chF sg n l N t ks) 0∧(2*((sg.length:Int)-y.pos)+4≤N∨(t=[]∧2*((sg.length:Int)-y.pos)+3≤N))∧(ks.length:Int)≤y.pos+1∧(y.bad=false→x.pos<y.pos)∧(t=[]→ks.length=1)∧(t≠[]→2≤ks.length∧t∈BJ l)
theorem c0P{sg:List Sg}{x:Gs}{n l:Nat}{z:Int×Gs}(h:gsOk sg x)(hl:l≠6)(h1:Ag sg x (pE sg n (.chain (l+1))) z):chS sg n l x z.2 [] [z.1] (2*sg.length+4):=by
 obtain⟨a,b,c⟩:=b4Q h hl h1
 have:=a.1.1
 exact⟨a,.inr ⟨rfl,b⟩,by simp;omega,c,fun _=>rfl,fun h=>(h rfl).elim⟩
theorem Yu{sg:List Sg}{l:Nat}{m:List UInt8}{ks:List Int}(hs:sgB sg)(hml:m∈BJ l)(hk:(ks.length:Int)≤sg.length+1):Dm ⟨7,m,ks,false⟩:=by
 refine⟨?_,by have:=hs.1;simp only;omega⟩
 simp only
 unfold BJ at hml
 split at hml<;>simp at hml<;>(first|(subst hml;simp)|(rcases hml with rfl|rfl<;>simp))
theorem c0Q{sg:List Sg}{n l:Nat}{x y:Gs}{t:List UInt8}{ks:List Int}{N:Nat}{z:Int×Gs}(h:chS sg n l x y t ks N)(hm:Ds sg l y≠[])(ht:t=[]∨Ds sg l y=t)(hz:Ag sg (An y) (pE sg n (.chain (l+1))) z):
 chS sg n l x z.2 (Ds sg l y) (ks++[z.1]) (N-1)∧N-1<N:=by
 obtain⟨h1,hN,hk,hb,hk1,hk2⟩:=h
 have hq:=(KJ hm).1
 have hp:=h1.1.1
 have hl:=Dp hq (by omega)
 match N with
 |0=>omega
 |M+1=>
  refine⟨?_,by omega⟩
  have k1:=Hn (g':=fun s=>(pE sg n (.chain (l+1)) s).bind fun p=>chF sg n l M (Ds sg l y) (ks++[p.1]) p.2) h1 (by omega) hq (fun s hs hts=>by
   rw[chF,Gg,if_neg ?_,if_neg (by rw[KI hs];exact hm),KI hs];rfl
   rw[KI hs];rintro⟨q1,q2⟩;rcases ht with ht|ht
   ·exact q1 ht
   ·exact q2 ht)
  have k2:=BT (k:=fun k s=>chF sg n l M (Ds sg l y) (ks++[k]) s) k1 hz.1 (fun _ _=>rfl)
  have e:=CX hz
  simp only[An] at e
  have:=h1.2.2.1
  simp only[Nat.add_sub_cancel]
  refine⟨k2,.inl (by omega),by simp;omega,fun hb2=>by omega,fun he=>(hm he).elim,fun _=>⟨?_,(KJ hm).2⟩⟩
  simp only[List.length_append,List.length_cons,List.length_nil]
  rcases Classical.em (t=[]) with e0|e0
  ·have:=hk1 e0;omega
  ·have:=(hk2 e0).1;omega
theorem c0R{sg:List Sg}{n l:Nat}{x y:Gs}{t:List UInt8}{ks:List Int}{N:Nat}{z:Int×Gs}(hs:sgB sg)(h:chS sg n l x y t ks N)(hm:Ds sg l y≠[])(ht:t≠[])(hne:Ds sg l y≠t)(hz:Ag sg (Am (An y) ⟨7,t,ks,false⟩) (pE sg n (.chain (l+1))) z):
 chS sg n l x z.2 (Ds sg l y) ([AU (An y)]++[z.1]) (N-2)∧N-2<N:=by
 obtain⟨h1,hN,hk,hb,hk1,hk2⟩:=h
 have hq:=(KJ hm).1
 have hp:=h1.1.1
 have hl:=Dp hq (by omega)
 have hN2:2*((sg.length:Int)-y.pos)+4≤N:=by
  rcases hN with h|h
  ·exact h
  ·exact(ht h.1).elim
 match N with
 |0=>omega
 |1=>omega
 |M+2=>
  refine⟨?_,by omega⟩
  have hw:Dm ⟨7,t,ks,false⟩:=Yu hs (hk2 ht).2 (by omega)
  have k1:=Hn (g':=fun s=>(Be ⟨7,t,ks,false⟩ s).bind fun p=>(pE sg n (.chain (l+1)) p.2).bind fun q=>chF sg n l M (Ds sg l y) ([p.1]++[q.1]) q.2) h1 (by omega) hq (fun s hs hts=>by
   rw[chF,Gg,if_pos ⟨ht,by rw[KI hs];exact hne⟩]
   by_cases h3:300≤s.nodes.length
   ·rw[Yt h3,Yt (s:=adv s) h3];rfl
   ·rw[Ys h3,Ys (s:=adv s) h3]
    simp only[Option.bind_some]
    have e:IA sg l ⟨s.pos,s.deep,s.nodes++[⟨7,t,ks,false⟩]⟩=Ds sg l y:=by rw[←KI hs];rfl
    rw[Gg,if_neg (by simp),if_neg (by rw[e];exact hm),e];rfl)
  have k2:=BT (k:=fun k s=>(pE sg n (.chain (l+1)) s).bind fun q=>chF sg n l M (Ds sg l y) ([k]++[q.1]) q.2) k1 (SJ k1.1 hw) (fun _ _=>rfl)
  have k3:=BT (k:=fun k s=>chF sg n l M (Ds sg l y) ([AU (An y)]++[k]) s) k2 hz.1 (fun _ _=>rfl)
  have e:=CX hz
  obtain⟨d1,d2,d3⟩:= @JR (An y) ⟨7,t,ks,false⟩
  rw[d2] at e;simp only[An] at e
  have:=h1.2.2.1
  simp only[Nat.add_sub_cancel]
  refine⟨k3,.inl (by omega),by simp;omega,fun hb2=>by omega,fun he=>(hm he).elim,fun _=>⟨by simp,(KJ hm).2⟩⟩
theorem a6z{sg:List Sg}{n l:Nat}{x y:Gs}{t:List UInt8}{ks:List Int}{N:Nat}{k:Int}(h:chS sg n l x y t ks N)(hm:y.bad=true∨Ds sg l y=[])(hl:ks.length=1)(hk:ks[0]? =some k):Ag sg x (pE sg (n+1) (.chain l)) (k,y):=by
 obtain⟨h1,hN,hk0,hb,hk1,hk2⟩:=h
 rcases hm with hm|hm
 ·exact⟨Qe h1 hm,fun hb2=>by simp only at hb2;rw[hm] at hb2;cases hb2⟩
 ·have ht:t=[]:=by
   rcases Classical.em (t=[]) with e0|e0
   ·exact e0
   ·have:=(hk2 e0).1;omega
  subst ht
  have hp:=h1.1.1
  match ks,hl with
  |[k0],_=>
   simp at hk;subst hk
   match N with
   |0=>omega
   |N+1=>exact⟨Hm (Ed h1 (g':=fun s=>some (k0,s)) (fun s hs=>by rw[chF,Gg,if_neg (by simp),if_pos (by rw[KI hs,hm])];rfl)),hb⟩
theorem a6A{sg:List Sg}{n l:Nat}{x y:Gs}{t:List UInt8}{ks:List Int}{N:Nat}(hs:sgB sg)(h:chS sg n l x y t ks N)(hm:y.bad=true∨Ds sg l y=[])(hl:ks.length≠1):Ag sg x (pE sg (n+1) (.chain l)) (AU y,Am y ⟨7,t,ks,false⟩):=by
 obtain⟨h1,hN,hk0,hb,hk1,hk2⟩:=h
 have ht:t≠[]:=fun e=>hl (hk1 e)
 have hp:=h1.1.1
 have hw:Dm ⟨7,t,ks,false⟩:=Yu hs (hk2 ht).2 (by omega)
 obtain⟨d1,d2,d3⟩:= @JR y ⟨7,t,ks,false⟩
 have hN2:2*((sg.length:Int)-y.pos)+4≤N:=by
  rcases hN with h|h
  ·exact h
  ·exact(ht h.1).elim
 match N with
 |0=>omega
 |1=>omega
 |M+2=>
  have k1:restP sg x (pE sg (n+1) (.chain l)) y (Be ⟨7,t,ks,false⟩) 0:=by
   rcases hm with hm|hm
   ·exact Ed h1 (fun s hs=>by rw[Eb hm] at hs;cases hs)
   ·refine Ed h1 (fun s hs=> ?_)
    rw[chF,Gg,if_pos ⟨ht,by rw[KI hs,hm];exact Ne.symm ht⟩,Be]
    split
    ·rfl
    ·simp only[Option.bind_some]
     have e:IA sg l ⟨s.pos,s.deep,s.nodes++[⟨7,t,ks,false⟩]⟩=[]:=by rw[←hm,←KI hs];rfl
     rw[Gg,if_neg (by simp),if_pos e];rfl
  exact⟨SN k1 hw,fun hb2=>by simp only[d2];exact hb (d3 hb2)⟩
def gM(y:Gs)(m:List UInt8):Gs:=if m=[] then y else An y
theorem Yv{y:Gs}:gM y []=y:=rfl
theorem TG{y:Gs}{m:List UInt8}(h:m≠[]):gM y m=An y:=if_neg h
def mkQ(sg:List Sg)(y:Gs)(l:Nat)(i:Int)(m:List UInt8):Prop:=(0≤i∧i≤(BJ l).length)∧((m=[]∧Ds sg l y=(((BJ l).drop i.toNat).find? fun m=>isG sg y 4 m).getD [])∨(m≠[]∧m=Ds sg l y))
theorem c0S{sg:List Sg}{y:Gs}{l:Nat}:mkQ sg y l 0 []:=⟨by omega,.inl ⟨rfl,rfl⟩⟩
theorem c0T{sg:List Sg}{y:Gs}{l:Nat}{i:Int}{m v:List UInt8}(h:mkQ sg y l i m)(hm:m=[])(ha:(BJ l)[i.toNat]? =some v)(hg:isG sg (gM y m) 4 v=false):mkQ sg y l (i+1) m:=by
 subst hm
 have hlt:=(List.getElem?_eq_some_iff.1 ha).1
 refine⟨by have:=h.1;omega,?_⟩
 rcases h.2 with h2|h2
 ·left;refine⟨rfl,?_⟩
  rw[h2.2,List.drop_eq_getElem_cons hlt,(List.getElem?_eq_some_iff.1 ha).2,List.find?_cons_of_neg (by simp;exact hg),show(i+1).toNat=i.toNat+1 by have:=h.1;omega]
 ·exact(h2.1 rfl).elim
theorem Yw{sg:List Sg}{y:Gs}{l:Nat}{i:Int}{m v:List UInt8}(h:mkQ sg y l i m)(hm:m=[])(ha:(BJ l)[i.toNat]? =some v)(hg:isG sg (gM y m) 4 v=true):mkQ sg y l (i+1) v∧Aw sg (gM y m) v=gM y v:=by
 subst hm
 have hlt:=(List.getElem?_eq_some_iff.1 ha).1
 have hv:=b4R (List.mem_of_getElem? ha)
 refine⟨⟨by have:=h.1;omega,.inr ⟨hv,?_⟩⟩,?_⟩
 ·exact(b4T (List.mem_of_getElem? ha) hg).symm
 ·rw[Yv] at hg ⊢;rw[TG hv];exact EH hg
theorem c0U{sg:List Sg}{y:Gs}{l:Nat}{i:Int}{m:List UInt8}(h:mkQ sg y l i m)(hi:i<((BJ l).length:Int))(hm:m≠[]):mkQ sg y l (i+1) m:=by
 refine⟨by have:=h.1;omega,?_⟩
 rcases h.2 with h2|h2
 ·exact(hm h2.1).elim
 ·exact .inr h2
theorem TH{sg:List Sg}{y:Gs}{l:Nat}{i:Int}{m:List UInt8}(h:mkQ sg y l i m)(hi:¬i<((BJ l).length:Int)):m=Ds sg l y:=by
 rcases h.2 with h2|h2
 ·rw[h2.2,List.drop_eq_nil_of_le (by omega),h2.1];rfl
 ·exact h2.2
theorem a6B{sg:List Sg}{x:Gs}{f:Ps→PR}{a:Int}(h:gsOk sg x)(hb:x.bad=true):Ag sg x f (a,x):=⟨Qe (Dr h) hb,fun hb2=>by simp only at hb2;rw[hb] at hb2;cases hb2⟩
theorem c0V{sg:List Sg}{n:Nat}{x y y':Gs}{k k':Int}{N:Nat}(h:enI sg n x y k N)(h1:gsOk sg y')(h2:y'.deep=y.deep)(h3:y.pos≤y'.pos)(h4:pur y'=pur y)(h5:y'.bad=false→k'=k):enI sg n x y' k' N:=by
 obtain⟨a,b,c⟩:=h
 cases hb:y'.bad with
 |false=>
  have hy:y.bad=false:=by
   cases hy:y.bad with
   |false=>rfl
   |true=>rw[Eb hy,Dn hb] at h4;cases h4
  rw[h5 hb]
  exact⟨Yq a h1 h2 h3 h4,fun _=>by have:=b hy;omega,fun _=>by have:=c hy;omega⟩
 |true=>
  have hy:y.bad=true:=by
   cases hy:y.bad with
   |true=>rfl
   |false=>rw[Eb hb,Dn hy] at h4;cases h4
  refine⟨Ed (Yq a h1 h2 h3 h4) (fun s hs=>by rw[Eb hb] at hs;cases hs),fun e=>(Bool.noConfusion (hb.symm.trans e)),fun e=>(Bool.noConfusion (hb.symm.trans e))⟩
theorem c0W{sg:List Sg}{n:Nat}{x y:Gs}{a k:Int}{N:Nat}(h:Ag sg x (pE sg (n+1) .fin) (a,y))(hb:y.bad=true):enI sg n x y k N:=
 ⟨Ed (b4y h.1) (fun s hs=>by rw[Eb hb] at hs;cases hs),fun e=>(Bool.noConfusion (hb.symm.trans e)),fun e=>(Bool.noConfusion (hb.symm.trans e))⟩
theorem c0X{sg:List Sg}{n:Nat}{x y:Gs}{k:Int}{N:Nat}(hs:sgB sg)(h:enI sg n x y k N)(hp:isG sg y 4 [40]=false)(hq:isG sg y 4 [46]=true):
 enI sg n x (Am (Bh sg (An y) 1) ⟨6,BC sg (An y) 1,[k],false⟩) (AU (Bh sg (An y) 1)) (N-1)∧N-1<N:=by
 have hl:=Dp hq (by omega)
 obtain⟨M,rfl⟩:=Qg h hl.1
 refine⟨?_,by omega⟩
 have ho:=GC h.1.1 hl.2
 have hw:Dm ⟨6,(pkG sg (An y) 0).text,[k],false⟩:=⟨Qc hs,by simp⟩
 cases hn:nmG sg (An y) 0 with
 |true=>
  obtain⟨M',e,h2⟩:=b4X hs h hp hq hn
  have:M'=M:=by omega
  subst this
  obtain⟨a1,a2,a3,a4,a5⟩:=Yr ho (by have:=(SG hn).2;omega) hw
  have e1:Bh sg (An y) 1=An (An y):=by rw[Bh,Jp,if_pos hn]
  have e2:BC sg (An y) 1=(pkG sg (An y) 0).text:=by rw[BC,Jp,if_pos hn]
  rw[e1,e2]
  exact c0V h2 a1 a2 a3 a4 (fun _=>a5)
 |false=>
  have h2:=b4Y (a:=0) h hp hq hn
  have e1:Bh sg (An y) 1=Bw (An y):=by rw[Bh,Jp,if_neg (by simp [hn])]
  have hf:DP (Bw (An y))=true:=by simp [DP,Bw]
  rw[e1]
  have e3:Am (Bw (An y)) ⟨6,BC sg (An y) 1,[k],false⟩=Bw (Bw (An y)):=if_pos hf
  rw[e3]
  exact c0W (a:=0) (Ou h2 ho rfl (Int.le_refl _) rfl (fun _=>rfl)) rfl
def vlQ(sg:List Sg)(one:Ps→PR)(m:List UInt8)(ks0:List Int)(x:Gs)(y:List Int×Gs):Prop:=∃l:List Int×Gs,(BF sg x (Bx sg one m (sg.length+1) []) l∧l.1.length≤3001)∧y=(ks0++l.1,Aq sg l.2 m)
theorem Yx{s:ST}{one:Ps→PR}{m:List UInt8}{ks0:List Int}{x:Gs}{y:List Int×Gs}(hs:sgB s.sg)(h:vlQ s.sg one m ks0 x y):rOk s y.2∧y.1.length≤ks0.length+3001∧y.2.deep=x.deep∧x.pos≤y.2.pos:=by
 obtain⟨l,⟨h1,h2⟩,rfl⟩:=h
 have t:=HV (m:=m) h1.1
 have:=h1.2.1;have:=h1.2.2.1
 exact⟨⟨hs,t.1⟩,by simp;omega,by simp only;omega,by simp only;omega⟩
theorem a6C{sg:List Sg}{x:Gs}{one:Ps→PR}{k:Int}{y:List Int×Gs}(hx:gsOk sg x)(h:vlQ sg one [41] [k] (Aq sg x [40]) y):Ag sg x (Dg sg one k) (AU y.2,Am y.2 ⟨5,[],y.1,false⟩):=by
 obtain⟨l,⟨h1,h2⟩,rfl⟩:=h
 exact IL h1.1 ⟨by simp,by simp;omega⟩ (b5q hx ⟨h1,h2⟩)
theorem c0Y{sg:List Sg}{x y:Gs}{n N:Nat}{ks:List Int}{c w:Int×Gs}(h:KH sg n x y ks N)(hq:isG sg y 4 [46,46]=true)(hc:Ag sg (An y) (BS sg) c)
 (h2:Ag sg c.2 (Dg sg (pE sg n .value) c.1) w):∃M,N=M+1∧KH sg n x w.2 (ks++[w.1]) M:=by
 obtain⟨h1,hN,hk,hb⟩:=h
 obtain⟨hl1,hl⟩:=Dp hq (by omega)
 match N with
 |0=>omega
 |M+1=>
  refine⟨M,rfl,?_⟩
  have k1:=Hn (g':=fun s=>((BS sg s).bind fun p=>(Dg sg (pE sg n .value) p.1 p.2).bind fun q=>Fl sg (pE sg n .value) M (ks++[q.1]) q.2).bind fun q=>Be ⟨10,[],q.1,false⟩ q.2)
   h1 (by omega) hq (fun s hs ht=>by rw[Fl,if_pos (show isM sg s [46,46]=true from ht)])
  have k2:=BT (k:=fun k s=>((Dg sg (pE sg n .value) k s).bind fun q=>Fl sg (pE sg n .value) M (ks++[q.1]) q.2).bind fun q=>Be ⟨10,[],q.1,false⟩ q.2) k1 hc.1 (fun s _=>by simp only[Option.bind_assoc])
  have k3:=BT (k:=fun k s=>(Fl sg (pE sg n .value) M (ks++[k]) s).bind fun q=>Be ⟨10,[],q.1,false⟩ q.2) k2 h2.1 (fun s _=>by simp only[Option.bind_assoc])
  have e0:(An y).pos≤c.2.pos:=hc.1.2.2.1
  have e1:=CX h2
  have ea:(An y).pos=y.pos+1:=rfl
  refine⟨k3,by omega,by simp;omega,fun hb2=> ?_⟩
  have:=h1.2.2.1
  omega
theorem c0Z{sg:List Sg}(hm:sgM sg){s:Ps}(h0:0≤s.pos)(h:KF sg s=true):KG sg s=true:=by
 have hp:∀(n:Nat) (i:Int),0≤i→0≤Em sg n i:=by
  intro n
  induction n with
  |zero=>intro i hi;simpa [Em] using hi
  |succ n ih=>
   intro i hi;rw[Em];split
   ·split
    ·exact ih _ (by omega)
    ·omega
   ·exact hi
 exact a4p hm _ _ (by omega) (by rw[←Xe hm (hp _ _ (by omega))];exact h)
theorem c1a{sg:List Sg}(hm:sgM sg){s:Ps}(h0:0≤s.pos)(h1:KG sg s=true)(h2:KF sg s=false)(N:Nat):Bx sg (BS sg) [41] N [] (adv s)=none:=by
 have hp:∀(n:Nat) (i:Int),0≤i→0≤Em sg n i:=by
  intro n
  induction n with
  |zero=>intro i hi;simpa [Em] using hi
  |succ n ih=>
   intro i hi;rw[Em];split
   ·split
    ·exact ih _ (by omega)
    ·omega
   ·exact hi
 exact a4q hm (sg.length+1) (s.pos+1) (by omega) h1 (by rw[←Xe hm (hp _ _ (by omega))];exact h2) N [] (adv s) rfl
theorem c1b{sg:List Sg}{x:Gs}{n:Nat}{z:Int×Gs}(hm:sgM sg)(hx:gsOk sg x)(h1:(pkG sg x 0).kind≠1)(h2:(pkG sg x 0).kind≠2)(h3:(pkG sg x 0).kind≠3)(hn:isG sg x 4 [91]=false)(hq:isG sg x 4 [40]=true)
 (ha:∀s,pur x=some s→KG sg s=true) (hz:Ag sg x (fnR sg n) z):Ag sg x (pE sg (n+1) .base) z:=by
 refine KK hz (fun s hs=> ?_)
 have h0:0≤s.pos:=by obtain⟨_,rfl⟩:=EW.1 hs;exact hx.1.1
 cases har:KF sg s with
 |true=>rw[Qh hs h1 h2 h3,if_neg (by simp [EX hs hn]),if_pos (by simp [JP hs hq,har]),fnR,BE,if_pos (JP hs hq)];rfl
 |false=>
  rw[Qh hs h1 h2 h3,if_neg (by simp [EX hs hn]),if_neg (by simp [har]),if_pos (JP hs hq),b4B (x:=⟨0,[],[],false⟩) hm h0 (ha s hs) har (fun k=>⟨11,[],[k],false⟩),fnR,BE,if_pos (JP hs hq)]
  simp only[Option.bind_some]
  rw[c1a hm h0 (ha s hs) har];rfl
theorem c1c{sg:List Sg}{x:Gs}{n:Nat}{z:Int×Gs}(hm:sgM sg)(h:gsOk sg x)(h1:(pkG sg x 0).kind≠1)(h2:(pkG sg x 0).kind≠2)(h3:(pkG sg x 0).kind≠3)(hn:isG sg x 4 [91]=false)(hq:isG sg x 4 [40]=true)
 (ha:∀s,pur x=some s→KG sg s=false) (hz:Ag sg (An x) (pE sg n .value) z):
 Ag sg x (pE sg (n+1) .base) (AU (Aq sg z.2 [41]),Am (Aq sg z.2 [41]) ⟨11,[],[z.1],false⟩):=by
 refine IL (Gi hz) ⟨by simp,by simp⟩ (b5c h h1 h2 h3 hn hq (fun s hs=> ?_) hz)
 have h0:0≤s.pos:=by obtain⟨_,rfl⟩:=EW.1 hs;exact h.1.1
 cases har:KF sg s with
 |false=>rfl
 |true=>have:=c0Z hm h0 har;rw[ha s hs] at this;cases this
end Go.My
end
section
namespace Go.My
open Go.Eng Go.Proofs
variable {G:GInv}
def vQ(r n:Nat)(s:ST)(g:Gs):Prop:=vP r n s g∧sgM s.sg
def wQ(r n:Nat)(s:ST)(g:Gs):Prop:=wP r n s g∧sgM s.sg
def MA(n:Nat):Sig:= {X:=ST×Int×Int×Bool×List Nd,args:=fun x=>[srd x.1 (xg x)],pre:=fun x=>vQ 11 n x.1 (xg x),Y:=Int×Int×Int×Bool×List Nd,post:=fun x y=>Ag x.1.sg (xg x) (pE x.1.sg n .value) (yS y),res:=fun x y=> .int .i64 y.1,outs:=fun x y=>[srd x.1 (yG y.2)],keep:=true}
def Hu(n:Nat):Sig:= {X:=ST×Int×Int×Bool×List Nd,args:=fun x=>[srd x.1 (xg x)],pre:=fun x=>vQ 10 n x.1 (xg x),Y:=Int×Int×Int×Bool×List Nd,post:=fun x y=>Ag x.1.sg (xg x) (pE x.1.sg n .pick) (yS y),res:=fun x y=> .int .i64 y.1,outs:=fun x y=>[srd x.1 (yG y.2)],keep:=true}
def IP(n:Nat):Sig:= {X:=ST×Int×Int×Bool×List Nd×Int,args:=fun x=>[srd x.1 (xh x),.int .i64 x.2.2.2.2.2],pre:=fun x=>wQ (9-x.2.2.2.2.2.toNat) n x.1 (xh x)∧0≤x.2.2.2.2.2∧x.2.2.2.2.2≤6,Y:=Int×Int×Int×Bool×List Nd,post:=fun x y=>Ag x.1.sg (xh x) (pE x.1.sg n (.chain x.2.2.2.2.2.toNat)) (yS y),res:=fun x y=> .int .i64 y.1,outs:=fun x y=>[srd x.1 (yG y.2),.top],keep:=true}
def TI(n:Nat):Sig:= {X:=ST×Int×Int×Bool×List Nd,args:=fun x=>[srd x.1 (xg x)],pre:=fun x=>wQ 2 n x.1 (xg x),Y:=Int×Int×Int×Bool×List Nd,post:=fun x y=>Ag x.1.sg (xg x) (pE x.1.sg n .fin) (yS y),res:=fun x y=> .int .i64 y.1,outs:=fun x y=>[srd x.1 (yG y.2)],keep:=true}
def TJ(n:Nat):Sig:= {X:=ST×Int×Int×Bool×List Nd,args:=fun x=>[srd x.1 (xg x)],pre:=fun x=>wQ 1 n x.1 (xg x),Y:=Int×Int×Int×Bool×List Nd,post:=fun x y=>Ag x.1.sg (xg x) (pE x.1.sg n .base) (yS y),res:=fun x y=> .int .i64 y.1,outs:=fun x y=>[srd x.1 (yG y.2)],keep:=true}
structure qAll (G:GInv) (n:Nat):Prop where
 val:Aj G Go.Proofs.Tryz.prog 91 (MA n)
 pick:Aj G Go.Proofs.Tryz.prog 109 (Hu n)
 chain:Aj G Go.Proofs.Tryz.prog 137 (IP n)
 fin:Aj G Go.Proofs.Tryz.prog 180 (TI n)
 base:Aj G Go.Proofs.Tryz.prog 206 (TJ n)
def saI(sg:List Sg)(p:Int)(i:Int)(N:Nat):Prop:=(p+1≤i∧i≤sg.length+1∧(sg.length:Int)-i<N)∧EG sg (sg.length+1) (p+1)=EG sg N i
def arG(sg:List Sg)(x:Gs):Bool:=isG sg x 4 [40]&&KG sg ⟨x.pos,x.deep,x.nodes⟩
theorem c1d{sg:List Sg}{p i:Int}{N:Nat}(h:saI sg p i N):p+1≤i∧i≤sg.length+1:=⟨h.1.1,h.1.2.1⟩
theorem c1e{sg:List Sg}{p:Int}(h0:0≤p)(h:p≤sg.length):saI sg p (p+1) (sg.length+1):=⟨by omega,rfl⟩
theorem a6D{sg:List Sg}{p i:Int}{N:Nat}(h0:0≤p)(h:saI sg p i N)(h1:i+1<sg.length)(hk:(sgO sg i).kind=1)(ht:((sgO sg (i+1)).text==[44])=true):saI sg p (i+1+1) (N-1)∧N-1<N:=by
 obtain⟨⟨a1,a2,a3⟩,h4⟩:=h
 match N with
 |0=>omega
 |N+1=>
  refine⟨⟨⟨by omega,by omega,by simp;omega⟩,?_⟩,by omega⟩
  rw[h4,EG,if_pos ⟨h1,hk⟩,if_pos (by simpa using ht)]
  simp only[Nat.add_sub_cancel];congr 1;omega
theorem c1f{sg:List Sg}{p i:Int}{N:Nat}(h:saI sg p i N)(h1:i+1<sg.length)(hk:(sgO sg i).kind=1)(ht:((sgO sg (i+1)).text==[44])=false):EG sg (sg.length+1) (p+1)=i+1:=by
 obtain⟨⟨a1,a2,a3⟩,h4⟩:=h
 match N with
 |0=>omega
 |N+1=>rw[h4,EG,if_pos ⟨h1,hk⟩,if_neg (by simpa using ht)]
theorem c1g{sg:List Sg}{p i:Int}{N:Nat}(h:saI sg p i N)(h1:¬i+1<sg.length):EG sg (sg.length+1) (p+1)=i:=by
 rw[h.2]
 match N with
 |0=>rfl
 |N+1=>rw[EG,if_neg (fun hh=>h1 hh.1)]
theorem c1h{sg:List Sg}{p i:Int}{N:Nat}(h:saI sg p i N)(hk:(sgO sg i).kind≠1):EG sg (sg.length+1) (p+1)=i:=by
 rw[h.2]
 match N with
 |0=>rfl
 |N+1=>rw[EG,if_neg (fun hh=>hk hh.2)]
theorem c1i{sg:List Sg}{x:Gs}(h:isG sg x 4 [40]=false):false=arG sg x:=by simp [arG,h]
theorem Yy{sg:List Sg}{x:Gs}{i:Int}{b:Bool}(h:isG sg x 4 [40]=true)(hi:EG sg (sg.length+1) (x.pos+1)=i)(hb:b=FQ sg i):b=arG sg x:=by
 rw[arG,h,Bool.true_and,KG];simp only[hi];exact hb
theorem a6E{sg:List Sg}{i k:Int}{e:Sg}(he:sg[i.toNat]? =some e)(hk:e.kind=k):(sgO sg i).kind=k:=by rw[JM he];exact hk
theorem a6F{sg:List Sg}{i:Int}{e:Sg}{m:List UInt8}{b:Bool}(he:sg[i.toNat]? =some e)(hk:(e.text==m)=b):((sgO sg i).text==m)=b:=by rw[JM he];exact hk
def lqJ(sg:List Sg)(one:Ps→PR)(m:List UInt8)(x y:Gs)(ks:List Int)(N:Nat):Prop:=Jk sg one m x y ks N∧(y.bad=false→x.bad=false)
theorem a6G{sg:List Sg}{one:Ps→PR}{m:List UInt8}{x:Gs}(h:gsOk sg x):lqJ sg one m x x [] (sg.length+1):=⟨b4J h,fun h=>h⟩
theorem JY{s:ST}{one:Ps→PR}{m:List UInt8}{x y:Gs}{ks:List Int}{N:Nat}(hs:sgB s.sg)(h:lqJ s.sg one m x y ks N):rOk s y:=b5p hs h
theorem QD{s:ST}{one:Ps→PR}{m:List UInt8}{x y:Gs}{ks:List Int}{N:Nat}(hs:sgB s.sg)(h:lqJ s.sg one m x y ks N):ks.length≤3000:=b5n hs h
theorem c1j{s:ST}{one:Ps→PR}{m:List UInt8}{x y:Gs}{ks:List Int}{N n:Nat}(hx:wQ 11 n s x)(h:lqJ s.sg one m x y ks N)(hb:y.bad=false)(hq:isG s.sg y 4 m=false):vQ 11 n s (Aw s.sg y m):=by
 rw[DI hq];exact⟨b5o hx.1.1.1.1 h hb hx.1.1.2 hx.1.2,hx.2⟩
theorem TK{sg:List Sg}{one:Ps→PR}{m:List UInt8}{x y:Gs}{ks:List Int}{N:Nat}{z:Int×Gs}(h:lqJ sg one m x y ks N)(hq:isG sg y 4 m=false)(hz:Ag sg (Aw sg y m) one z)(hc:isG sg z.2 4 [44]=true):
 lqJ sg one m x (Aw sg z.2 [44]) (ks++[z.1]) (N-1)∧N-1<N:=by
 rw[DI hq] at hz;exact b5m h hz hq hc
theorem a6H{s:ST}{one:Ps→PR}{m:List UInt8}{ks0:List Int}{x y:Gs}{ks:List Int}{N:Nat}{z:Int×Gs}(hs:sgB s.sg)(h:lqJ s.sg one m x y ks N)(hq:isG s.sg y 4 m=false)(hz:Ag s.sg (Aw s.sg y m) one z)(hc:isG s.sg z.2 4 [44]=false):
 vlQ s.sg one m ks0 x (ks0++ks++[z.1],Aq s.sg (Aw s.sg z.2 [44]) m):=by
 rw[DI hq] at hz
 have a:=b5l h hz hq hc
 refine⟨_,⟨a,?_⟩,?_⟩
 ·have:=QD hs h;simp;omega
 ·simp only[List.append_assoc]
theorem a6I{s:ST}{one:Ps→PR}{m:List UInt8}{ks0:List Int}{x y:Gs}{ks:List Int}{N:Nat}(hs:sgB s.sg)(h:lqJ s.sg one m x y ks N)(hb:y.bad=true):vlQ s.sg one m ks0 x (ks0++ks,y):=by
 refine⟨_,⟨b4K h.1 hb,?_⟩,by simp only[TF hb]⟩
 have:=QD hs h;simp only;omega
theorem a6J{s:ST}{one:Ps→PR}{m:List UInt8}{ks0:List Int}{x y:Gs}{ks:List Int}{N:Nat}(hs:sgB s.sg)(h:lqJ s.sg one m x y ks N)(hq:isG s.sg y 4 m=true):vlQ s.sg one m ks0 x (ks0++ks,Aw s.sg y m):=by
 refine⟨_,⟨b4L h.1 hq,?_⟩,by simp only[EH hq,JX hq]⟩
 have:=QD hs h;simp only;omega
theorem FT{s:ST}{y:Gs}{m:List UInt8}(h:rOk s y):rOk s (Aw s.sg y m):=by
 cases hq:isG s.sg y 4 m with
 |true=>rw[EH hq];exact⟨h.1,GC h.2 (Dp hq (by omega)).2⟩
 |false=>rw[DI hq];exact h
theorem Ig{s:ST}{y:Gs}{k:Int}(h:rOk s y)(hk:k≠0):rOk s (Bh s.sg y k):=by
 unfold Bh;split
 ·rename_i hq;exact⟨h.1,GC h.2 (TB hk hq).2⟩
 ·exact h
theorem Ow{s:ST}{y:Gs}{m:List UInt8}(h:rOk s y):Ag s.sg (Aw s.sg y m) (BS s.sg) (AU (Bh s.sg (Aw s.sg y m) 1),Am (Bh s.sg (Aw s.sg y m) 1) ⟨1,BC s.sg (Aw s.sg y m) 1,[],false⟩):=c0O h.1 (FT h).2
theorem Yz{s:ST}{y:Gs}{m:List UInt8}(h:rOk s y):rOk s (Am (Bh s.sg (Aw s.sg y m) 1) ⟨1,BC s.sg (Aw s.sg y m) 1,[],false⟩):=⟨h.1,Gi (Ow (m:=m) h)⟩
attribute [local irreducible] pE Bx Dg fnR Ag BF gsOk Aq CS Am Dq EE Aw Ec En AU CT pkG isG nmG kdG Bh BC BS vlQ lqJ saI
def Ft:Sig:= {X:=ST×Int×Int×Bool×List Nd,args:=fun x=>[srd x.1 (xg x)],pre:=fun x=>rOk x.1 (xg x),Y:=Unit,post:=fun x y=>True,res:=fun x y=> .bool (arG x.1.sg (xg x)),outs:=fun x y=>[srd x.1 (xg x)],keep:=true}
def TL(x:ST×Int×Int×Bool×List Nd):LS:= {ι:=Int×Nat,inv:=fun i=>saI x.1.sg (xg x).pos i.1 i.2,regs:=fun i=>[(0,srd x.1 (xg x)),(3,.int .i64 i.1)],als:=[],meas:=fun i=>i.2}
def YA(x:ST×Int×Int×Bool×List Nd)(i:Int×Nat):Prop:=((0:Int)≤i.1∧i.1<(↑(List.length x.1.sg):Int))∧∀(e:Sg),x.1.sg[Int.toNat i.1]? =some e→Aa (e.text== #[(41:UInt8)].toList) (((0:Int)≤i.1∧i.1<(↑(List.length x.1.sg):Int))∧∀(e:Sg),x.1.sg[Int.toNat i.1]? =some e→Aa (e.kind==(4:Int)) (inR IntKind.i64 (i.1+(1:Int))∧((0:Int)≤i.1+(1:Int)∧i.1+(1:Int)<(↑(List.length x.1.sg):Int))∧∀(e:Sg),x.1.sg[Int.toNat (i.1+(1:Int))]? =some e→Aa (e.text== #[(61:UInt8),(62:UInt8)].toList) (inR IntKind.i64 (i.1+(1:Int))∧((0:Int)≤i.1+(1:Int)∧i.1+(1:Int)<(↑(List.length x.1.sg):Int))∧∀(e:Sg),x.1.sg[Int.toNat (i.1+(1:Int))]? =some e→rA Ft x [.bool (e.kind==(4:Int)),srd x.1 (xg x)]) (rA Ft x [.bool false,srd x.1 (xg x)])) (rA Ft x [.bool false,srd x.1 (xg x)])) (rA Ft x [.bool false,srd x.1 (xg x)])
theorem c1k:Aj G Tryz.prog 225 Ft:=
 vcFun_okP [(90,0,Ee)] [] false (fun x=>[(5,TL x)]) Tryz.func225 rfl (by decide) ⟨QA,trivial⟩ (fun(x:ST×Int×Int×Bool×List Nd)=>True∧cA Ee [srd x.1 (xg x),.int .i64 (4:Int),.str #[(40:UInt8)].toList] fun x_1 y=>Aa (!isG x_1.1.sg (xh x_1) x_1.2.2.2.2.2.1 x_1.2.2.2.2.2.2) (rA Ft x [.bool false,srd x_1.1 (xh x_1)]) (inR IntKind.i64 ((xg x).pos+(1:Int))∧eA (TL x) [srd x_1.1 (xh x_1),.int .i64 ((xg x).pos+(1:Int))]∧∀(i:Int×Nat),saI x.1.sg (xg x).pos i.1 i.2→inR IntKind.i64 (i.1+(1:Int))∧Aa (decide (i.1+(1:Int)<(↑(List.length x.1.sg):Int))) (((0:Int)≤i.1∧i.1<(↑(List.length x.1.sg):Int))∧∀(e:Sg),x.1.sg[Int.toNat i.1]? =some e→Aa (e.kind==(1:Int)) (inR IntKind.i64 (i.1+(1:Int))∧((0:Int)≤i.1+(1:Int)∧i.1+(1:Int)<(↑(List.length x.1.sg):Int))∧∀(e:Sg),x.1.sg[Int.toNat (i.1+(1:Int))]? =some e→Aa (!e.text== #[(44:UInt8)].toList) (inR IntKind.i64 (i.1+(1:Int)+(1:Int))∧Aa (decide (i.1+(1:Int)+(1:Int)<(↑(List.length x.1.sg):Int))) (((0:Int)≤i.1+(1:Int)∧i.1+(1:Int)<(↑(List.length x.1.sg):Int))∧∀(e:Sg),x.1.sg[Int.toNat (i.1+(1:Int))]? =some e→Aa (e.text== #[(41:UInt8)].toList) (((0:Int)≤i.1+(1:Int)∧i.1+(1:Int)<(↑(List.length x.1.sg):Int))∧∀(e:Sg),x.1.sg[Int.toNat (i.1+(1:Int))]? =some e→Aa (e.kind==(4:Int)) (inR IntKind.i64 (i.1+(1:Int)+(1:Int))∧((0:Int)≤i.1+(1:Int)+(1:Int)∧i.1+(1:Int)+(1:Int)<(↑(List.length x.1.sg):Int))∧∀(e:Sg),x.1.sg[Int.toNat (i.1+(1:Int)+(1:Int))]? =some e→Aa (e.text== #[(61:UInt8),(62:UInt8)].toList) (inR IntKind.i64 (i.1+(1:Int)+(1:Int))∧((0:Int)≤i.1+(1:Int)+(1:Int)∧i.1+(1:Int)+(1:Int)<(↑(List.length x.1.sg):Int))∧∀(e:Sg),x.1.sg[Int.toNat (i.1+(1:Int)+(1:Int))]? =some e→rA Ft x [.bool (e.kind==(4:Int)),srd x.1 (xg x)]) (rA Ft x [.bool false,srd x.1 (xg x)])) (rA Ft x [.bool false,srd x.1 (xg x)])) (rA Ft x [.bool false,srd x.1 (xg x)])) (rA Ft x [.bool false,srd x.1 (xg x)])) (inR IntKind.i64 (i.1+(1:Int)+(1:Int))∧eN (TL x) i [srd x.1 (xg x),.int .i64 (i.1+(1:Int)+(1:Int))])) (inR IntKind.i64 (i.1+(1:Int))∧Aa (decide (i.1+(1:Int)<(↑(List.length x.1.sg):Int))) (YA x i) (rA Ft x [.bool false,srd x.1 (xg x)]))) (inR IntKind.i64 (i.1+(1:Int))∧Aa (decide (i.1+(1:Int)<(↑(List.length x.1.sg):Int))) (YA x i) (rA Ft x [.bool false,srd x.1 (xg x)])))) (fun x=>by kernel_rfl) fun(x:ST×Int×Int×Bool×List Nd) (hx:rOk x.1 (xg x))=>(by
 dsimp only[YA,cA,eA,eN,TL,Bu,Ba,rA,Ft,Ee,Db,sgs,srd,Au,Az,mvL,lnL,mvE,lnE,Br]
 obtain⟨s,p,d,b,ns⟩:=x;dsimp only[xg,xh] at hx ⊢
 have hx:rOk s ⟨p,d,b,ns⟩:=hx;have hs:=Hl hx;dsimp only at hs
 (repeat' first|(with_reducible first|rfl|exact True.intro|apply AK|apply And.intro|((first|apply AA|apply AI|apply AB|apply AJ)<;>intro _))|(apply Ax<;>intro _)|apply AH|refine Ae () ?_ ?_|((first|apply AO|apply AN|apply AM|apply AL|apply AG|apply AF|apply AE|apply AD|apply AC)<;>try dsimp only)|apply Ae|(refine Prod.forall.2 ?_;intro _;try dsimp only)|(intro _;try dsimp only))
 all_goals(try dsimp only[xg,xh,yG,yS,iG] at*)
 all_goals first
  |(show Nat;skip)
  |rfl
  |exact hx
  |exact c1e hs.1.1.1 hs.1.1.2
  |exact c1i (x:=⟨p,d,b,ns⟩) ‹_›
  |exact(a6D hs.1.1.1 ‹_› ‹_› (a6E ‹_› ‹_›) (a6F ‹_› ‹_›)).1
  |(have hq:=c1d (show saI _ _ _ _ by assumption);(try simp only[AQ]);omega)
  |omega
  |skip
 all_goals first
  |exact(a6D hs.1.1.1 ‹_› ‹_› (a6E ‹_› ‹_›) (a6F ‹_› ‹_›)).2
  |skip
 all_goals(repeat(rename s.sg[_]? =some _=>hq;have hq2:=JM hq;clear hq;subst hq2))
 all_goals first
  |(refine Yy (x:=⟨p,d,b,ns⟩) ‹_› (c1f ‹_› ‹_› ‹_› ‹_›) ?_;rw[Bool.eq_iff_iff];simp [FQ,JQ, *];done)
  |(refine Yy (x:=⟨p,d,b,ns⟩) ‹_› (c1g ‹_› ‹_›) ?_;rw[Bool.eq_iff_iff];simp [FQ,JQ, *];done)
  |(refine Yy (x:=⟨p,d,b,ns⟩) ‹_› (c1h ‹_› ‹_›) ?_;rw[Bool.eq_iff_iff];simp [FQ,JQ, *];done)
  |skip)
def GL(n:Nat):Sig:= {X:=ST×Int×Int×Bool×List Nd×List UInt8×List Int,args:=fun x=>[srd x.1 (xh x),.str x.2.2.2.2.2.1,Ab x.2.2.2.2.2.2],pre:=fun x=>wQ 11 n x.1 (xh x)∧x.2.2.2.2.2.2.length≤1,Y:=List Int×Int×Int×Bool×List Nd,post:=fun x y=>vlQ x.1.sg (pE x.1.sg n .value) x.2.2.2.2.2.1 x.2.2.2.2.2.2 (xh x) (yS y),res:=fun x y=>Ab y.1,outs:=fun x y=>[srd x.1 (yG y.2),.top,.top],keep:=true}
def TM(n:Nat)(x:ST×Int×Int×Bool×List Nd×List UInt8×List Int):LS:= {ι:=Int×Int×Bool×List Nd×List Int×Nat,inv:=fun i=>lqJ x.1.sg (pE x.1.sg n .value) x.2.2.2.2.2.1 (xh x) (iG i) i.2.2.2.2.1 i.2.2.2.2.2,regs:=fun i=>[(0,srd x.1 (iG i)),(1,.str x.2.2.2.2.2.1),(2,Ab (x.2.2.2.2.2.2++i.2.2.2.2.1))],als:=[],meas:=fun i=>i.2.2.2.2.2}
theorem YB(n:Nat)(h:qAll G n):Aj G Tryz.prog 110 (GL n):=
 vcFun_okP [(63,0,Ch),(91,0,(MA n)),(62,0,BQ)] [(25,⟨Int,AZ⟩)] false (fun x=>[(1,TM n x)]) Tryz.func110 rfl (by decide) ⟨Ic,h.val,IK,trivial⟩ (fun(x:ST×Int×Int×Bool×List Nd×List UInt8×List Int)=>True∧eA (TM n x) [srd x.1 (xh x),.str x.2.2.2.2.2.1,Ab x.2.2.2.2.2.2]∧∀(i:Int×Int×Bool×List Nd×List Int×Nat),lqJ x.1.sg (pE x.1.sg n NT.value) x.2.2.2.2.2.1 (xh x) (iG i) i.2.2.2.2.1 i.2.2.2.2.2→Aa (!(iG i).bad) (cA Ch [srd x.1 (iG i),.str x.2.2.2.2.2.1] fun x_1 y=>Aa (!isG x_1.1.sg (xh x_1) (4:Int) x_1.2.2.2.2.2) (cA (MA n) [srd x_1.1 (Aw x_1.1.sg (xh x_1) x_1.2.2.2.2.2)] fun x_2 y=>∃(x_3:Int),y.1=x_3∧∃(zs:List Int),Ab [x_3]=Ab zs∧Bo AZ∧AY (List.length (x.2.2.2.2.2.2++i.2.2.2.2.1)+List.length zs) (8:Nat)∧cA Ch [srd x_2.1 (yG y.2),.str #[(44:UInt8)].toList] fun x_4 y=>Aa (!isG x_4.1.sg (xh x_4) (4:Int) x_4.2.2.2.2.2) (cA BQ [srd x_4.1 (Aw x_4.1.sg (xh x_4) x_4.2.2.2.2.2),.str x.2.2.2.2.2.1] fun x_5 y=>rA (GL n) x [Ab (x.2.2.2.2.2.2++i.2.2.2.2.1++zs),srd x_5.1 (Aq x_5.1.sg (xh x_5) x_5.2.2.2.2.2),.top,.top]) (eN (TM n x) i [srd x_4.1 (Aw x_4.1.sg (xh x_4) x_4.2.2.2.2.2),.str x.2.2.2.2.2.1,Ab (x.2.2.2.2.2.2++i.2.2.2.2.1++zs)])) (rA (GL n) x [Ab (x.2.2.2.2.2.2++i.2.2.2.2.1),srd x_1.1 (Aw x_1.1.sg (xh x_1) x_1.2.2.2.2.2),.top,.top])) (rA (GL n) x [Ab (x.2.2.2.2.2.2++i.2.2.2.2.1),srd x.1 (iG i),.top,.top])) (fun x=>by kernel_rfl) fun(x:ST×Int×Int×Bool×List Nd×List UInt8×List Int) (hx:wQ 11 n x.1 (xh x)∧x.2.2.2.2.2.2.length≤1)=>(by
 dsimp only[cA,eA,eN,TM,Bu,Ab,Ba,rA,Ch,MA,GL,BQ,Db,sgs,srd,Au,Az,mvL,lnL,mvE,lnE,Br]
 obtain⟨s,p,d,b,ns,m,ks0⟩:=x;dsimp only[xg,xh] at hx ⊢
 obtain⟨hx,hk0⟩:=hx
 have hx:wQ 11 n s ⟨p,d,b,ns⟩:=hx
 have hs:=hx.1.1.1.1;have h1:=hx.1.1.1
 (repeat' first|(with_reducible first|rfl|exact True.intro|apply AK|apply And.intro|((first|apply AA|apply AI|apply AB|apply AJ)<;>intro _))|(apply Ax<;>intro _)|apply AH|refine Ae () ?_ ?_|((first|apply AO|apply AN|apply AM|apply AL|apply AG|apply AF|apply AE|apply AD|apply AC)<;>try dsimp only)|apply Ae|(refine Prod.forall.2 ?_;intro _;try dsimp only)|(intro _;try dsimp only))
 all_goals(try dsimp only[xg,xh,yG,yS,iG] at*)
 all_goals(try simp only[GD] at*)
 all_goals first
  |(show Nat;skip)
  |rfl
  |exact h1
  |exact a6G h1.2
  |exact JY hs ‹_›
  |exact c1j hx ‹_› ‹_› ‹_›
  |exact Fm h1 ‹_›
  |exact FT (Fm h1 ‹_›)
  |exact(TK ‹_› ‹_› ‹_› ‹_›).1
  |exact a6H hs ‹_› ‹_› ‹_› ‹_›
  |exact a6I hs ‹_› ‹_›
  |exact a6J hs ‹_› ‹_›
  |(simp;done)
  |(have hq:=QD hs (show lqJ _ _ _ _ _ _ _ by assumption);(try simp only[AY,List.length_append,List.length_cons,List.length_nil]);omega)
  |skip
 all_goals first
  |exact(TK ‹_› ‹_› ‹_› ‹_›).2
  |(simp;done)
  |skip)
def GM:Sig:= {X:=ST×Int×Int×Bool×List Nd,args:=fun x=>[srd x.1 (xg x)],pre:=fun x=>rOk x.1 (xg x),Y:=List Int×Int×Int×Bool×List Nd,post:=fun x y=>vlQ x.1.sg (BS x.1.sg) [41] [] (Aq x.1.sg (xg x) [40]) (yS y),res:=fun x y=>Ab y.1,outs:=fun x y=>[srd x.1 (yG y.2)],keep:=true}
def TN(x:ST×Int×Int×Bool×List Nd):LS:= {ι:=Int×Int×Bool×List Nd×List Int×Nat,inv:=fun i=>lqJ x.1.sg (BS x.1.sg) [41] (Aq x.1.sg (xg x) [40]) (iG i) i.2.2.2.2.1 i.2.2.2.2.2,regs:=fun i=>[(0,srd x.1 (iG i)),(3,Ab i.2.2.2.2.1)],als:=[],meas:=fun i=>i.2.2.2.2.2}
theorem YC:Aj G Tryz.prog 64 GM:=
 vcFun_okP [(63,0,Ch),(62,0,BQ),(36,0,Bt),(59,0,CH)] [(25,⟨Int,AZ⟩)] false (fun x=>[(3,TN x)]) Tryz.func64 rfl (by decide) ⟨Ic,IK,Ie,KY,trivial⟩ (fun(x:ST×Int×Int×Bool×List Nd)=>True∧cA BQ [srd x.1 (xg x),.str #[(40:UInt8)].toList] fun x_1 y=>eA (TN x) [srd x_1.1 (Aq x_1.1.sg (xh x_1) x_1.2.2.2.2.2),Ab []]∧∀(i:Int×Int×Bool×List Nd×List Int×Nat),lqJ x.1.sg (BS x.1.sg) [(41:UInt8)] (Aq x.1.sg (xg x) [(40:UInt8)]) (iG i) i.2.2.2.2.1 i.2.2.2.2.2→Aa (!(iG i).bad) (cA Ch [srd x.1 (iG i),.str #[(41:UInt8)].toList] fun x_2 y=>Aa (!isG x_2.1.sg (xh x_2) (4:Int) x_2.2.2.2.2.2) (cA CH [srd x_2.1 (Aw x_2.1.sg (xh x_2) x_2.2.2.2.2.2),.int .i64 (1:Int)] fun x_3 y=>cA Bt [srd x_3.1 (Bh x_3.1.sg (xh x_3) x_3.2.2.2.2.2),.int .i64 (1:Int),.str (BC x_3.1.sg (xh x_3) x_3.2.2.2.2.2),Ab []] fun x_4 y=>∃(x_5:Int),AU (xh x_4)=x_5∧∃(zs:List Int),Ab [x_5]=Ab zs∧Bo AZ∧AY (List.length i.2.2.2.2.1+List.length zs) (8:Nat)∧cA Ch [srd x_4.1 (Am (xh x_4) {kind:=x_4.2.2.2.2.2.1,text:=x_4.2.2.2.2.2.2.1,kids:=x_4.2.2.2.2.2.2.2,blank:=false}),.str #[(44:UInt8)].toList] fun x_6 y=>Aa (!isG x_6.1.sg (xh x_6) (4:Int) x_6.2.2.2.2.2) (cA BQ [srd x_6.1 (Aw x_6.1.sg (xh x_6) x_6.2.2.2.2.2),.str #[(41:UInt8)].toList] fun x_7 y=>rA GM x [Ab (i.2.2.2.2.1++zs),srd x_7.1 (Aq x_7.1.sg (xh x_7) x_7.2.2.2.2.2)]) (eN (TN x) i [srd x_6.1 (Aw x_6.1.sg (xh x_6) x_6.2.2.2.2.2),Ab (i.2.2.2.2.1++zs)])) (rA GM x [Ab i.2.2.2.2.1,srd x_2.1 (Aw x_2.1.sg (xh x_2) x_2.2.2.2.2.2)])) (rA GM x [Ab i.2.2.2.2.1,srd x.1 (iG i)])) (fun x=>by kernel_rfl) fun(x:ST×Int×Int×Bool×List Nd) (hx:rOk x.1 (xg x))=>(by
 dsimp only[cA,eA,eN,TN,Bu,Ab,Ba,rA,Ch,GM,Bt,CH,BQ,Db,sgs,srd,Au,Az,mvL,lnL,mvE,lnE,Br]
 obtain⟨s,p,d,b,ns⟩:=x;dsimp only[xg,xh] at hx ⊢
 have h1:rOk s ⟨p,d,b,ns⟩:=hx;have hs:=h1.1
 have t:=Hp (m:=[40]) h1
 (repeat' first|(with_reducible first|rfl|exact True.intro|apply AK|apply And.intro|((first|apply AA|apply AI|apply AB|apply AJ)<;>intro _))|(apply Ax<;>intro _)|apply AH|refine Ae () ?_ ?_|((first|apply AO|apply AN|apply AM|apply AL|apply AG|apply AF|apply AE|apply AD|apply AC)<;>try dsimp only)|apply Ae|(refine Prod.forall.2 ?_;intro _;try dsimp only)|(intro _;try dsimp only))
 all_goals(try dsimp only[xg,xh,yG,yS,iG] at*)
 all_goals(try simp only[GD] at*)
 all_goals first
  |(show Nat;skip)
  |rfl
  |exact h1
  |omega
  |exact a6G t.1.2
  |exact JY hs ‹_›
  |exact FT (JY hs ‹_›)
  |exact Ig (FT (JY hs ‹_›)) (by omega)
  |exact Yz (JY hs ‹_›)
  |exact FT (Yz (JY hs ‹_›))
  |exact(TK ‹_› ‹_› (Ow (JY hs ‹_›)) ‹_›).1
  |exact a6H (ks0:=[]) hs ‹_› ‹_› (Ow (JY hs ‹_›)) ‹_›
  |exact a6I (ks0:=[]) hs ‹_› ‹_›
  |exact a6J (ks0:=[]) hs ‹_› ‹_›
  |(have hq:=QD hs (show lqJ _ _ _ _ _ _ _ by assumption);(try simp only[AY,List.length_append,List.length_cons,List.length_nil]);omega)
  |skip
 all_goals first
  |exact(TK ‹_› ‹_› (Ow (JY hs ‹_›)) ‹_›).2
  |skip)
end Go.My
end
section
namespace Go.My
open Go.Eng Go.Proofs
variable {G:GInv}
theorem JZ{sg:List Sg}{x:Gs}{k:Int}(h:kdG sg x k=false)(hk:k≠1):(pkG sg x 0).kind≠k:=by
 rw[QB hk] at h;simpa using h
theorem c1l{sg:List Sg}{x:Gs}{n:Nat}{k:Int}{y:Gs}(hs:sgB sg)(h:gsOk sg x)(h1:kdG sg x 1=false)(hk:(pkG sg x 0).kind=1)(hy:y=Bw x):Ag sg x (pE sg (n+1) .base) (k,y):=by
 have a:=a4w (n:=n) hs h hk
 rw[Jp] at h1
 rw[En,Ec,if_neg (by simp [h1]),if_neg (by simp [h1])] at a
 subst hy
 exact Ou a h rfl (Int.le_refl _) rfl (fun hb=>by simp [Bw] at hb)
theorem c1m{sg:List Sg}{x:Gs}{n:Nat}(hs:sgB sg)(h:gsOk sg x)(h1:kdG sg x 1=true):Ag sg x (pE sg (n+1) .base) (AU (Bh sg x 1),Am (Bh sg x 1) ⟨1,BC sg x 1,[],false⟩):=by
 have hn:=h1
 rw[Jp] at hn
 have a:=a4w (n:=n) hs h (by simp [nmG] at hn;exact hn.1)
 rw[En,Ec,if_pos hn,if_pos hn] at a
 exact Ov hs h (by omega) h1 a
theorem a6K{sg:List Sg}{x:Gs}{n:Nat}{k:Int}(hs:sgB sg)(h:gsOk sg x)(hk:k=2∨k=3)(h1:kdG sg x k=true):Ag sg x (pE sg (n+1) .base) (AU (Bh sg x k),Am (Bh sg x k) ⟨k,BC sg x k,[],false⟩):=by
 have hn:=h1
 rw[QB (by omega)] at hn
 exact Ov hs h (by omega) h1 (b5a hs h (by simpa using hn) hk)
theorem YD{sg:List Sg}{x:Gs}{m:List UInt8}(hq:isG sg x 4 m=true):(pkG sg x 0).kind≠1:=by
 simp [isG] at hq;rw[hq.1];omega
theorem c1n{s:ST}{x:Gs}{n:Nat}{v:List Int×Gs}(h:rOk s x)(h1:kdG s.sg x 1=false)(h2:kdG s.sg x 2=false)(h3:kdG s.sg x 3=false)(hq:isG s.sg x 4 [91]=true)(hv:vlQ s.sg (pE s.sg n .value) [93] [] (Aw s.sg x [91]) v):
 Ag s.sg x (pE s.sg (n+1) .base) (AU v.2,Am v.2 ⟨4,[],v.1,false⟩):=by
 rw[EH hq] at hv
 obtain⟨l,⟨a,b⟩,rfl⟩:=hv
 exact IL a.1 ⟨by simp,by simp;omega⟩ (b5b h.2 (YD hq) (JZ h2 (by omega)) (JZ h3 (by omega)) hq a b)
theorem c1o{s:ST}{x:Gs}{n:Nat}{v:List Int×Gs}{z:Int×Gs}(hm:sgM s.sg)(h:rOk s x)(h1:kdG s.sg x 1=false)(h2:kdG s.sg x 2=false)(h3:kdG s.sg x 3=false)(hn:isG s.sg x 4 [91]=false)(ha:arG s.sg (Aw s.sg x [91])=true)
 (hv:vlQ s.sg (BS s.sg) [41] [] (Aq s.sg (Aw s.sg x [91]) [40]) v) (hz:Ag s.sg (Aq s.sg v.2 [61,62]) (pE s.sg n .pick) z):Ag s.sg x (pE s.sg (n+1) .base) (AU z.2,Am z.2 ⟨9,[],v.1++[z.1],false⟩):=by
 rw[DI hn] at ha hv
 simp only[arG,Bool.and_eq_true] at ha
 obtain⟨l,⟨a,b⟩,rfl⟩:=hv
 refine c1b hm h.2 (YD ha.1) (JZ h2 (by omega)) (JZ h3 (by omega)) hn ha.1 (fun s0 hs=> ?_) (b5e (l:=l) h.2 a b hz)
 obtain⟨_,rfl⟩:=EW.1 hs;exact ha.2
theorem c1p{s:ST}{x:Gs}{n:Nat}{z:Int×Gs}(hm:sgM s.sg)(h:rOk s x)(h1:kdG s.sg x 1=false)(h2:kdG s.sg x 2=false)(h3:kdG s.sg x 3=false)(hn:isG s.sg x 4 [91]=false)(ha:arG s.sg (Aw s.sg x [91])=false)(hb:(Aq s.sg (Aw s.sg x [91]) [40]).bad=false)
 (hz:Ag s.sg (Aq s.sg (Aw s.sg x [91]) [40]) (pE s.sg n .value) z):Ag s.sg x (pE s.sg (n+1) .base) (AU (Aq s.sg z.2 [41]),Am (Aq s.sg z.2 [41]) ⟨11,[],[z.1],false⟩):=by
 rw[DI hn] at ha hb hz
 have hq:isG s.sg x 4 [40]=true:=by
  cases hq:isG s.sg x 4 [40] with
  |true=>rfl
  |false=>rw[QC hq] at hb;cases hb
 rw[JX hq] at hz
 simp only[arG,hq,Bool.true_and] at ha
 refine c1c hm h.2 (YD hq) (JZ h2 (by omega)) (JZ h3 (by omega)) hn hq (fun s0 hs=> ?_) hz
 obtain⟨_,rfl⟩:=EW.1 hs;exact ha
theorem c1q{s:ST}{x:Gs}{n:Nat}{k:Int}(h:rOk s x)(h1:kdG s.sg x 1=false)(h2:kdG s.sg x 2=false)(h3:kdG s.sg x 3=false)(hn:isG s.sg x 4 [91]=false)(hx:x.bad=false)(hb:(Aq s.sg (Aw s.sg x [91]) [40]).bad=true):
 Ag s.sg x (pE s.sg (n+1) .base) (k,Aq s.sg (Aw s.sg x [91]) [40]):=by
 rw[DI hn] at hb ⊢
 have hq:isG s.sg x 4 [40]=false:=by
  cases hq:isG s.sg x 4 [40] with
  |false=>rfl
  |true=>rw[JX hq] at hb;simp only[An] at hb;rw[hx] at hb;cases hb
 rw[QC hq]
 rcases Classical.em ((pkG s.sg x 0).kind=1) with e|e
 ·exact c1l h.1 h.2 h1 e rfl
 ·exact b5d h.2 e (JZ h2 (by omega)) (JZ h3 (by omega)) hn hq
theorem c1r{s:ST}{x:Gs}{n:Nat}(hx:wQ 1 (n+1) s x)(hq:isG s.sg x 4 [91]=true):wQ 11 n s (Aw s.sg x [91]):=by
 rw[EH hq];exact⟨(a4x hq (by omega) hx.1.1.1 hx.1.1.2 hx.1.2 (by omega)).1,hx.2⟩
theorem c1s{s:ST}{x:Gs}{n:Nat}{v:List Int×Gs}(hx:wQ 1 (n+1) s x)(hn:isG s.sg x 4 [91]=false)(ha:arG s.sg (Aw s.sg x [91])=true)(hv:vlQ s.sg (BS s.sg) [41] [] (Aq s.sg (Aw s.sg x [91]) [40]) v):vQ 10 n s (Aq s.sg v.2 [61,62]):=by
 rw[DI hn] at ha hv
 simp only[arG,Bool.and_eq_true] at ha
 obtain⟨l,a,rfl⟩:=hv
 exact⟨b5r (x:=x) (n:=n) (l:=l) hx.1.1.1 (hx.1.1.2 (Dp ha.1 (by omega)).1) ha.1 (by have:=hx.1.2;omega) a,hx.2⟩
theorem c1t{s:ST}{x:Gs}{n:Nat}(hx:wQ 1 (n+1) s x)(hn:isG s.sg x 4 [91]=false)(hb:(Aq s.sg (Aw s.sg x [91]) [40]).bad=false):vQ 11 n s (Aq s.sg (Aw s.sg x [91]) [40]):=by
 rw[DI hn] at hb ⊢
 have hq:isG s.sg x 4 [40]=true:=by
  cases hq:isG s.sg x 4 [40] with
  |true=>rfl
  |false=>rw[QC hq] at hb;cases hb
 rw[JX hq];exact⟨(a4x hq (by omega) hx.1.1.1 hx.1.1.2 hx.1.2 (by omega)).2,hx.2⟩
theorem YE{s:ST}{one:Ps→PR}{m:List UInt8}{ks0:List Int}{x:Gs}{y:List Int×Gs}(hs:sgB s.sg)(h:vlQ s.sg one m ks0 x y):rOk s y.2:=(Yx hs h).1
theorem YF{s:ST}{one:Ps→PR}{m:List UInt8}{ks0:List Int}{x:Gs}{y:List Int×Gs}(hs:sgB s.sg)(h:vlQ s.sg one m ks0 x y):y.1.length≤ks0.length+3001:=(Yx hs h).2.1
def eqJ(sg:List Sg)(n:Nat)(x y:Gs)(k:Int)(N:Nat):Prop:=enI sg n x y k N∧(y.bad=false→y.deep≤20)
theorem c1u{s:ST}{x:Gs}{n:Nat}{z:Int×Gs}(hx:wQ 2 (n+1) s x)(hz:Ag s.sg x (pE s.sg n .base) z):eqJ s.sg n x z.2 z.1 (s.sg.length+1):=b5t hx.1.1.1 hx.1.1.2 hz
theorem a6L{s:ST}{x y:Gs}{n:Nat}{k:Int}{N:Nat}(hx:wQ 2 (n+1) s x)(h:eqJ s.sg n x y k N):rOk s y:=⟨hx.1.1.1.1,h.1.1.1⟩
theorem c1v{s:ST}{x y:Gs}{n:Nat}{k:Int}{N:Nat}(hx:wQ 2 (n+1) s x)(h:eqJ s.sg n x y k N)(hq:isG s.sg y 4 [40]=true):wQ 11 n s (Aw s.sg y [40]):=by
 have hb:=(Dp hq (by omega)).1
 have:=h.1.2.2 hb;have:=hx.1.2
 have hl:=Dp hq (by omega)
 rw[EH hq]
 have e1:(An y).pos=y.pos+1:=rfl
 have e2:(An y).deep=y.deep:=rfl
 exact⟨⟨⟨⟨hx.1.1.1.1,GC h.1.1.1 hl.2⟩,fun _=>by rw[e2];exact h.2 hb⟩,by omega⟩,hx.2⟩
theorem a6M{s:ST}{x y:Gs}{n:Nat}{k:Int}{N:Nat}{v:List Int×Gs}(hx:wQ 2 (n+1) s x)(h:eqJ s.sg n x y k N)(hq:isG s.sg y 4 [40]=true)(hv:vlQ s.sg (pE s.sg n .value) [41] [k] (Aw s.sg y [40]) v):
 eqJ s.sg n x (Am v.2 ⟨5,[],v.1,false⟩) (AU v.2) (N-1)∧N-1<N:=by
 rw[EH hq,←JX hq] at hv
 have hw:=a6C h.1.1.1 hv
 exact b5u h hw hq
theorem a6N{s:ST}{x y:Gs}{n:Nat}{k:Int}{N:Nat}(hx:wQ 2 (n+1) s x)(h:eqJ s.sg n x y k N)(hp:isG s.sg y 4 [40]=false)(hq:isG s.sg (Aw s.sg y [40]) 4 [46]=true):
 eqJ s.sg n x (Am (Bh s.sg (Aw s.sg (Aw s.sg y [40]) [46]) 1) ⟨6,BC s.sg (Aw s.sg (Aw s.sg y [40]) [46]) 1,[k],false⟩) (AU (Bh s.sg (Aw s.sg (Aw s.sg y [40]) [46]) 1)) (N-1)∧N-1<N:=by
 rw[DI hp] at hq ⊢
 rw[EH hq]
 obtain⟨a,b⟩:=c0X hx.1.1.1.1 h.1 hp hq
 refine⟨⟨a,fun _=> ?_⟩,b⟩
 rw[Xf]
 have:=h.2 (Dp hq (by omega)).1
 have e:(Bh s.sg (An y) 1).deep=y.deep:=by unfold Bh;split<;>rfl
 omega
theorem YG{s:ST}{x y:Gs}{n:Nat}{k:Int}{N:Nat}(hx:wQ 2 (n+1) s x)(h:eqJ s.sg n x y k N):rOk s (Aw s.sg y [40])∧rOk s (Aw s.sg (Aw s.sg y [40]) [46])∧rOk s (Bh s.sg (Aw s.sg (Aw s.sg y [40]) [46]) 1):=
 have a:=FT (m:=[40]) (a6L hx h)
 ⟨a,FT a,Ig (FT a) (by omega)⟩
theorem c1w{s:ST}{x y:Gs}{n:Nat}{k:Int}{N:Nat}(h:eqJ s.sg n x y k N)(hb:y.bad=true):Ag s.sg x (pE s.sg (n+1) .fin) (k,y):=b4V h.1 hb
theorem c1x{s:ST}{x y:Gs}{n:Nat}{k:Int}{N:Nat}(h:eqJ s.sg n x y k N)(hb:y.bad=false)(hp:isG s.sg y 4 [40]=false)(hq:isG s.sg (Aw s.sg y [40]) 4 [46]=false):Ag s.sg x (pE s.sg (n+1) .fin) (k,Aw s.sg (Aw s.sg y [40]) [46]):=by
 rw[DI hp] at hq ⊢
 rw[DI hq];exact b4Z h.1 hb hp hq
attribute [local irreducible] pE Bx Dg fnR Ag BF gsOk Aq CS Am Dq EE Aw Ec En AU CT pkG isG nmG kdG Bh BC BS vlQ lqJ saI arG eqJ
def Jq(n:Nat):Sig:= {X:=ST×Int×Int×Bool×List Nd,args:=fun x=>[srd x.1 (xg x)],pre:=fun x=>wQ 1 (n+1) x.1 (xg x),Y:=Int×Int×Int×Bool×List Nd,post:=fun x y=>Ag x.1.sg (xg x) (pE x.1.sg (n+1) .base) (yS y),res:=fun x y=> .int .i64 y.1,outs:=fun x y=>[srd x.1 (yG y.2)],keep:=true}
theorem c1y(n:Nat)(h:qAll G n):Aj G Tryz.prog 206 (Jq n):=
 vcFun_okP [(58,0,Ef),(59,0,CH),(36,0,Bt),(63,0,Ch),(110,0,(GL n)),(225,0,Ft),(64,0,GM),(62,0,BQ),(109,0,(Hu n)),(91,0,(MA n))] [(25,⟨Int,AZ⟩)] false (fun x=>[]) Tryz.func206 rfl (by decide) ⟨TC,KY,Ie,Ic,(YB n h),c1k,YC,IK,h.pick,h.val,trivial⟩ (fun(x:ST×Int×Int×Bool×List Nd)=>True∧Aa (xg x).bad (rA (Jq n) x [.int .i64 (0:Int),srd x.1 (xg x)]) (cA Ef [srd x.1 (xg x),.int .i64 (1:Int)] fun x_1 y=>Aa (kdG x_1.1.sg (xh x_1) x_1.2.2.2.2.2) (cA CH [srd x_1.1 (xh x_1),.int .i64 (1:Int)] fun x_2 y=>cA Bt [srd x_2.1 (Bh x_2.1.sg (xh x_2) x_2.2.2.2.2.2),.int .i64 (1:Int),.str (BC x_2.1.sg (xh x_2) x_2.2.2.2.2.2),Ab []] fun x_3 y=>rA (Jq n) x [.int .i64 (AU (xh x_3)),srd x_3.1 (Am (xh x_3) {kind:=x_3.2.2.2.2.2.1,text:=x_3.2.2.2.2.2.2.1,kids:=x_3.2.2.2.2.2.2.2,blank:=false})]) (cA Ef [srd x_1.1 (xh x_1),.int .i64 (2:Int)] fun x_2 y=>Aa (kdG x_2.1.sg (xh x_2) x_2.2.2.2.2.2) (cA CH [srd x_2.1 (xh x_2),.int .i64 (2:Int)] fun x_3 y=>cA Bt [srd x_3.1 (Bh x_3.1.sg (xh x_3) x_3.2.2.2.2.2),.int .i64 (2:Int),.str (BC x_3.1.sg (xh x_3) x_3.2.2.2.2.2),Ab []] fun x_4 y=>rA (Jq n) x [.int .i64 (AU (xh x_4)),srd x_4.1 (Am (xh x_4) {kind:=x_4.2.2.2.2.2.1,text:=x_4.2.2.2.2.2.2.1,kids:=x_4.2.2.2.2.2.2.2,blank:=false})]) (cA Ef [srd x_2.1 (xh x_2),.int .i64 (3:Int)] fun x_3 y=>Aa (kdG x_3.1.sg (xh x_3) x_3.2.2.2.2.2) (cA CH [srd x_3.1 (xh x_3),.int .i64 (3:Int)] fun x_4 y=>cA Bt [srd x_4.1 (Bh x_4.1.sg (xh x_4) x_4.2.2.2.2.2),.int .i64 (3:Int),.str (BC x_4.1.sg (xh x_4) x_4.2.2.2.2.2),Ab []] fun x_5 y=>rA (Jq n) x [.int .i64 (AU (xh x_5)),srd x_5.1 (Am (xh x_5) {kind:=x_5.2.2.2.2.2.1,text:=x_5.2.2.2.2.2.2.1,kids:=x_5.2.2.2.2.2.2.2,blank:=false})]) (cA Ch [srd x_3.1 (xh x_3),.str #[(91:UInt8)].toList] fun x_4 y=>Aa (isG x_4.1.sg (xh x_4) (4:Int) x_4.2.2.2.2.2) (cA (GL n) [srd x_4.1 (Aw x_4.1.sg (xh x_4) x_4.2.2.2.2.2),.str #[(93:UInt8)].toList,Ab []] fun x_5 y=>cA Bt [srd x_5.1 (yG y.2),.int .i64 (4:Int),.str #[].toList,Ab y.1] fun x_6 y=>rA (Jq n) x [.int .i64 (AU (xh x_6)),srd x_6.1 (Am (xh x_6) {kind:=x_6.2.2.2.2.2.1,text:=x_6.2.2.2.2.2.2.1,kids:=x_6.2.2.2.2.2.2.2,blank:=false})]) (cA Ft [srd x_4.1 (Aw x_4.1.sg (xh x_4) x_4.2.2.2.2.2)] fun x_5 y=>Aa (arG x_5.1.sg (xg x_5)) (cA GM [srd x_5.1 (xg x_5)] fun x_6 y=>cA BQ [srd x_6.1 (yG y.2),.str #[(61:UInt8),(62:UInt8)].toList] fun x_7 y_1=>cA (Hu n) [srd x_7.1 (Aq x_7.1.sg (xh x_7) x_7.2.2.2.2.2)] fun x_8 y_2=>∃(x_9:Int),y_2.1=x_9∧∃(zs:List Int),Ab [x_9]=Ab zs∧Bo AZ∧AY (List.length y.1+List.length zs) (8:Nat)∧cA Bt [srd x_8.1 (yG y_2.2),.int .i64 (9:Int),.str #[].toList,Ab (y.1++zs)] fun x_10 y=>rA (Jq n) x [.int .i64 (AU (xh x_10)),srd x_10.1 (Am (xh x_10) {kind:=x_10.2.2.2.2.2.1,text:=x_10.2.2.2.2.2.2.1,kids:=x_10.2.2.2.2.2.2.2,blank:=false})]) (cA BQ [srd x_5.1 (xg x_5),.str #[(40:UInt8)].toList] fun x_6 y=>Aa (Aq x_6.1.sg (xh x_6) x_6.2.2.2.2.2).bad (rA (Jq n) x [.int .i64 (0:Int),srd x_6.1 (Aq x_6.1.sg (xh x_6) x_6.2.2.2.2.2)]) (cA (MA n) [srd x_6.1 (Aq x_6.1.sg (xh x_6) x_6.2.2.2.2.2)] fun x_7 y=>cA BQ [srd x_7.1 (yG y.2),.str #[(41:UInt8)].toList] fun x_8 y_1=>∃(x_9:Int),y.1=x_9∧cA Bt [srd x_8.1 (Aq x_8.1.sg (xh x_8) x_8.2.2.2.2.2),.int .i64 (11:Int),.str #[].toList,Ab [x_9]] fun x_10 y=>rA (Jq n) x [.int .i64 (AU (xh x_10)),srd x_10.1 (Am (xh x_10) {kind:=x_10.2.2.2.2.2.1,text:=x_10.2.2.2.2.2.2.1,kids:=x_10.2.2.2.2.2.2.2,blank:=false})])))))))) (fun x=>by kernel_rfl) fun(x:ST×Int×Int×Bool×List Nd) (hx:wQ 1 (n+1) x.1 (xg x))=>(by
 dsimp only[cA,Bu,Ab,Ba,rA,Ft,Jq,Ef,Ch,GM,Hu,Bt,CH,MA,GL,BQ,Db,sgs,srd,Au,Az,mvL,lnL,mvE,lnE]
 obtain⟨s,p,d,b,ns⟩:=x;dsimp only[xg,xh] at hx ⊢
 have hx:wQ 1 (n+1) s ⟨p,d,b,ns⟩:=hx
 have h1:=hx.1.1.1;have hs:=h1.1
 (repeat' first|(with_reducible first|rfl|exact True.intro|apply AK|apply And.intro|((first|apply AA|apply AI|apply AB|apply AJ)<;>intro _))|(apply Ax<;>intro _)|apply AH|refine Ae () ?_ ?_|((first|apply AO|apply AN|apply AM|apply AL|apply AG|apply AF|apply AE|apply AD|apply AC)<;>try dsimp only)|apply Ae|(refine Prod.forall.2 ?_;intro _;try dsimp only)|(intro _;try dsimp only))
 all_goals(try dsimp only[xg,xh,yG,yS,iG] at*)
 all_goals(try simp only[GD] at*)
 all_goals first
  |rfl
  |exact h1
  |omega
  |(simp;done)
  |exact a6B h1.2 ‹_›
  |exact c1m hs h1.2 ‹_›
  |exact a6K hs h1.2 (.inl rfl) ‹_›
  |exact a6K hs h1.2 (.inr rfl) ‹_›
  |exact Ig h1 (by omega)
  |exact c1r hx ‹_›
  |exact c1n h1 ‹_› ‹_› ‹_› ‹_› ‹_›
  |exact YE hs ‹_›
  |exact FT h1
  |exact c1s hx ‹_› ‹_› ‹_›
  |exact c1t hx ‹_› ‹_›
  |exact(Hp (FT h1)).1
  |exact Fm h1 ‹_›
  |exact(Hp (Fm h1 ‹_›)).1
  |exact c1o hx.2 h1 ‹_› ‹_› ‹_› ‹_› ‹_› ‹_› ‹_›
  |exact c1p hx.2 h1 ‹_› ‹_› ‹_› ‹_› ‹_› ‹_› ‹_›
  |exact c1q h1 ‹_› ‹_› ‹_› ‹_› ‹_› ‹_›
  |(have hq:=YF hs (show vlQ _ _ _ [] _ _ by assumption);(try simp only[AY,List.length_append,List.length_cons,List.length_nil] at*);omega)
  |skip)
def TO(n:Nat):Sig:= {X:=ST×Int×Int×Bool×List Nd,args:=fun x=>[srd x.1 (xg x)],pre:=fun x=>wQ 2 (n+1) x.1 (xg x),Y:=Int×Int×Int×Bool×List Nd,post:=fun x y=>Ag x.1.sg (xg x) (pE x.1.sg (n+1) .fin) (yS y),res:=fun x y=> .int .i64 y.1,outs:=fun x y=>[srd x.1 (yG y.2)],keep:=true}
def QE(n:Nat)(x:ST×Int×Int×Bool×List Nd):LS:= {ι:=Int×Int×Bool×List Nd×Int×Nat,inv:=fun i=>eqJ x.1.sg n (xg x) (iG i) i.2.2.2.2.1 i.2.2.2.2.2,regs:=fun i=>[(0,srd x.1 (iG i)),(3,.int .i64 i.2.2.2.2.1)],als:=[],meas:=fun i=>i.2.2.2.2.2}
theorem c1z(n:Nat)(h:qAll G n):Aj G Tryz.prog 180 (TO n):=
 vcFun_okP [(206,0,(TJ n)),(63,0,Ch),(110,0,(GL n)),(36,0,Bt),(59,0,CH)] [(25,⟨Int,AZ⟩)] false (fun x=>[(2,QE n x)]) Tryz.func180 rfl (by decide) ⟨h.base,Ic,(YB n h),Ie,KY,trivial⟩ (fun(x:ST×Int×Int×Bool×List Nd)=>True∧cA (TJ n) [srd x.1 (xg x)] fun x_1 y=>eA (QE n x) [srd x_1.1 (yG y.2),.int .i64 y.1]∧∀(i:Int×Int×Bool×List Nd×Int×Nat),eqJ x.1.sg n (xg x) (iG i) i.2.2.2.2.1 i.2.2.2.2.2→Aa (!(iG i).bad) (cA Ch [srd x.1 (iG i),.str #[(40:UInt8)].toList] fun x_2 y=>Aa (isG x_2.1.sg (xh x_2) (4:Int) x_2.2.2.2.2.2) (∃(x_3:Int),i.2.2.2.2.1=x_3∧cA (GL n) [srd x_2.1 (Aw x_2.1.sg (xh x_2) x_2.2.2.2.2.2),.str #[(41:UInt8)].toList,Ab [x_3]] fun x_4 y=>cA Bt [srd x_4.1 (yG y.2),.int .i64 (5:Int),.str #[].toList,Ab y.1] fun x_5 y=>eN (QE n x) i [srd x_5.1 (Am (xh x_5) {kind:=x_5.2.2.2.2.2.1,text:=x_5.2.2.2.2.2.2.1,kids:=x_5.2.2.2.2.2.2.2,blank:=false}),.int .i64 (AU (xh x_5))]) (cA Ch [srd x_2.1 (Aw x_2.1.sg (xh x_2) x_2.2.2.2.2.2),.str #[(46:UInt8)].toList] fun x_3 y=>Aa (isG x_3.1.sg (xh x_3) (4:Int) x_3.2.2.2.2.2) (cA CH [srd x_3.1 (Aw x_3.1.sg (xh x_3) x_3.2.2.2.2.2),.int .i64 (1:Int)] fun x_4 y=>∃(x_5:Int),i.2.2.2.2.1=x_5∧cA Bt [srd x_4.1 (Bh x_4.1.sg (xh x_4) x_4.2.2.2.2.2),.int .i64 (6:Int),.str (BC x_4.1.sg (xh x_4) x_4.2.2.2.2.2),Ab [x_5]] fun x_6 y=>eN (QE n x) i [srd x_6.1 (Am (xh x_6) {kind:=x_6.2.2.2.2.2.1,text:=x_6.2.2.2.2.2.2.1,kids:=x_6.2.2.2.2.2.2.2,blank:=false}),.int .i64 (AU (xh x_6))]) (rA (TO n) x [.int .i64 i.2.2.2.2.1,srd x_3.1 (Aw x_3.1.sg (xh x_3) x_3.2.2.2.2.2)]))) (rA (TO n) x [.int .i64 i.2.2.2.2.1,srd x.1 (iG i)])) (fun x=>by kernel_rfl) fun(x:ST×Int×Int×Bool×List Nd) (hx:wQ 2 (n+1) x.1 (xg x))=>(by
 dsimp only[cA,eA,eN,QE,Bu,Ab,Ba,rA,TJ,TO,Ch,Bt,CH,GL,Db,sgs,srd,Au,Az,mvL,lnL,mvE,lnE,Br]
 obtain⟨s,p,d,b,ns⟩:=x;dsimp only[xg,xh] at hx ⊢
 have hx:wQ 2 (n+1) s ⟨p,d,b,ns⟩:=hx
 have h1:=hx.1.1.1;have hs:=h1.1
 (repeat' first|(with_reducible first|rfl|exact True.intro|apply AK|apply And.intro|((first|apply AA|apply AI|apply AB|apply AJ)<;>intro _))|(apply Ax<;>intro _)|apply AH|refine Ae () ?_ ?_|((first|apply AO|apply AN|apply AM|apply AL|apply AG|apply AF|apply AE|apply AD|apply AC)<;>try dsimp only)|apply Ae|(refine Prod.forall.2 ?_;intro _;try dsimp only)|(intro _;try dsimp only))
 all_goals(try dsimp only[xg,xh,yG,yS,iG] at*)
 all_goals(try simp only[GD] at*)
 all_goals first
  |(show Nat;skip)
  |rfl
  |exact⟨b5v hx.1.1.1 hx.1.1.2 hx.1.2,hx.2⟩
  |exact c1u hx ‹_›
  |exact a6L hx ‹_›
  |exact c1v hx ‹_› ‹_›
  |exact(YG hx ‹_›).1
  |exact(YG hx ‹_›).2.1
  |exact(YG hx ‹_›).2.2
  |exact YE hs ‹_›
  |exact(a6M hx ‹_› ‹_› ‹_›).1
  |exact(a6N hx ‹_› ‹_› ‹_›).1
  |exact c1w ‹_› ‹_›
  |exact c1x ‹_› ‹_› ‹_› ‹_›
  |omega
  |(simp;done)
  |skip
 all_goals first
  |exact(a6M hx ‹_› ‹_› ‹_›).2
  |exact(a6N hx ‹_› ‹_› ‹_›).2
  |skip)
end Go.My
end
