/- joined -/
import Derived.Test.YtaenadacepeagaaGreatDoorQN
import Derived.ProofKit
import Derived.Test.YtaenadacepeagaaGreatDoorProg
set_option linter.unusedSimpArgs false
set_option linter.unusedVariables false
section
namespace Go.My
open Go.Eng Go.Proofs
variable {G:GInv}
def LO:Sig:= {X:=List UInt8,args:=fun x=>[.sl false 0 1 UInt8 byA x],pre:=fun x=>x.length≤2^21,Y:=Int,post:=fun x y=>True,res:=fun x y=> .box 0 (cur x 0 y),outs:=fun x y=>[.top],keep:=true}
def SG(x:List UInt8):LS:= {ι:=Int×Int,inv:=fun i=>(0≤i.1∧i.1≤x.length)∧0≤i.2∧i.2≤2^31,regs:=fun i=>[(0,.sl false 0 1 UInt8 byA x),(3,.int .i64 i.2),(4,.int .i64 i.1)],als:=[],meas:=fun i=>x.length-i.1.toNat}
theorem a3Q:Am G Tryz.prog 21 LO:=
 vcFun_okP [] [] false (fun x=>[(3,SG x)]) Tryz.func21 rfl (by decide) trivial (fun(x:List UInt8)=>True∧inR IntKind.i64 ((78601:Int)+(↑(List.length x):Int))∧eA (SG x) [byL x,.int .i64 ((78601:Int)+(↑(List.length x):Int)),.int .i64 (0:Int)]∧∀(i:Int×Int),((0:Int)≤i.1∧i.1≤(↑(List.length x):Int))∧(0:Int)≤i.2∧i.2≤(2:Int)^(31:Nat)→Aa (decide (i.1<(↑(List.length x):Int))) (Aa (decide (i.1<(4000:Int))) (inR IntKind.i64 (i.2*(131:Int))∧((0:Int)≤i.1∧i.1<(↑(List.length x):Int))∧∀(e:UInt8),x[Int.toNat i.1]? =some e→inR IntKind.i64 (↑(UInt8.toNat e):Int)∧inR IntKind.i64 (i.2*(131:Int)+(↑(UInt8.toNat e):Int))∧inR IntKind.i64 (i.2*(131:Int)+(↑(UInt8.toNat e):Int)+(7:Int))∧inR IntKind.i64 (i.1+(1:Int))∧eN (SG x) i [byL x,.int .i64 (DI BinOp.and IntKind.i64 (i.2*(131:Int)+(↑(UInt8.toNat e):Int)+(7:Int)) (1073741823:Int)),.int .i64 (i.1+(1:Int))]) (rA LO x [.box 0 (cur x (0:Int) i.2),.top])) (rA LO x [.box 0 (cur x (0:Int) i.2),.top])) (fun x=>by kernel_rfl) fun(x:List UInt8) (hx:x.length≤2^21)=>(by
 dsimp only[DC,byL,cur,eA,eN,SG,rA,LO,Aw,AR,Br]
 have hx:x.length≤2^21:=hx
 (repeat' first|(with_reducible first|rfl|exact True.intro|apply AM|apply And.intro|((first|apply AC|apply AK|apply AD|apply AL)<;>intro _))|(apply AB<;>intro _)|apply AJ|refine Ag () ?_ ?_|((first|apply AQ|apply AP|apply AO|apply AN|apply AI|apply AH|apply AG|apply AF|apply AE)<;>try dsimp only)|apply Ag|(refine Prod.forall.2 ?_;intro _;try dsimp only)|(intro _;try dsimp only))
 all_goals first
  |rfl
  |omega
  |(have hq:=UInt8.toNat_lt ‹_›;omega)
  |(have hq:=WR (_:Int);exact hq.1)
  |exact(WR _).1
  |exact Int.le_trans (WR _).2 (by decide)
  |skip)
theorem b5u{G:GInv}{P:Program}{f:FuncId}{S:Sig}{c:S.X→S.Y→List AV}(h:Am G P f S)(hr:S.res=fun x y=> .box 0 (c x y))(hk:S.keep=true):
 Am G P f {X:=S.X,args:=S.args,pre:=S.pre,Y:=S.Y×Value,post:=fun x y=>S.post x y.1,res:=fun x y=> .bv y.2 (c x y.1),outs:=fun x y=>S.outs x y.1,keep:=true,fixed:=S.fixed,caps:=S.caps}:=by
 obtain⟨⟨h1,_⟩,h2⟩:=h
 refine⟨⟨h1,fun x y _ _=>trivial⟩,fun x hx Z w vals A hG ha hA hc=>(h2 x hx Z w vals A hG ha hA hc).mono ?_⟩
 rintro e w' ⟨y,v,Z',A',hp,he,hrel,haf⟩
 refine⟨(y,v),v,Z',A',hp,he,?_,haf⟩
 rw[hr] at hrel
 simp only[AZ,Al] at hrel ⊢
 obtain⟨v',cs',A1,B1,e1,hj,⟨b,arr,ty,S1,e2,hb,hc1,hj1⟩,hrest⟩:=hrel
 simp only[List.cons.injEq] at e1
 obtain⟨rfl,rfl⟩:=e1
 exact⟨_,_,A1,B1,rfl,hj,⟨rfl,b,arr,ty,S1,e2,hb,hc1,hj1⟩,hrest⟩
def IM:Sig:= {X:=List UInt8,args:=fun x=>[.sl false 0 1 UInt8 byA x],pre:=fun x=>x.length≤2^21,Y:=Int×Value,post:=fun x y=>True,res:=fun x y=> .bv y.2 (cur x 0 y.1),outs:=fun x y=>[.top],keep:=true}
theorem WX:Am G Go.Proofs.Tryz.prog 21 IM:=b5u (c:=fun x y=>cur x 0 y) a3Q rfl rfl
theorem SH{b:List UInt8}(h:b.length≤2^21):Af b 0:=⟨by omega,h⟩
def NC:Sig:= {X:=List Nd×Unit,args:=fun x=>[nds x.1],pre:=fun x=>(Bi x.1∧x.1.length≤2^30)∧∀e∈x.1,e.kids.length≤2^20,Y:=Unit,post:=fun x y=>True,res:=fun x y=>Bd x.1,outs:=fun x y=>[.top],keep:=false}
def SI(x:List Nd×Unit):LS:= {ι:=Int,inv:=fun i=>0≤i∧i≤x.1.length,regs:=fun i=>[(0,nds x.1),(3,Bd (x.1.take i.toNat)),(4,.int .i64 i)],als:=[],meas:=fun i=>x.1.length-i.toNat}
theorem b5v:Am G Tryz.prog 59 NC:=
 vcFun_okP [] [(25,⟨Nd,ndA true⟩),(47,⟨Int,Bw⟩)] false (fun x=>[(3,SI x)]) Tryz.func59 rfl (by decide) trivial (fun(x:List Nd×Unit)=>(∀(y:Unit),True→(∀(x:Nd),True∧True∧(∀(x:Int),True∧True)∧True∧True)∧True∧True)∧eA (SI x) [nds x.1,Bd [],.int .i64 (0:Int)]∧∀(i:Int),(0:Int)≤i∧i≤(↑(List.length x.1):Int)→Aa (decide (i<(↑(List.length x.1):Int))) (((0:Int)≤i∧i<(↑(List.length x.1):Int))∧∀(e:Nd),x.1[Int.toNat i]? =some e→∃(zs:List Int),An e.kids=An zs∧Bu Bw∧Ba ((0:Nat)+List.length zs) (8:Nat)∧∃(x_1:Nd),e.kind=x_1.kind∧e.text=x_1.text∧Ab ([]++zs)=Ab x_1.kids∧e.blank=x_1.blank∧∃(zs:List Nd),Bd [x_1]=Bd zs∧Bu (ndA true)∧Ba (List.length (List.take (Int.toNat i) x.1)+List.length zs) (56:Nat)∧inR IntKind.i64 (i+(1:Int))∧eN (SI x) i [nds x.1,Bd (List.take (Int.toNat i) x.1++zs),.int .i64 (i+(1:Int))]) (rA NC x [Bd (List.take (Int.toNat i) x.1),.top])) (fun x=>by kernel_rfl) fun(x:List Nd×Unit) (hx:(Bi x.1∧x.1.length≤2^30)∧∀e∈x.1,e.kids.length≤2^20)=>(by
 dsimp only[eA,eN,SI,An,Bx,nds,Ab,Bd,rA,NC,Aw,AR,Br]
 obtain⟨x,_⟩:=x;dsimp only at hx ⊢
 obtain⟨⟨h1,h2⟩,h3⟩:=hx
 (repeat' first|(with_reducible first|rfl|exact True.intro|apply AM|apply And.intro|((first|apply AC|apply AK|apply AD|apply AL)<;>intro _))|(apply AB<;>intro _)|apply AJ|refine Ag () ?_ ?_|((first|apply AQ|apply AP|apply AO|apply AN|apply AI|apply AH|apply AG|apply AF|apply AE)<;>try dsimp only)|apply Ag|(refine Prod.forall.2 ?_;intro _;try dsimp only)|(intro _;try dsimp only))
 all_goals first
  |rfl
  |omega
  |(have hq:=h1.1;(try simp only[AS,Ba,List.length_append,List.length_take,List.length_cons,List.length_nil]);omega)
  |(have hq:=h3 _ (Cu ‹_›);(try simp only[Ba]);omega)
  |(rw[Dz (And.left ‹_›),Fb ‹_›];done)
  |exact List.take_of_length_le (by omega)
  |skip)
def spB(l:List Nd):Prop:=(1≤l.length∧l.length≤300)∧Bi l∧∀e∈l,e.kids.length≤13
theorem b5w{l:List Nd}(h:BO l=true∧Bi l):spB l∧∀e∈l,e.kids.length≤12:=by
 obtain⟨t1,t2,t3,t4⟩:=JU h.1
 have hk:∀e∈l,e.kids.length≤12:=fun e he=>by
  obtain⟨i,hi,e2⟩:=List.mem_iff_getElem.1 he
  have hn:=(FG (t1.1 i hi)).2.1
  have:Aj l (i:Int)=e:=Bz (by rw[←e2];simp)
  rw[this] at hn;exact hn
 exact⟨⟨⟨t2,t3⟩,h.2,fun e he=>by have:=hk e he;omega⟩,hk⟩
theorem b5x{l:List Nd}{n:Nat}{z:Nd}(h:spB l)(hz:z.kids.length≤13)(ht:z.text.length<2^62):spB (l.set n z):=by
 refine⟨by rw[List.length_set];exact h.1,⟨by rw[List.length_set];exact h.2.1.1,fun x hx=> ?_⟩,fun x hx=> ?_⟩
 ·rcases List.mem_or_eq_of_mem_set hx with hx|hx
  ·exact h.2.1.2 x hx
  ·subst hx;exact⟨ht,by omega⟩
 ·rcases List.mem_or_eq_of_mem_set hx with hx|hx
  ·exact h.2.2 x hx
  ·subst hx;exact hz
theorem b5y{p q:Nd→Prop}(a:Int)(b:List UInt8)(c:List Int)(d:Bool)(h2:q ⟨a,b,c,d⟩)(h1:p ⟨a,b,c,d⟩):∃x,p x∧q x:=⟨_,h1,h2⟩
theorem b5z{z:Nd}{l:List Int}{q:Nd→Prop}(h:q ⟨z.kind,z.text,l,z.blank⟩):∃x:Nd,[AV.int IntKind.i64 x.kind,AV.str x.text,AV.sl true 0 1 Int Bw x.kids,AV.bool x.blank]=[AV.int IntKind.i64 z.kind,AV.str z.text,AV.sl true 0 1 Int Bw l,AV.bool z.blank]∧q x:=⟨⟨z.kind,z.text,l,z.blank⟩,rfl,h⟩
theorem b5A{a:Int}{n:Nat}(h0:0≤a)(hn:1≤n):(a.tmod n).toNat<n:=by have:= @LJ a n h0 (by omega);omega
theorem b5B{a:Int}(h0:0≤a):(a.tmod 7).toNat<7:=by have:= @LJ a 7 h0 (by decide);omega
def WY:LS:= {ι:=Unit,inv:=fun _=>True,regs:=fun _=>[],als:=[],meas:=fun _=>0}
def a3R:Sig:= {X:=Value×List UInt8×Int×Int,args:=fun x=>[.bv x.1 (cur x.2.1 x.2.2.1 x.2.2.2)],pre:=fun x=>Af x.2.1 x.2.2.1,Y:=List Nd×Int×Int,post:=fun x y=>spB y.1∧Af x.2.1 y.2.1,res:=fun x y=>Bd y.1,outs:=fun x y=>[.bv x.1 (cur x.2.1 y.2.1 y.2.2)],keep:=true}
theorem b5C:Am G Tryz.prog 30 a3R:=
 vcFun_okP [(31,0,Dx),(60,0,a3P),(59,0,NC)] [(25,⟨Nd,ndA true⟩),(47,⟨Int,Bw⟩),(39,⟨List UInt8,Ai⟩)] false (fun x=>[(400011,WY),(400015,WY),(400016,WY)]) Tryz.func30 rfl (by decide) ⟨Hp,b5t,b5v,trivial⟩ (fun(x:Value×List UInt8×Int×Int)=>True∧∃(x_1:List UInt8×Int×Int×Int),Af x_1.1 x_1.2.1∧x.1=x.1∧byL x.2.1=byL x_1.1∧x.2.2.1=x_1.2.1∧x.2.2.2=x_1.2.2.1∧(12:Int)=x_1.2.2.2∧∀(y:Int×Int×Int),(((0:Int)<x_1.2.2.2→(0:Int)≤y.1∧y.1<x_1.2.2.2)∧(x_1.2.2.2≤(0:Int)→y.1=(0:Int)))∧Af x_1.1 y.2.1→x.1=x.1∧∃(x_2:List UInt8×Int×Int×Int),Af x_2.1 x_2.2.1∧x.1=x.1∧byL x_1.1=byL x_2.1∧y.2.1=x_2.2.1∧y.2.2=x_2.2.2.1∧(200:Int)=x_2.2.2.2∧∀(y_1:Int×Int×Int),(((0:Int)<x_2.2.2.2→(0:Int)≤y_1.1∧y_1.1<x_2.2.2.2)∧(x_2.2.2.2≤(0:Int)→y_1.1=(0:Int)))∧Af x_2.1 y_1.2.1→x.1=x.1∧∃(x_3:Value×List UInt8×Int×Int),Af x_3.2.1 x_3.2.2.1∧(x.1=x.1∧x.1=x_3.1)∧byL x_2.1=byL x_3.2.1∧y_1.2.1=x_3.2.2.1∧y_1.2.2=x_3.2.2.2∧∀(y_2:List Nd×Int×Int),(BO y_2.1=true∧Bi y_2.1)∧Af x_3.2.1 y_2.2.1→x.1=x.1∧cA NC [nds y_2.1] fun x_4 y_3=>(↑(List.length x_4.1):Int)≠(0:Int)∧Aa (y.1==(0:Int)) ((24:Int)≠(0:Int)∧((0:Int)≤Int.tmod y_1.1 (↑(List.length x_4.1):Int)∧Int.tmod y_1.1 (↑(List.length x_4.1):Int)<(↑(List.length x_4.1):Int))∧Int.toNat (Int.tmod y_1.1 (↑(List.length x_4.1):Int))<List.length x_4.1∧∀(x_5:Nd),x_4.1[Int.toNat (Int.tmod y_1.1 (↑(List.length x_4.1):Int))]? =some x_5→∃(x':Nd),((@List.nil AV)=[]∧[AV.str x'.text,Ab x'.kids,.bool x'.blank]=[.str x_5.text,Ab x_5.kids,.bool x_5.blank])∧Int.tmod y_1.1 (24:Int)=x'.kind∧∃(y:List Nd×Int×Int),(spB y.1∧Af x.2.1 y.2.1)∧Bd (List.set x_4.1 (Int.toNat (Int.tmod y_1.1 (↑(List.length x_4.1):Int))) x')=Bd y.1∧(x.1=x.1∧x.1=x.1)∧byL x_3.2.1=byL x.2.1∧y_2.2.1=y.2.1∧y_2.2.2=y.2.2∧True) (Aa (y.1==(1:Int)) (∃(x_5:List UInt8),#[].toList=x_5∧∃(x_6:List UInt8),#[(97:UInt8)].toList=x_6∧∃(x_7:List UInt8),#[(99:UInt8),(108:UInt8),(97:UInt8),(115:UInt8),(115:UInt8)].toList=x_7∧∃(x_8:List UInt8),#[(39:UInt8),(120:UInt8),(39:UInt8)].toList=x_8∧∃(x_9:List UInt8),#[(47:UInt8),(47:UInt8),(32:UInt8),(97:UInt8)].toList=x_9∧∃(x_10:List UInt8),#[(49:UInt8),(50:UInt8)].toList=x_10∧∃(x_11:List UInt8),#[(43:UInt8)].toList=x_11∧(7:Int)≠(0:Int)∧((0:Int)≤Int.tmod y_1.1 (7:Int)∧Int.tmod y_1.1 (7:Int)<(↑(List.length [x_5,x_6,x_7,x_8,x_9,x_10,x_11]):Int))∧Int.toNat (Int.tmod y_1.1 (7:Int))<List.length [x_5,x_6,x_7,x_8,x_9,x_10,x_11]∧∀(x_12:List UInt8),[x_5,x_6,x_7,x_8,x_9,x_10,x_11][Int.toNat (Int.tmod y_1.1 (7:Int))]? =some x_12→((0:Int)≤Int.tmod y_1.1 (↑(List.length x_4.1):Int)∧Int.tmod y_1.1 (↑(List.length x_4.1):Int)<(↑(List.length x_4.1):Int))∧Int.toNat (Int.tmod y_1.1 (↑(List.length x_4.1):Int))<List.length x_4.1∧∀(x_13:Nd),x_4.1[Int.toNat (Int.tmod y_1.1 (↑(List.length x_4.1):Int))]? =some x_13→∃(x':Nd),([AV.int .i64 x'.kind]=[.int .i64 x_13.kind]∧[Ab x'.kids,.bool x'.blank]=[Ab x_13.kids,.bool x_13.blank])∧x_12=x'.text∧∃(y:List Nd×Int×Int),(spB y.1∧Af x.2.1 y.2.1)∧Bd (List.set x_4.1 (Int.toNat (Int.tmod y_1.1 (↑(List.length x_4.1):Int))) x')=Bd y.1∧(x.1=x.1∧x.1=x.1)∧byL x_3.2.1=byL x.2.1∧y_2.2.1=y.2.1∧y_2.2.2=y.2.2∧True) (Aa (y.1==(2:Int)) (true=true∧((0:Int)≤Int.tmod y_1.1 (↑(List.length x_4.1):Int)∧Int.tmod y_1.1 (↑(List.length x_4.1):Int)<(↑(List.length x_4.1):Int))∧((0:Int)≤Int.tmod y_1.1 (↑(List.length x_4.1):Int)∧Int.tmod y_1.1 (↑(List.length x_4.1):Int)<(↑(List.length x_4.1):Int))∧Int.toNat (Int.tmod y_1.1 (↑(List.length x_4.1):Int))=Int.toNat (Int.tmod y_1.1 (↑(List.length x_4.1):Int))∧Int.toNat (Int.tmod y_1.1 (↑(List.length x_4.1):Int))<List.length x_4.1∧∀(z:Nd),x_4.1[Int.toNat (Int.tmod y_1.1 (↑(List.length x_4.1):Int))]? =some z→(9:Int)≠(0:Int)∧∃(x_5:Int),Int.tmod y_1.1 (9:Int)=x_5∧∃(zs:List Int),Ab [x_5]=Ab zs∧Bu Bw∧Ba (List.length z.kids+List.length zs) (8:Nat)∧∃(z':Nd),[AV.int .i64 z'.kind,.str z'.text,Ab z'.kids,.bool z'.blank]=[.int .i64 z.kind,.str z.text,Ab (z.kids++zs),.bool z.blank]∧∃(y:List Nd×Int×Int),(spB y.1∧Af x.2.1 y.2.1)∧Bd (List.set x_4.1 (Int.toNat (Int.tmod y_1.1 (↑(List.length x_4.1):Int))) z')=Bd y.1∧(x.1=x.1∧x.1=x.1)∧byL x_3.2.1=byL x.2.1∧y_2.2.1=y.2.1∧y_2.2.2=y.2.2∧True) (Aa (y.1==(3:Int)) (((0:Int)≤Int.tmod y_1.1 (↑(List.length x_4.1):Int)∧Int.tmod y_1.1 (↑(List.length x_4.1):Int)<(↑(List.length x_4.1):Int))∧Int.toNat (Int.tmod y_1.1 (↑(List.length x_4.1):Int))<List.length x_4.1∧∀(x_5:Nd),x_4.1[Int.toNat (Int.tmod y_1.1 (↑(List.length x_4.1):Int))]? =some x_5→((0:Int)≤Int.tmod y_1.1 (↑(List.length x_4.1):Int)∧Int.tmod y_1.1 (↑(List.length x_4.1):Int)<(↑(List.length x_4.1):Int))∧Int.toNat (Int.tmod y_1.1 (↑(List.length x_4.1):Int))<List.length x_4.1∧∀(x_6:Nd),x_4.1[Int.toNat (Int.tmod y_1.1 (↑(List.length x_4.1):Int))]? =some x_6→∃(x':Nd),([AV.int .i64 x'.kind,.str x'.text,Ab x'.kids]=[.int .i64 x_6.kind,.str x_6.text,Ab x_6.kids]∧(@List.nil AV)=[])∧(!x_5.blank)=x'.blank∧∃(y:List Nd×Int×Int),(spB y.1∧Af x.2.1 y.2.1)∧Bd (List.set x_4.1 (Int.toNat (Int.tmod y_1.1 (↑(List.length x_4.1):Int))) x')=Bd y.1∧(x.1=x.1∧x.1=x.1)∧byL x_3.2.1=byL x.2.1∧y_2.2.1=y.2.1∧y_2.2.2=y.2.2∧True) (Aa (y.1==(4:Int)) (true=true∧((0:Int)≤Int.tmod y_1.1 (↑(List.length x_4.1):Int)∧Int.tmod y_1.1 (↑(List.length x_4.1):Int)<(↑(List.length x_4.1):Int))∧Int.toNat (Int.tmod y_1.1 (↑(List.length x_4.1):Int))<List.length x_4.1∧∀(z:Nd),x_4.1[Int.toNat (Int.tmod y_1.1 (↑(List.length x_4.1):Int))]? =some z→Aa (decide ((↑(List.length z.kids):Int)>(0:Int))) (true=true∧((0:Int)≤Int.tmod y_1.1 (↑(List.length x_4.1):Int)∧Int.tmod y_1.1 (↑(List.length x_4.1):Int)<(↑(List.length x_4.1):Int))∧((0:Int)≤Int.tmod y_1.1 (↑(List.length x_4.1):Int)∧Int.tmod y_1.1 (↑(List.length x_4.1):Int)<(↑(List.length x_4.1):Int))∧Int.toNat (Int.tmod y_1.1 (↑(List.length x_4.1):Int))=Int.toNat (Int.tmod y_1.1 (↑(List.length x_4.1):Int))∧Int.toNat (Int.tmod y_1.1 (↑(List.length x_4.1):Int))<List.length x_4.1∧∀(z:Nd),x_4.1[Int.toNat (Int.tmod y_1.1 (↑(List.length x_4.1):Int))]? =some z→((0:Int)≤(1:Int)∧(1:Int)≤(↑(List.length z.kids):Int)∧(↑(List.length z.kids):Int)≤(↑(List.length z.kids):Int))∧∃(z':Nd),[AV.int .i64 z'.kind,.str z'.text,Ab z'.kids,.bool z'.blank]=[.int .i64 z.kind,.str z.text,Ab (List.drop (1:Nat) z.kids),.bool z.blank]∧∃(y:List Nd×Int×Int),(spB y.1∧Af x.2.1 y.2.1)∧Bd (List.set x_4.1 (Int.toNat (Int.tmod y_1.1 (↑(List.length x_4.1):Int))) z')=Bd y.1∧(x.1=x.1∧x.1=x.1)∧byL x_3.2.1=byL x.2.1∧y_2.2.1=y.2.1∧y_2.2.2=y.2.2∧True) (∃(y:List Nd×Int×Int),(spB y.1∧Af x.2.1 y.2.1)∧Bd x_4.1=Bd y.1∧(x.1=x.1∧x.1=x.1)∧byL x_3.2.1=byL x.2.1∧y_2.2.1=y.2.1∧y_2.2.2=y.2.2∧True)) (∃(y:List Nd×Int×Int),(spB y.1∧Af x.2.1 y.2.1)∧Bd x_4.1=Bd y.1∧(x.1=x.1∧x.1=x.1)∧byL x_3.2.1=byL x.2.1∧y_2.2.1=y.2.1∧y_2.2.2=y.2.2∧True)))))) (fun x=>by kernel_rfl) fun(x:Value×List UInt8×Int×Int) (hx:Af x.2.1 x.2.2.1)=>(by
 dsimp only[DC,byL,cA,Bx,nds,Ab,Bd,NC,Aw,AR,mvL,lnL,mvE,lnE]
 obtain⟨cv,b,i,h⟩:=x;dsimp only at hx ⊢
 have hx:Af b i:=hx
 (repeat' first|refine b5z ?_|refine b5y _ _ _ _ ⟨rfl,?_⟩ ⟨rfl,rfl⟩|(with_reducible first|rfl|exact True.intro|apply AM|apply And.intro|((first|apply AC|apply AK|apply AD|apply AL)<;>intro _))|(apply AB<;>intro _)|apply AJ|refine Ag () ?_ ?_|((first|apply AQ|apply AP|apply AO|apply AN|apply AI|apply AH|apply AG|apply AF|apply AE)<;>try dsimp only)|apply Ag|(refine Prod.forall.2 ?_;intro _;try dsimp only)|(intro _;try dsimp only))
 all_goals(try(have hT:=b5w (And.left (show(BO _=true∧Bi _)∧Af _ _ by assumption));have hL:=hT.1.1))
 all_goals(try(have hy:=And.left (show(((0:Int)<200→_)∧(_→_))∧Af _ _ by assumption);have hy1:=hy.1 (by decide)))
 all_goals first
  |rfl
  |exact hx
  |omega
  |exact And.right (show _∧Af _ _ by assumption)
  |exact(LJ (by omega) (by omega)).1
  |exact(LJ (by omega) (by omega)).2
  |exact()
  |exact hT.1
  |exact hT.1.2.1
  |(exact Nat.le_trans (hT.2 _ ‹_›) (by decide))
  |(intro e he;have hq:=hT.2 e he;omega)
  |exact b5A (by omega) (by omega)
  |exact b5B (by omega)
  |(have hq:=hT.2 _ (Cu (show(_:List Nd)[_]? =some _ by assumption));simp only[Ba,List.length_cons,List.length_nil];omega)
  |(refine b5x hT.1 ?_ ?_<;>dsimp only<;>first
    |exact hT.1.2.2 _ (Cu (show(_:List Nd)[_]? =some _ by assumption))
    |exact(hT.1.2.1.2 _ (Cu (show(_:List Nd)[_]? =some _ by assumption))).1
    |(have hq:=hT.2 _ (Cu (show(_:List Nd)[_]? =some _ by assumption));simp;omega)
    |(have hq:=hT.1.2.2 _ (Cu (show(_:List Nd)[_]? =some _ by assumption));simp;omega)
    |(have hm:=Cu (show(_:List (List UInt8))[_]? =some _ by assumption);exact Nat.lt_of_le_of_lt (LN (n:=20) hm (by decide)) (by decide)))
  |((repeat(rename(_:List Nd)[_]? =some _=>hq;revert hq;rename(_:List Nd)[_]? =some _=>hr;intro hq;rw[hr] at hq;cases hq));omega)
  |skip)
def ftI(x:List Sg)(i:Int)(s:List UInt8):Prop:=(0≤i∧i≤x.length)∧s++Cq (x.drop i.toNat)=Cq x
theorem b5D{x:List Sg}:ftI x 0 []:=⟨by omega,by simp⟩
theorem b5E{x:List Sg}{i:Int}{s:List UInt8}(h:ftI x i s):(0≤i∧i≤x.length)∧s.length≤(Cq x).length:=by
 refine⟨h.1,?_⟩
 rw[←h.2,List.length_append];omega
theorem b5F{x:List Sg}{i:Int}{s:List UInt8}{e:Sg}(h:ftI x i s)(he:x[i.toNat]? =some e):s.length+e.text.length+1≤(Cq x).length+1:=by
 rw[←h.2,Ik he,Cq,List.length_append,List.length_append];omega
theorem b5G{x:List Sg}{i:Int}{s:List UInt8}{e:Sg}(h:ftI x i s)(he:x[i.toNat]? =some e)(hk:e.kind=5):ftI x (i+1) (s++e.text++[10]):=by
 have hl:=(List.getElem?_eq_some_iff.1 he).1
 refine⟨by have:=h.1;omega,?_⟩
 rw[←h.2,Ik he,Cq,if_pos hk,show(i+1).toNat=i.toNat+1 by have:=h.1;omega];simp
theorem b5H{x:List Sg}{i:Int}{s:List UInt8}{e:Sg}(h:ftI x i s)(he:x[i.toNat]? =some e)(hk:¬e.kind=5)(hl:i+1<(x.length:Int)):ftI x (i+1) (s++e.text++[32]):=by
 refine⟨by have:=h.1;omega,?_⟩
 have hne:x.drop (i.toNat+1)≠[]:=by intro e;have:=List.drop_eq_nil_iff.1 e;have:=h.1;omega
 rw[←h.2,Ik he,Cq,if_neg hk,if_neg hne,show(i+1).toNat=i.toNat+1 by have:=h.1;omega];simp
theorem b5I{x:List Sg}{i:Int}{s:List UInt8}{e:Sg}(h:ftI x i s)(he:x[i.toNat]? =some e)(hk:¬e.kind=5)(hl:¬i+1<(x.length:Int)):ftI x (i+1) (s++e.text):=by
 have hl2:=(List.getElem?_eq_some_iff.1 he).1
 refine⟨by have:=h.1;omega,?_⟩
 have hne:x.drop (i.toNat+1)=[]:=List.drop_eq_nil_iff.2 (by have:=h.1;omega)
 rw[←h.2,Ik he,Cq,if_neg hk,if_pos hne,show(i+1).toNat=i.toNat+1 by have:=h.1;omega,hne];simp [Cq]
theorem b5J{x:List Sg}{i:Int}{s:List UInt8}(h:ftI x i s)(hl:¬i<(x.length:Int)):s=Cq x:=by
 have:=h.2;rw[List.drop_eq_nil_iff.2 (by omega)] at this;simpa [Cq] using this
attribute [local irreducible] ftI Cq
def LP:Sig:= {X:=List Sg×Unit,args:=fun x=>[sgs x.1],pre:=fun x=>x.1.length≤2^30∧(Cq x.1).length≤2^40,Y:=Unit,post:=fun x y=>True,res:=fun x y=> .str (Cq x.1),outs:=fun x y=>[.top],keep:=false}
def ND(x:List Sg×Unit):LS:= {ι:=Int×List UInt8,inv:=fun i=>ftI x.1 i.1 i.2,regs:=fun i=>[(0,sgs x.1),(3,.str i.2),(4,.int .i64 i.1)],als:=[],meas:=fun i=>x.1.length-i.1.toNat}
theorem b5K:Am G Tryz.prog 9 LP:=
 vcFun_okP [] [] false (fun x=>[(3,ND x)]) Tryz.func9 rfl (by decide) trivial (fun(x:List Sg×Unit)=>(∀(y:Unit),True→True∧True∧True)∧eA (ND x) [sgs x.1,.str #[].toList,.int .i64 (0:Int)]∧∀(i:Int×List UInt8),ftI x.1 i.1 i.2→Aa (decide (i.1<(↑(List.length x.1):Int))) (((0:Int)≤i.1∧i.1<(↑(List.length x.1):Int))∧∀(e:Sg),x.1[Int.toNat i.1]? =some e→(↑(List.length i.2+List.length e.text):Int)≤IntKind.max IntKind.i64∧((0:Int)≤i.1∧i.1<(↑(List.length x.1):Int))∧∀(e_1:Sg),x.1[Int.toNat i.1]? =some e_1→Aa (e_1.kind==(5:Int)) ((↑(List.length (i.2++e.text)+(1:Nat)):Int)≤IntKind.max IntKind.i64∧inR IntKind.i64 (i.1+(1:Int))∧eN (ND x) i [sgs x.1,.str (i.2++e.text++ #[(10:UInt8)].toList),.int .i64 (i.1+(1:Int))]) (inR IntKind.i64 (i.1+(1:Int))∧Aa (decide (i.1+(1:Int)<(↑(List.length x.1):Int))) ((↑(List.length (i.2++e.text)+(1:Nat)):Int)≤IntKind.max IntKind.i64∧inR IntKind.i64 (i.1+(1:Int))∧eN (ND x) i [sgs x.1,.str (i.2++e.text++ #[(32:UInt8)].toList),.int .i64 (i.1+(1:Int))]) (inR IntKind.i64 (i.1+(1:Int))∧eN (ND x) i [sgs x.1,.str (i.2++e.text),.int .i64 (i.1+(1:Int))]))) (rA LP x [.str i.2,.top])) (fun x=>by kernel_rfl) fun(x:List Sg×Unit) (hx:x.1.length≤2^30∧(Cq x.1).length≤2^40)=>(by
 dsimp only[eA,eN,ND,rA,LP,Bv,sgs,Aw,AR,Br]
 obtain⟨x,_⟩:=x;dsimp only at hx ⊢
 obtain⟨h1,h2⟩:=hx
 (repeat' first|(with_reducible first|rfl|exact True.intro|apply AM|apply And.intro|((first|apply AC|apply AK|apply AD|apply AL)<;>intro _))|(apply AB<;>intro _)|apply AJ|refine Ag () ?_ ?_|((first|apply AQ|apply AP|apply AO|apply AN|apply AI|apply AH|apply AG|apply AF|apply AE)<;>try dsimp only)|apply Ag|(refine Prod.forall.2 ?_;intro _;try dsimp only)|(intro _;try dsimp only))
 all_goals(try(repeat(rename(_:List Sg)[_]? =some _=>hq;revert hq;rename(_:List Sg)[_]? =some _=>hr;intro hq;rw[hr] at hq;cases hq)))
 all_goals(try(have hB:=b5E (show ftI _ _ _ by assumption)))
 all_goals(try(have hC:=b5F (show ftI _ _ _ by assumption) ‹_›))
 all_goals first
  |rfl
  |omega
  |exact b5D
  |exact b5G ‹_› ‹_› ‹_›
  |exact b5H ‹_› ‹_› ‹_› ‹_›
  |exact b5I ‹_› ‹_› ‹_› ‹_›
  |exact b5J ‹_› ‹_›
  |((try simp only[AS,List.length_append,List.length_cons,List.length_nil]);omega)
  |skip)
def Jx:Sig:= {X:=List Sg×Unit,args:=fun x=>[sgs x.1,sgs x.1],pre:=fun x=>x.1.length<2^62,Y:=Unit,post:=fun x y=>True,res:=fun x y=> .bool true,outs:=fun x y=>[.top,.top],keep:=false}
def SJ(x:List Sg×Unit):LS:= {ι:=Int,inv:=fun i=>0≤i∧i≤x.1.length,regs:=fun i=>[(0,sgs x.1),(1,sgs x.1),(5,.int .i64 i)],als:=[],meas:=fun i=>x.1.length-i.toNat}
theorem b5L:Am G Tryz.prog 14 Jx:=
 vcFun_okP [] [] false (fun x=>[(4,SJ x)]) Tryz.func14 rfl (by decide) trivial (fun(x:List Sg×Unit)=>(∀(y:Unit),True→True∧True∧True∧True)∧Aa ((↑(List.length x.1):Int) != (↑(List.length x.1):Int)) (rA Jx x [.bool false,.top,.top]) (eA (SJ x) [sgs x.1,sgs x.1,.int .i64 (0:Int)]∧∀(i:Int),(0:Int)≤i∧i≤(↑(List.length x.1):Int)→Aa (decide (i<(↑(List.length x.1):Int))) (true=true∧true=true∧((0:Int)≤i∧i<(↑(List.length x.1):Int))∧∀(e:Sg),x.1[Int.toNat i]? =some e→((0:Int)≤i∧i<(↑(List.length x.1):Int))∧∀(e_1:Sg),x.1[Int.toNat i]? =some e_1→Aa (!(true&&e.kind==e_1.kind&&e.text==e_1.text&&e.pos==e_1.pos&&e.blank==e_1.blank)) (rA Jx x [.bool false,.top,.top]) (inR IntKind.i64 (i+(1:Int))∧eN (SJ x) i [sgs x.1,sgs x.1,.int .i64 (i+(1:Int))])) (rA Jx x [.bool true,.top,.top]))) (fun x=>by kernel_rfl) fun(x:List Sg×Unit) (hx:x.1.length<2^62)=>(by
 dsimp only[eA,eN,SJ,rA,Jx,Bv,sgs,Aw,AR,Br]
 obtain⟨x,_⟩:=x;dsimp only at hx ⊢
 have hx:x.length<2^62:=hx
 (repeat' first|(with_reducible first|rfl|exact True.intro|apply AM|apply And.intro|((first|apply AC|apply AK|apply AD|apply AL)<;>intro _))|(apply AB<;>intro _)|apply AJ|refine Ag () ?_ ?_|((first|apply AQ|apply AP|apply AO|apply AN|apply AI|apply AH|apply AG|apply AF|apply AE)<;>try dsimp only)|apply Ag|(refine Prod.forall.2 ?_;intro _;try dsimp only)|(intro _;try dsimp only))
 all_goals(try(repeat(rename(_:List Sg)[_]? =some _=>hq;revert hq;rename(_:List Sg)[_]? =some _=>hr;intro hq;rw[hr] at hq;cases hq)))
 all_goals first
  |rfl
  |omega
  |(exfalso;rename(_&&_)=false=>hq;simp at hq;done)
  |(exfalso;rename _≠_=>hq;exact hq rfl)
  |(exfalso;rename(_==_)=false=>hq;rw[beq_self_eq_true] at hq;cases hq;done)
  |((try simp only[AS]);omega)
  |skip)
theorem b5M:(Cp [109,97,105,110,40,41,32,123,32,97,40,98,44,32,99,32,43,32,100,41,59,32,125]).isSome=true:=by decide+kernel
attribute [local irreducible] Cp spB DH Cj
def LQ:Sig:= {X:=List UInt8,args:=fun x=>[.sl false 0 1 UInt8 byA x],pre:=fun x=>x.length≤2^21,Y:=List UInt8×Unit,post:=fun x y=>(Cp y.1).isSome=true∧y.1.length≤2^24,res:=fun x y=> .str y.1,outs:=fun x y=>[.top],keep:=true}
theorem b5N:Am G Tryz.prog 5 LQ:=
 vcFun_okP [(21,0,IM),(20,0,SF),(6,0,DG)] [] false (fun x=>[]) Tryz.func5 rfl (by decide) ⟨WX,WW,Wh,trivial⟩ (fun(x:List UInt8)=>True∧cA IM [byL x] fun x_1 y=>∃(x_2:Value×List UInt8×Int×Int),Af x_2.2.1 x_2.2.2.1∧(y.2=y.2∧y.2=x_2.1)∧byL x_1=byL x_2.2.1∧(0:Int)=x_2.2.2.1∧y.1=x_2.2.2.2∧∀(y_1:List UInt8×Int×Int),List.length y_1.1≤(16777216:Nat)∧Af x_2.2.1 y_1.2.1→y.2=y.2∧cA DG [.str y_1.1] fun x_3 y=>Aa (Option.isSome (Cp x_3)) (rA LQ x [.str y_1.1,.top]) (rA LQ x [.str #[(109:UInt8),(97:UInt8),(105:UInt8),(110:UInt8),(40:UInt8),(41:UInt8),(32:UInt8),(123:UInt8),(32:UInt8),(97:UInt8),(40:UInt8),(98:UInt8),(44:UInt8),(32:UInt8),(99:UInt8),(32:UInt8),(43:UInt8),(32:UInt8),(100:UInt8),(41:UInt8),(59:UInt8),(32:UInt8),(125:UInt8)].toList,.top])) (fun x=>by kernel_rfl) fun(x:List UInt8) (hx:x.length≤2^21)=>(by
 dsimp only[DC,byL,cA,cur,Bx,nds,Ab,Bd,rA,IM,LQ,DG,Bv,sgs,srd,Aw,AR,mvL,lnL,mvE,lnE]
 have hx:x.length≤2^21:=hx
 (repeat' first|(with_reducible first|rfl|exact True.intro|apply AM|apply And.intro|((first|apply AC|apply AK|apply AD|apply AL)<;>intro _))|(apply AB<;>intro _)|apply AJ|refine Ag () ?_ ?_|((first|apply AQ|apply AP|apply AO|apply AN|apply AI|apply AH|apply AG|apply AF|apply AE)<;>try dsimp only)|apply Ag|(refine Prod.forall.2 ?_;intro _;try dsimp only)|(intro _;try dsimp only))
 all_goals(repeat(rename _∧Af _ _=>hq;obtain⟨_,_⟩:=hq))
 all_goals first
  |rfl
  |exact hx
  |exact SH hx
  |exact()
  |(with_reducible assumption)
  |exact b5M
  |omega
  |(simp;done)
  |skip)
def NE:Sig:= {X:=List UInt8,args:=fun x=>[.sl false 0 1 UInt8 byA x],pre:=fun x=>x.length≤2^21,Y:=List Nd×Unit,post:=fun x y=>spB y.1,res:=fun x y=>Bd y.1,outs:=fun x y=>[.top],keep:=true}
theorem b5O:Am G Tryz.prog 10 NE:=
 vcFun_okP [(21,0,IM),(30,0,a3R)] [] false (fun x=>[]) Tryz.func10 rfl (by decide) ⟨WX,b5C,trivial⟩ (fun(x:List UInt8)=>True∧cA IM [byL x] fun x_1 y=>∃(x_2:Value×List UInt8×Int×Int),Af x_2.2.1 x_2.2.2.1∧(y.2=y.2∧y.2=x_2.1)∧byL x_1=byL x_2.2.1∧(0:Int)=x_2.2.2.1∧y.1=x_2.2.2.2∧∀(y_1:List Nd×Int×Int),spB y_1.1∧Af x_2.2.1 y_1.2.1→y.2=y.2∧rA NE x [Bd y_1.1,.top]) (fun x=>by kernel_rfl) fun(x:List UInt8) (hx:x.length≤2^21)=>(by
 dsimp only[DC,byL,cA,cur,Bx,Bd,rA,IM,NE,Aw,AR,mvL,lnL,mvE,lnE]
 have hx:x.length≤2^21:=hx
 (repeat' first|(with_reducible first|rfl|exact True.intro|apply AM|apply And.intro|((first|apply AC|apply AK|apply AD|apply AL)<;>intro _))|(apply AB<;>intro _)|apply AJ|refine Ag () ?_ ?_|((first|apply AQ|apply AP|apply AO|apply AN|apply AI|apply AH|apply AG|apply AF|apply AE)<;>try dsimp only)|apply Ag|(refine Prod.forall.2 ?_;intro _;try dsimp only)|(intro _;try dsimp only))
 all_goals(repeat(rename _∧Af _ _=>hq;obtain⟨_,_⟩:=hq))
 all_goals first
  |rfl
  |exact hx
  |exact SH hx
  |exact()
  |(with_reducible assumption)
  |skip)
def s4B(l:List Sg)(i:Int):Prop:=0≤i∧i≤9∧l.length≤i
theorem b5P{l:List Sg}{i:Int}(h:s4B l i):(0≤i∧i≤9)∧l.length≤9:=⟨⟨h.1,h.2.1⟩,by have:=h.2;omega⟩
theorem b5Q:s4B [] 0:=⟨by omega,by omega,by simp⟩
theorem b5R{l:List Sg}{i:Int}{e:Sg}(h:s4B l i)(hi:i<9):s4B (l++[e]) (i+1):=⟨by have:=h.1;omega,by omega,by rw[List.length_append];have:=h.2.2;simp;omega⟩
theorem b5S{a:Int}{b:List UInt8}{q:Sg→Prop}(h:q ⟨a,b,0,false⟩):∃x:Sg,a=x.kind∧b=x.text∧0=x.pos∧false=x.blank∧q x:=⟨⟨a,b,0,false⟩,rfl,rfl,rfl,rfl,h⟩
def LR:Sig:= {X:=List UInt8×Int×Int,args:=fun x=>[.box 0 (cur x.1 x.2.1 x.2.2)],pre:=fun x=>Af x.1 x.2.1,Y:=List Sg×Int×Int,post:=fun x y=>y.1.length≤9∧Af x.1 y.2.1,res:=fun x y=>Ad y.1,outs:=fun x y=>[.box 0 (cur x.1 y.2.1 y.2.2)],keep:=true}
def Kq(x:List UInt8×Int×Int):LS:= {ι:=Int×Int×Int×List Sg,inv:=fun i=>s4B i.2.2.2 i.1∧Af x.1 i.2.1,regs:=fun i=>[(0,.box 0 (cur x.1 i.2.1 i.2.2.1)),(3,Ad i.2.2.2),(4,.int .i64 i.1)],als:=[],meas:=fun i=>9-i.1.toNat}
theorem a3S:Am G Tryz.prog 32 LR:=
 vcFun_okP [(31,0,Dx),(62,0,FA),(63,0,Ji)] [(39,⟨List UInt8,Ai⟩),(28,⟨Sg,sgA⟩)] false (fun x=>[(3,Kq x)]) Tryz.func32 rfl (by decide) ⟨Hp,LM,a1s,trivial⟩ (fun(x:List UInt8×Int×Int)=>True∧eA (Kq x) [.box 0 (cur x.1 x.2.1 x.2.2),Ad [],.int .i64 (0:Int)]∧∀(i:Int×Int×Int×List Sg),s4B i.2.2.2 i.1∧Af x.1 i.2.1→cA Dx [.box 0 (cur x.1 i.2.1 i.2.2.1),.int .i64 (9:Int)] fun x_1 y=>Aa (decide (i.1<y.1)) (cA Dx [.box 0 (cur x_1.1 y.2.1 y.2.2),.int .i64 (5:Int)] fun x_2 y=>Aa (y.1==(0:Int)) (∃(x_3:List UInt8),#[(97:UInt8)].toList=x_3∧∃(x_4:List UInt8),#[(99:UInt8),(108:UInt8),(97:UInt8),(115:UInt8),(115:UInt8)].toList=x_4∧∃(x_5:List UInt8),#[(95:UInt8),(120:UInt8),(49:UInt8)].toList=x_5∧∃(x_6:List UInt8),#[(66:UInt8),(105:UInt8),(103:UInt8)].toList=x_6∧cA FA [.box 0 (cur x_2.1 y.2.1 y.2.2),AV.sl true 0 1 (List UInt8) Ai [x_3,x_4,x_5,x_6]] fun x_7 y=>∃(x_8:Sg),(1:Int)=x_8.kind∧y.1=x_8.text∧(0:Int)=x_8.pos∧false=x_8.blank∧∃(zs:List Sg),Ad [x_8]=Ad zs∧Bu sgA∧Ba (List.length i.2.2.2+List.length zs) (40:Nat)∧inR IntKind.i64 (i.1+(1:Int))∧eN (Kq x) i [.box 0 (cur x_7.1 y.2.1 y.2.2),Ad (i.2.2.2++zs),.int .i64 (i.1+(1:Int))]) (Aa (y.1==(1:Int)) (∃(x_3:List UInt8),#[(48:UInt8)].toList=x_3∧∃(x_4:List UInt8),#[(49:UInt8),(50:UInt8),(51:UInt8),(52:UInt8),(53:UInt8),(54:UInt8),(55:UInt8),(56:UInt8),(57:UInt8),(48:UInt8),(49:UInt8),(50:UInt8)].toList=x_4∧∃(x_5:List UInt8),#[(55:UInt8)].toList=x_5∧cA FA [.box 0 (cur x_2.1 y.2.1 y.2.2),AV.sl true 0 1 (List UInt8) Ai [x_3,x_4,x_5]] fun x_6 y=>∃(x_7:Sg),(2:Int)=x_7.kind∧y.1=x_7.text∧(0:Int)=x_7.pos∧false=x_7.blank∧∃(zs:List Sg),Ad [x_7]=Ad zs∧Bu sgA∧Ba (List.length i.2.2.2+List.length zs) (40:Nat)∧inR IntKind.i64 (i.1+(1:Int))∧eN (Kq x) i [.box 0 (cur x_6.1 y.2.1 y.2.2),Ad (i.2.2.2++zs),.int .i64 (i.1+(1:Int))]) (Aa (y.1==(2:Int)) (∃(x_3:List UInt8),#[(39:UInt8),(39:UInt8)].toList=x_3∧∃(x_4:List UInt8),#[(39:UInt8),(97:UInt8),(32:UInt8),(98:UInt8),(39:UInt8)].toList=x_4∧∃(x_5:List UInt8),#[(39:UInt8),(47:UInt8),(47:UInt8),(39:UInt8)].toList=x_5∧cA FA [.box 0 (cur x_2.1 y.2.1 y.2.2),AV.sl true 0 1 (List UInt8) Ai [x_3,x_4,x_5]] fun x_6 y=>∃(x_7:Sg),(3:Int)=x_7.kind∧y.1=x_7.text∧(0:Int)=x_7.pos∧false=x_7.blank∧∃(zs:List Sg),Ad [x_7]=Ad zs∧Bu sgA∧Ba (List.length i.2.2.2+List.length zs) (40:Nat)∧inR IntKind.i64 (i.1+(1:Int))∧eN (Kq x) i [.box 0 (cur x_6.1 y.2.1 y.2.2),Ad (i.2.2.2++zs),.int .i64 (i.1+(1:Int))]) (Aa (y.1==(3:Int)) (∃(x_3:List UInt8),#[(47:UInt8),(47:UInt8)].toList=x_3∧∃(x_4:List UInt8),#[(47:UInt8),(47:UInt8),(32:UInt8),(115:UInt8),(97:UInt8),(105:UInt8),(100:UInt8)].toList=x_4∧∃(x_5:List UInt8),#[(47:UInt8),(47:UInt8),(97:UInt8),(32:UInt8),(32:UInt8),(98:UInt8)].toList=x_5∧cA FA [.box 0 (cur x_2.1 y.2.1 y.2.2),AV.sl true 0 1 (List UInt8) Ai [x_3,x_4,x_5]] fun x_6 y=>∃(x_7:Sg),(5:Int)=x_7.kind∧y.1=x_7.text∧(0:Int)=x_7.pos∧false=x_7.blank∧∃(zs:List Sg),Ad [x_7]=Ad zs∧Bu sgA∧Ba (List.length i.2.2.2+List.length zs) (40:Nat)∧inR IntKind.i64 (i.1+(1:Int))∧eN (Kq x) i [.box 0 (cur x_6.1 y.2.1 y.2.2),Ad (i.2.2.2++zs),.int .i64 (i.1+(1:Int))]) (cA Ji [] fun x_3 y_1=>cA FA [.box 0 (cur x_2.1 y.2.1 y.2.2),AV.sl false 0 1 (List UInt8) Ai mks] fun x_4 y=>∃(x_5:Sg),(4:Int)=x_5.kind∧y.1=x_5.text∧(0:Int)=x_5.pos∧false=x_5.blank∧∃(zs:List Sg),Ad [x_5]=Ad zs∧Bu sgA∧Ba (List.length i.2.2.2+List.length zs) (40:Nat)∧inR IntKind.i64 (i.1+(1:Int))∧eN (Kq x) i [.box 0 (cur x_4.1 y.2.1 y.2.2),Ad (i.2.2.2++zs),.int .i64 (i.1+(1:Int))]))))) (rA LR x [Ad i.2.2.2,.box 0 (cur x_1.1 y.2.1 y.2.2)])) (fun x=>by kernel_rfl) fun(x:List UInt8×Int×Int) (hx:Af x.1 x.2.1)=>(by
 dsimp only[DC,cA,cur,eA,eN,Kq,Ad,rA,Dx,FA,LR,Ji,Bv,Aw,AR,mvL,lnL,mvE,lnE,Br]
 obtain⟨b,i,h⟩:=x;dsimp only at hx ⊢
 have hx:Af b i:=hx
 (repeat' first|refine b5S ?_|(with_reducible first|rfl|exact True.intro|apply AM|apply And.intro|((first|apply AC|apply AK|apply AD|apply AL)<;>intro _))|(apply AB<;>intro _)|apply AJ|refine Ag () ?_ ?_|((first|apply AQ|apply AP|apply AO|apply AN|apply AI|apply AH|apply AG|apply AF|apply AE)<;>try dsimp only)|apply Ag|(refine Prod.forall.2 ?_;intro _;try dsimp only)|(intro _;try dsimp only))
 all_goals(try(have hB:=b5P (And.left (show s4B _ _∧_ by assumption))))
 all_goals(repeat(rename((_→_)∧(_→_))∧Af _ _=>hq;obtain⟨⟨_,_⟩,_⟩:=hq))
 all_goals(repeat(rename _∧Af _ _=>hq;obtain⟨_,_⟩:=hq))
 all_goals first
  |rfl
  |exact hx
  |(with_reducible assumption)
  |(show Af _ _;with_reducible assumption)
  |omega
  |exact b5Q
  |exact b5R ‹_› (by omega)
  |(exfalso;rename _=[]=>hq;first|(cases hq;done)|exact absurd hq (by decide))
  |(simp;done)
  |(simp [mks];done)
  |((try simp only[AS,Ba,List.length_cons,List.length_nil]);omega)
  |skip)
theorem b5T{t:List UInt8}{l:List Sg}(h:sgQ t l):l.length≤3000:=by
 rcases h with h|h
 ·exact h.2.1
 ·rw[h.2];simp
theorem b5U{l:List Sg}:(DH l).length≤l.length:=Pj
attribute [local irreducible] sgQ
def LT:Sig:= {X:=List UInt8,args:=fun x=>[.sl false 0 1 UInt8 byA x],pre:=fun x=>x.length≤2^21,Y:=List Sg×List Sg,post:=fun x y=>y.1.length≤3000∧y.2.length≤3000,res:=fun x y=> .tup [sgs y.1,sgs y.2],outs:=fun x y=>[.top],keep:=true}
theorem b5V:Am G Tryz.prog 11 LT:=
 vcFun_okP [(21,0,IM),(31,0,Dx),(20,0,SF),(7,0,Gt),(32,0,LR),(33,0,IG)] [] false (fun x=>[]) Tryz.func11 rfl (by decide) ⟨WX,Hp,WW,We,a3S,a2J,trivial⟩ (fun(x:List UInt8)=>True∧cA IM [byL x] fun x_1 y=>∃(x_2:List UInt8×Int×Int×Int),Af x_2.1 x_2.2.1∧y.2=y.2∧byL x_1=byL x_2.1∧(0:Int)=x_2.2.1∧y.1=x_2.2.2.1∧(3:Int)=x_2.2.2.2∧∀(y_1:Int×Int×Int),(((0:Int)<x_2.2.2.2→(0:Int)≤y_1.1∧y_1.1<x_2.2.2.2)∧(x_2.2.2.2≤(0:Int)→y_1.1=(0:Int)))∧Af x_2.1 y_1.2.1→y.2=y.2∧∃(x_3:Value×List UInt8×Int×Int),Af x_3.2.1 x_3.2.2.1∧(y.2=y.2∧y.2=x_3.1)∧byL x_2.1=byL x_3.2.1∧y_1.2.1=x_3.2.2.1∧y_1.2.2=x_3.2.2.2∧∀(y_2:List UInt8×Int×Int),List.length y_2.1≤(16777216:Nat)∧Af x_3.2.1 y_2.2.1→y.2=y.2∧cA Gt [.str y_2.1] fun x_4 y_3=>Aa (y_1.1==(0:Int)) (∃(x_5:List UInt8×Int×Int),Af x_5.1 x_5.2.1∧y.2=y.2∧byL x_3.2.1=byL x_5.1∧y_2.2.1=x_5.2.1∧y_2.2.2=x_5.2.2∧∀(y_4:List Sg×Int×Int),List.length y_4.1≤(9:Nat)∧Af x_5.1 y_4.2.1→y.2=y.2∧rA LT x [.tup [sgs y_3.1,Ad y_4.1],.top]) (cA IG [sgs y_3.1] fun x_5 y=>rA LT x [.tup [sgs y_3.1,sgs (DH x_5)],.top])) (fun x=>by kernel_rfl) fun(x:List UInt8) (hx:x.length≤2^21)=>(by
 dsimp only[DC,byL,cA,cur,Ad,rA,IM,LT,IG,Gt,Bv,sgs,Aw,AR,mvL,lnL,mvE,lnE]
 have hx:x.length≤2^21:=hx
 (repeat' first|(with_reducible first|rfl|exact True.intro|apply AM|apply And.intro|((first|apply AC|apply AK|apply AD|apply AL)<;>intro _))|(apply AB<;>intro _)|apply AJ|refine Ag () ?_ ?_|((first|apply AQ|apply AP|apply AO|apply AN|apply AI|apply AH|apply AG|apply AF|apply AE)<;>try dsimp only)|apply Ag|(refine Prod.forall.2 ?_;intro _;try dsimp only)|(intro _;try dsimp only))
 all_goals(repeat(rename _∧Af _ _=>hq;obtain⟨_,_⟩:=hq))
 all_goals(try(have hS:=b5T ‹_›))
 all_goals first
  |rfl
  |exact hx
  |exact SH hx
  |exact()
  |(with_reducible assumption)
  |omega
  |exact Nat.le_trans b5U (by omega)
  |skip)
def NF:Sig:= {X:=List UInt8,args:=fun x=>[.sl false 0 1 UInt8 byA x],pre:=fun x=>x.length≤2^21,Y:=List Sg×Unit,post:=fun x y=>y.1.length≤9,res:=fun x y=>Ad y.1,outs:=fun x y=>[.top],keep:=true}
theorem b5W:Am G Tryz.prog 12 NF:=
 vcFun_okP [(21,0,LO),(32,0,LR)] [] false (fun x=>[]) Tryz.func12 rfl (by decide) ⟨a3Q,a3S,trivial⟩ (fun(x:List UInt8)=>True∧cA LO [byL x] fun x_1 y=>cA LR [.box 0 (cur x_1 (0:Int) y)] fun x_2 y=>rA NF x [Ad y.1,.top]) (fun x=>by kernel_rfl) fun(x:List UInt8) (hx:x.length≤2^21)=>(by
 dsimp only[DC,byL,cA,cur,Ad,rA,LO,NF,LR,Bv,Aw,AR,mvL,lnL,mvE,lnE]
 have hx:x.length≤2^21:=hx
 (repeat' first|(with_reducible first|rfl|exact True.intro|apply AM|apply And.intro|((first|apply AC|apply AK|apply AD|apply AL)<;>intro _))|(apply AB<;>intro _)|apply AJ|refine Ag () ?_ ?_|((first|apply AQ|apply AP|apply AO|apply AN|apply AI|apply AH|apply AG|apply AF|apply AE)<;>try dsimp only)|apply Ag|(refine Prod.forall.2 ?_;intro _;try dsimp only)|(intro _;try dsimp only))
 all_goals(repeat(rename _∧Af _ _=>hq;obtain⟨_,_⟩:=hq))
 all_goals first
  |rfl
  |exact hx
  |exact SH hx
  |exact()
  |(with_reducible assumption)
  |omega
  |skip)
def Ia:Sig:= {X:=List (List UInt8)×Unit,args:=fun x=>[Ho x.1,Ho x.1],pre:=fun x=>x.1.length<2^62,Y:=Unit,post:=fun x y=>True,res:=fun x y=> .bool true,outs:=fun x y=>[.top,.top],keep:=false}
def SK(x:List (List UInt8)×Unit):LS:= {ι:=Int,inv:=fun i=>0≤i∧i≤x.1.length,regs:=fun i=>[(0,Ho x.1),(1,Ho x.1),(5,.int .i64 i)],als:=[],meas:=fun i=>x.1.length-i.toNat}
theorem b5X:Am G Tryz.prog 17 Ia:=
 vcFun_okP [] [] false (fun x=>[(4,SK x)]) Tryz.func17 rfl (by decide) trivial (fun(x:List (List UInt8)×Unit)=>(∀(y:Unit),True→True∧True∧True∧True)∧Aa ((↑(List.length x.1):Int) != (↑(List.length x.1):Int)) (rA Ia x [.bool false,.top,.top]) (eA (SK x) [AV.sl false 0 1 (List UInt8) Ai x.1,AV.sl false 0 1 (List UInt8) Ai x.1,.int .i64 (0:Int)]∧∀(i:Int),(0:Int)≤i∧i≤(↑(List.length x.1):Int)→Aa (decide (i<(↑(List.length x.1):Int))) (true=true∧true=true∧((0:Int)≤i∧i<(↑(List.length x.1):Int))∧∀(e:List UInt8),x.1[Int.toNat i]? =some e→((0:Int)≤i∧i<(↑(List.length x.1):Int))∧∀(e_1:List UInt8),x.1[Int.toNat i]? =some e_1→Aa (!e==e_1) (rA Ia x [.bool false,.top,.top]) (inR IntKind.i64 (i+(1:Int))∧eN (SK x) i [AV.sl false 0 1 (List UInt8) Ai x.1,AV.sl false 0 1 (List UInt8) Ai x.1,.int .i64 (i+(1:Int))])) (rA Ia x [.bool true,.top,.top]))) (fun x=>by kernel_rfl) fun(x:List (List UInt8)×Unit) (hx:x.1.length<2^62)=>(by
 dsimp only[eA,eN,SK,rA,Ia,Ho,Aw,AR,Br]
 obtain⟨x,_⟩:=x;dsimp only at hx ⊢
 have hx:x.length<2^62:=hx
 (repeat' first|(with_reducible first|rfl|exact True.intro|apply AM|apply And.intro|((first|apply AC|apply AK|apply AD|apply AL)<;>intro _))|(apply AB<;>intro _)|apply AJ|refine Ag () ?_ ?_|((first|apply AQ|apply AP|apply AO|apply AN|apply AI|apply AH|apply AG|apply AF|apply AE)<;>try dsimp only)|apply Ag|(refine Prod.forall.2 ?_;intro _;try dsimp only)|(intro _;try dsimp only))
 all_goals(try(repeat(rename(_:List (List UInt8))[_]? =some _=>hq;revert hq;rename(_:List (List UInt8))[_]? =some _=>hr;intro hq;rw[hr] at hq;cases hq)))
 all_goals first
  |rfl
  |omega
  |(exfalso;rename _≠_=>hq;exact hq rfl)
  |(exfalso;rename(_==_)=false=>hq;rw[beq_self_eq_true] at hq;cases hq;done)
  |((try simp only[AS]);omega)
  |skip)
end Go.My
end
section
namespace Go.My
open Go.Eng Go.Proofs
variable {G:GInv}
def NG:Sig:= {X:=List UInt8,args:=fun x=>[.sl false 0 1 UInt8 byA x],pre:=fun x=>True,Y:=Unit,post:=fun x y=>True,res:=fun x y=> .bool (decide ((x.length:Int)>1048576)),outs:=fun x y=>[.top],keep:=false}
theorem b5Y:Am G Tryz.prog 4 NG:=
 vcFun_okP [] [] false (fun x=>[]) Tryz.func4 rfl (by decide) trivial (fun(x:List UInt8)=>(∀(y:Unit),True→True∧True∧True)∧rA NG x [.bool (decide ((↑(List.length x):Int)>(1048576:Int))),.top]) (fun x=>by kernel_rfl) fun(x:List UInt8) (hx:True)=>(by
 dsimp only[DC,rA,NG,Aw,AR]
 (repeat' first|(with_reducible first|rfl|exact True.intro|apply AM|apply And.intro|((first|apply AC|apply AK|apply AD|apply AL)<;>intro _))|(apply AB<;>intro _)|apply AJ|refine Ag () ?_ ?_|((first|apply AQ|apply AP|apply AO|apply AN|apply AI|apply AH|apply AG|apply AF|apply AE)<;>try dsimp only)|apply Ag|(refine Prod.forall.2 ?_;intro _;try dsimp only)|(intro _;try dsimp only))<;>(try dsimp only at*)<;>(try simp only[AS,List.length_cons,List.length_nil])<;>(try omega))
theorem a3T:∀ {l:List Sg},(∀e∈l,e.text.length≤3000)→(Cq l).length≤l.length*3001
 |[],_=>by simp [Cq]
 |e::l,h=>by
  have ih:=a3T (l:=l) fun x hx=>h x (by simp [hx])
  have h1:=h e (by simp)
  have h2:(if e.kind=5 then([10]:List UInt8) else if l=[] then [] else [32]).length≤1:=by split;simp;split<;>simp
  rw[Cq,List.length_append,List.length_append,List.length_cons,Nat.succ_mul];omega
structure FlB (t:List UInt8) (sg:List Sg) (L:List Nd):Prop where
 q:FlQ t sg L
 nd:Bi L∧LG L
 sg:sg.length≤3000
 fl:(Cq (BV L)).length≤2^40
 sl:(BV L).length≤3000
theorem b5Z{L:List Nd}(h:BO L=true):LG L:=by
 have t:=JU h
 refine⟨by omega,fun e he=> ?_⟩
 obtain⟨i,hi⟩:=List.mem_iff_getElem?.1 he
 have hl:=(List.getElem?_eq_some_iff.1 hi).1
 have hn:=(FG (t.1.1 i hl)).2.1
 rw[Bz (c:=(i:Int)) (by simpa using hi)] at hn;omega
theorem b6a{t:List UInt8}{L:List Nd}{sg:List Sg}(ht:(Cp t).isSome=true)(hL:L=(Cp t).getD []∧Bi L)(hs:sgQ t sg):FlB t sg L:=by
 cases hr:Cp t with
 |none=>rw[hr] at ht;cases ht
 |some M=>
  rw[hr] at hL
  obtain⟨hLM,hok⟩:=hL
  have hLM:M=L:=hLM.symm
  subst hLM
  obtain⟨sg',ms,h1,h2⟩:∃sg ms,Cj t=some sg∧FM sg=some (ms,M):=by
   unfold Cp at hr
   obtain⟨sg,h1,h2⟩:=Option.bind_eq_some_iff.1 hr
   rw[Option.map_eq_some_iff] at h2
   obtain⟨⟨ms,L'⟩,h3,h4⟩:=h2
   simp only at h4;subst h4
   exact⟨sg,ms,h1,h3⟩
  have hsg:Cj t=some sg∧sgB sg:=by
   rcases hs with h|h
   ·exact h
   ·rw[h.1] at h1;cases h1
  have e:sg'=sg:=by rw[h1] at hsg;exact Option.some.inj hsg.1
  subst e
  have q:=b4O h1 h2
  have hl:=q.len
  obtain⟨⟨htr,hcc⟩,he⟩:=a0u h2
  have hb:=hsg.2
  refine⟨q,⟨hok,b5Z htr⟩,hb.1,?_,by have:=hb.1;omega⟩
  have:(Cq (BV M)).length≤(BV M).length*3001:=a3T fun x hx=>by
   have hm:kt x∈Cc (sg'.map kt):=by rw[he,←a3B htr];exact List.mem_map_of_mem hx
   obtain⟨y,hy,hye⟩:=List.mem_map.1 (Sw hm)
   have e2:y.text=x.text:=congrArg Prod.snd hye
   rw[←e2];exact hb.2 y hy
  have h3:=hb.1
  have:(BV M).length*3001≤3000*3001:=Nat.mul_le_mul_right _ (by omega)
  omega
theorem a3U{t:List UInt8}{sg:List Sg}{L:List Nd}(h:FlB t sg L)(hl:¬((Cq (BV L)).length:Int)>3000):Cp (Cq (BV L))=some (L.map nb):=h.q.again (by omega)
theorem b6b{t:List UInt8}{sg:List Sg}{L:List Nd}(h:FlB t sg L)(hl:¬((Cq (BV L)).length:Int)>3000)(hf:(Cp (Cq (BV L))).isSome=false):False:=by rw[a3U h hl] at hf;cases hf
theorem b6c{t:List UInt8}{sg:List Sg}{L L2:List Nd}(h:FlB t sg L)(hl:¬((Cq (BV L)).length:Int)>3000)(h2:L2=(Cp (Cq (BV L))).getD []∧Bi L2):L2.length=L.length:=by
 rw[h2.1,a3U h hl];simp
theorem a3V{L:List Nd}(h:spB L):Bi L∧LG L:=⟨h.2.1,by have:=h.1;omega,fun e he=>by have:=h.2.2 e he;omega⟩
theorem b6d{L:List Nd}:(BV L).length<2^62:=by have:= @a3F L;omega
theorem a3W{l:List Sg}(h:l.length≤3000):(EB l).length<2^62:=by have:= @Wk l l.length;unfold EB;omega
attribute [local irreducible] Cp spB DH Cj sgQ BV Cq EB kwF
def Hs:Sig:= {X:=List UInt8,args:=fun x=>[.sl false 0 1 UInt8 byA x],pre:=fun x=>x.length<2^63,Y:=Unit,post:=fun x y=>True,res:=fun x y=> .bool true,outs:=fun x y=>[.top],keep:=false}
theorem b6e:Am G Tryz.prog 3 Hs:=
 vcFun_okP [(4,0,NG),(5,0,LQ),(6,0,DG),(7,0,Gt),(8,0,Jv),(15,0,Kp),(9,0,LP),(10,0,NE),(11,0,LT),(12,0,NF),(13,0,Km),(16,0,LC),(18,0,Jr),(19,0,Js),(14,0,Jx),(17,0,Ia)] [] false (fun x=>[]) Tryz.func3 rfl (by decide) ⟨b5Y,b5N,Wh,We,b4K,b5b,b5K,b5O,b5V,b5W,b4h,b4i,b4f,b4g,b5L,b5X,trivial⟩ (fun(x:List UInt8)=>(∀(y:Unit),True→True∧True∧True)∧cA NG [byL x] fun x_1 y=>Aa (decide ((↑(List.length x_1):Int)>(1048576:Int))) (rA Hs x [.bool true,.top]) (cA LQ [byL x] fun x_2 y=>cA DG [.str y.1] fun x_3 y_1=>cA Gt [.str y.1] fun x_4 y=>cA Jv [nds y_1.1] fun x_5 y_2=>cA LP [Ad (BV x_5)] fun x_6 y_3=>cA DG [.str (Cq x_6.1)] fun x_7 y_4=>cA NE [byL x] fun x_8 y_5=>cA LT [byL x] fun x_9 y_6=>cA NF [byL x] fun x_10 y_7=>cA Km [Ad (BV x_5),sgs y.1] fun x_11 y_8=>Aa (kwF x_11.1 x_11.2) (cA LP [Ad (BV x_5)] fun x_12 y_9=>Aa (decide ((↑(List.length (Cq x_12.1)):Int)>(3000:Int))) (Aa (decide ((↑(List.length (BV x_5)):Int)≤(↑(List.length y.1):Int))) (cA Jv [Bd y_5.1] fun x_13 y_10=>cA Kp [Bd y_5.1] fun x_14 y_11=>cA Jx [Ad (BV x_13),Ad (BV x_14)] fun x_15 y_12=>cA Km [sgs y_6.1,sgs y_6.2] fun x_16 y_13=>cA LC [sgs y_6.1,sgs y_6.2] fun x_17 y_14=>Aa (kwF x_16.1 x_16.2==kwF x_17.1 x_17.2) (cA Jr [Ad y_7.1] fun x_18 y_15=>cA Js [AV.sl false 0 4 Sg (fun(x:Sg)=>fzL (sgA x)) y_7.1] fun x_19 y_16=>cA Ia [AV.sl false 0 1 (List UInt8) Ai (EB x_18),AV.sl false 0 1 (List UInt8) Ai (EB x_19)] fun x_20 y_17=>cA Jr [sgs y.1] fun x_21 y=>cA Js [Ad (BV x_5)] fun x_22 y=>cA Ia [AV.sl false 0 1 (List UInt8) Ai (EB x_21),AV.sl false 0 1 (List UInt8) Ai (EB x_22)] fun x_23 y=>rA Hs x [.bool true,.top]) (rA Hs x [.bool false,.top])) (rA Hs x [.bool false,.top])) (Aa (Option.isSome (Cp x_7)) (Aa ((↑(List.length y_4.1):Int)==(↑(List.length y_1.1):Int)) (Aa (decide ((↑(List.length (BV x_5)):Int)≤(↑(List.length y.1):Int))) (cA Jv [Bd y_5.1] fun x_13 y_10=>cA Kp [Bd y_5.1] fun x_14 y_11=>cA Jx [Ad (BV x_13),Ad (BV x_14)] fun x_15 y_12=>cA Km [sgs y_6.1,sgs y_6.2] fun x_16 y_13=>cA LC [sgs y_6.1,sgs y_6.2] fun x_17 y_14=>Aa (kwF x_16.1 x_16.2==kwF x_17.1 x_17.2) (cA Jr [Ad y_7.1] fun x_18 y_15=>cA Js [AV.sl false 0 4 Sg (fun(x:Sg)=>fzL (sgA x)) y_7.1] fun x_19 y_16=>cA Ia [AV.sl false 0 1 (List UInt8) Ai (EB x_18),AV.sl false 0 1 (List UInt8) Ai (EB x_19)] fun x_20 y_17=>cA Jr [sgs y.1] fun x_21 y=>cA Js [Ad (BV x_5)] fun x_22 y=>cA Ia [AV.sl false 0 1 (List UInt8) Ai (EB x_21),AV.sl false 0 1 (List UInt8) Ai (EB x_22)] fun x_23 y=>rA Hs x [.bool true,.top]) (rA Hs x [.bool false,.top])) (rA Hs x [.bool false,.top])) (rA Hs x [.bool false,.top])) (rA Hs x [.bool false,.top]))) (rA Hs x [.bool false,.top]))) (fun x=>by kernel_rfl) fun(x:List UInt8) (hx:x.length<2^63)=>(by
 dsimp only[DC,byL,cA,Bx,nds,Ab,Bd,Ad,rA,NG,NF,NE,LQ,LT,Jr,Jv,Km,Hs,LP,Js,DG,Gt,Kp,LC,Jx,Ia,Bv,sgs,srd,Ho,Aw,AR,mvL,lnL,mvE,lnE]
 have hx:x.length<2^63:=hx
 (repeat' first|(with_reducible first|rfl|exact True.intro|apply AM|apply And.intro|((first|apply AC|apply AK|apply AD|apply AL)<;>intro _))|(apply AB<;>intro _)|apply AJ|refine Ag () ?_ ?_|((first|apply AQ|apply AP|apply AO|apply AN|apply AI|apply AH|apply AG|apply AF|apply AE)<;>try dsimp only)|apply Ag|(refine Prod.forall.2 ?_;intro _;try dsimp only)|(intro _;try dsimp only))
 all_goals(try(have hT:=And.left (show(Cp _).isSome=true∧_ by assumption)))
 all_goals(try(have hF:=b6a hT (show _=(Cp _).getD []∧Bi _ by assumption) (show sgQ _ _ by assumption)))
 all_goals first
  |rfl
  |omega
  |exact()
  |exact hF.q.notes.symm
  |exact hF.q.notes
  |exact hF.nd.1
  |exact hF.nd.2
  |exact hF.fl
  |exact(a3V (by with_reducible assumption)).1
  |exact(a3V (by with_reducible assumption)).2
  |exact b6d
  |exact a3W (by have:=hF.sg;omega)
  |exact a3W hF.sl
  |(have:=hF.sg;have:=hF.sl;omega)
  |(have:=hF.fl;omega)
  |(have h5:= @a3F;exact Nat.lt_of_le_of_lt h5 (by decide))
  |(exfalso;exact b6b hF ‹_› ‹_›)
  |(exfalso;have hq:=b6c hF ‹_› ‹_›;omega)
  |(exfalso;rename kwF _ _=false=>hq;rw[hF.q.words] at hq;cases hq;done)
  |(exfalso;have hq:=hF.q.len;omega)
  |(exfalso;rename(_==_)=false=>hq;rw[beq_self_eq_true] at hq;cases hq;done)
  |(exfalso;rename _≠_=>hq;exact hq rfl)
  |skip)
end Go.My
end
section
namespace Go.Eng
def Old(w:World):FP:=fun b=>w.heap.size≤b
def Jy(P:Program)(t:TypeId){α:Type}(f:α→List AV)(good:α→Prop):Prop:=
 ∀ {H:Type} (enc:TypeId×Value→H) (w:World) (spare:Nat→Bool) (held:Bool) (fuel:Nat) (cs:List Value) (y:DataW H×List MemPlace),
   DataW.trod enc P w 0 spare held fuel t cs=some y→∃x:α,good x∧AZ (Old w) w (f x) cs (fun _=>False)
theorem SL{Z:FP}{w:World}{a:AV}{v:Value}:AZ Z w [a] [v] (fun _=>False)↔Al Z w a v (fun _=>False):=by
 simp only[AZ]
 constructor
 ·rintro⟨u,cs',A,B,e,hj,h1,h2,h3⟩
  simp only[List.cons.injEq] at e
  obtain⟨rfl,rfl⟩:=e
  have:=(Ib hj AU).1
  rwa [EE this] at h1
 ·intro h
  exact⟨v,[],fun _=>False,fun _=>False,rfl,BX _,h,rfl,AU⟩
theorem b6f{Z:FP}{w:World}{a:AV}{azs:List AV}{v:Value}{vs:List Value}(h1:Al Z w a v (fun _=>False))(h2:AZ Z w azs vs (fun _=>False)):
 AZ Z w (a::azs) (v::vs) (fun _=>False):=by
 simp only[AZ]
 exact⟨v,vs,_,_,rfl,BX _,h1,h2⟩
theorem b6g{k:IntKind}{n:Int}(h:(Lit.int k n).wf=true):inR k n:=by
 unfold inR
 simpa [Lit.wf] using h
theorem b6h{P:Program}{t:TypeId}{k:IntKind}(ht:P.underlying t=some (.int k)):Jy P t (fun n:Int=>[.int k n]) (fun n=>inR k n):=by
 intro H enc w spare held fuel cs y h
 obtain⟨n,rfl,_,hw⟩:=DataW.trod_int ht h
 exact⟨n,b6g hw,SL.2 (by simp [Al,emp])⟩
theorem a3X{α:Type}{p:Nat→α→Prop}:∀n,(∀i,i<n→∃x,p i x)→∃l:List α,l.length=n∧∀i x,l[i]? =some x→p i x
 |0,_=>⟨[],rfl,fun i x h=>by simp at h⟩
 |n+1,h=>by
  obtain⟨l,hl,hp⟩:=a3X n fun i hi=>h i (by omega)
  obtain⟨x,hx⟩:=h n (by omega)
  refine⟨l++[x],by simp [hl],fun i y hy=> ?_⟩
  by_cases hi:i<l.length
  ·rw[List.getElem?_append_left hi] at hy;exact hp i y hy
  ·rw[List.getElem?_append_right (by omega)] at hy
   have:i-l.length=0:=by
    rcases Nat.eq_zero_or_pos (i-l.length) with h|h
    ·exact h
    ·rw[List.getElem?_eq_none (by simp;omega)] at hy;cases hy
   rw[this] at hy;simp at hy;subst hy
   rwa [show i=n by omega]
theorem a3Y{α:Type}{sz:Nat}{R:α→List Value→FP→Prop}:∀(xs:List α) (arr:List Value),
 (∀(i:Nat) (x:α),xs[i]? =some x→((arr.drop (i*sz)).take sz).length=sz∧R x ((arr.drop (i*sz)).take sz) (fun _=>False))→Rows sz R xs arr (fun _=>False)
 |[],arr,h=>AU
 |x::xs,arr,h=>by
  have h0:=h 0 x rfl
  simp only[Nat.zero_mul,List.drop_zero] at h0
  refine⟨_,_,BX _,h0.1,h0.2,a3Y xs (arr.drop sz) fun i y hy=> ?_⟩
  have:=h (i+1) y (by simpa using hy)
  rwa [Nat.succ_mul,Nat.add_comm,←List.drop_drop] at this
theorem b6i{P:Program}{t e:TypeId}{sz:Nat}{α:Type}{f:α→List AV}{good:α→Prop}(ht:P.underlying t=some (.slice e))(hc:P.cellsOf e=sz)(hpos:0<sz)
 (ho:Jy P e f good):Jy P t (fun l:List α=>[.sl false 0 sz α f l]) (fun l=>l.length<2^63∧∀x∈l,good x):=by
 intro H enc w spare held fuel cs y h
 rcases DataW.trod_slice ht h with⟨rfl,_⟩|⟨a,len,cap,elems,rest,n,_,rfl,_,hb,hl,hm,hlen,hel,_,_⟩
 ·refine⟨[],⟨by simp,by simp⟩,SL.2 ?_⟩
  simp only[Al]
  exact⟨none,0,0,rfl,rfl,Nat.le_refl _,.inr ⟨trivial,AU,.inl trivial⟩⟩
 ·have each:∀i,i<len→∃x:α,good x∧∃cs,w.cells? 0 (a.add (i*sz)) sz=some cs∧AZ (Old w) w (f x) cs (fun _=>False):=by
   intro i hi
   have h1:=hel i hi
   rw[hc] at h1
   rw[List.getElem?_eq_getElem (by omega:i<elems.length),Option.bind_eq_some_iff] at h1
   obtain⟨cs,h2,h3⟩:=h1
   obtain⟨x,hg,hr⟩:=ho enc w spare held n cs _ h3
   exact⟨x,hg,cs,h2,hr⟩
  obtain⟨l,hll,hp⟩:=a3X len each
  refine⟨l,⟨?_,?_⟩,SL.2 ?_⟩
  ·unfold maxLen at hm;omega
  ·intro x hx
   obtain⟨i,hi⟩:=List.getElem?_of_mem hx
   exact(hp i x hi).1
  ·simp only[Al]
   refine⟨some a,len,cap,rfl,hll.symm,hl,.inr ⟨trivial,AU,?_⟩⟩
   rcases Nat.eq_zero_or_pos len with h0|h0
   ·exact .inl (List.length_eq_zero_iff.1 (by omega))
   ·refine .inr ?_
    obtain⟨x0,_,c0,hc0,_⟩:=each 0 h0
    have h00:=(World.cells?_some hc0).2.2 0 hpos
    have hcl:=(World.cells?_some hc0).2.1
    simp only[Nat.zero_mul,Addr.add] at h00
    obtain⟨b,off,sp⟩:=a
    simp only[World.cell?,if_true] at h00
    split at h00
    ·rename_i arr ty fr harr
     split at h00
     ·rw[List.getElem?_eq_getElem (by omega)] at h00;cases h00
     ·rename_i hsp
      have hsp:sp=none:=by simpa using hsp
      subst hsp
      have hlt:b<w.heap.size:=by
       rcases Nat.lt_or_ge b w.heap.size with h|h
       ·exact h
       ·rw[Array.getElem?_eq_none h] at harr;cases harr
      refine⟨b,off,arr,ty,fr,rfl,by unfold Old;omega,harr,a3Y l _ fun i x hx=> ?_⟩
      have hi:i<l.length:=(List.getElem?_eq_some_iff.1 hx).1
      obtain⟨hg,cs,hcs,hr⟩:=hp i x hx
      obtain⟨_,hcl,hce⟩:=World.cells?_some hcs
      have e:((arr.toList.drop off).drop (i*sz)).take sz=cs:=by
       refine List.ext_getElem? fun j=> ?_
       rw[List.getElem?_take]
       split
       ·rename_i hj
        have:=hce j hj
        rw[←this]
        simp only[List.getElem?_drop,Array.getElem?_toList]
        have ea:((⟨b,off,none⟩:Addr).add (i*sz)).add j=⟨b,off+i*sz+j,none⟩:=by
         unfold Addr.add
         by_cases h1:i*sz=0<;>by_cases h2:j=0<;>simp [h1,h2]
        rw[ea]
        simp only[World.cell?,harr]
        simp [Nat.add_assoc]
       ·rw[List.getElem?_eq_none (by omega)]
      rw[e]
      exact⟨hcl,hr⟩
    ·rw[List.getElem?_eq_getElem (by omega)] at h00;cases h00
end Go.Eng
end
section
namespace Go.Eng
open Go.ChangeShapes Go.WideShapes Go.ChangeAt Go.RowKit
theorem b6j{Z Z' A':FP}{w w':World}(h:After Z w (fun _=>False) Z' w' A'):Below w.heap.size w w':=
 ⟨h.os,h.tape,h.output,h.size,fun b hb=>(h.old b hb (fun x=>x)).1⟩
theorem a3Z{H:Type}{enc:TypeId×Value→H}{P:Program}(hl:laidOutB P=true){W W':World}(hb:Below W.heap.size W W'):
 ∀(ts:List TypeId) (vs:List Value) (ds:List (DataW H)) (ps:List MemPlace),ts.all (fun t=>P.readableRec t&&decide (t<P.types.size))=true→
 DataW.TrodAll enc P W 0 (fun _=>true) true ts vs ds ps→(∀x∈ps,x.block<W.heap.size)→DataW.TrodAll enc P W' 0 (fun b=>decide (b<W.heap.size)) true ts vs ds ps
 |[],[],[],ps,ht,h,hp=>h
 |t::ts,v::vs,d::ds,ps,ht,h,hp=>by
  obtain⟨p,q,h1,h2,rfl⟩:=h
  simp only[List.all_cons,Bool.and_eq_true,decide_eq_true_eq] at ht
  exact⟨p,q,Below.trod hl ht.1.1 ht.1.2 h1 hb (fun x hx=>hp x (List.mem_append_left _ hx)),a3Z hl hb ts vs ds q ht.2 h2 (fun x hx=>hp x (List.mem_append_right _ hx)),rfl⟩
 |[],_::_,_,_,ht,h,hp=>h.elim
 |[],[],_::_,_,ht,h,hp=>h.elim
 |_::_,[],_,_,ht,h,hp=>h.elim
 |_::_,_::_,[],_,ht,h,hp=>h.elim
theorem b6k{H:Type}{enc:TypeId×Value→H}{P:Program}{f:Func}{s:ChangeSpec}{W W':World}{args:Array Value}{ds gs:List (DataW H)}{before:List MemPlace}{tb:TypeId}
 (hl:laidOutB P=true) (ht:f.params.toList.all (fun t=>P.readableRec t&&decide (t<P.types.size))=true) (hv:s.vars=[])
 (hs:s.fn H ds= {results:=[.lit (.bool true)],args:=ds}) (hr:f.resultTypes= #[tb]) (htb:P.underlying tb=some .bool)
 (hW:DataW.Whole enc P f.params.toList s.vars false W args.toList ds gs before) (hb:Below W.heap.size W W'):s.post enc P f false true false false W args (.bool true) W':=by
 have hW0:=hW
 obtain⟨p,q,hA,hV,rfl,hfz,hnd⟩:=hW
 rw[hv] at hV
 obtain⟨rfl,rfl⟩:=trodVars_none hV
 refine⟨ds,[],p++[],[],p,[],hW0,?_,?_,?_,hb.frame _,fun h=>by cases h⟩
 ·simp only[List.append_nil]
  rw[hs,hr]
  exact trodAll_mk1 (shut_bool htb _)
 ·simp only[List.append_nil]
  rw[hs]
  exact a3Z hl hb _ _ _ _ ht hA (fun x hx=>by simpa using hW0.lt x (by simpa using hx))
 ·simp only[List.append_nil]
  rw[hs,hv]
  rfl
def noG:GInv:=⟨fun _ _=>True,fun _ _ _ _ _ _=>trivial⟩
def b6l(X:Type)(args:X→List AV)(pre:X→Prop)(n:Nat):Sig:=
 {X:=X,args:=args,pre:=pre,Y:=Unit,post:=fun _ _=>True,res:=fun _ _=> .bool true,outs:=fun _ _=>List.replicate n .top,keep:=false}
theorem b6m{H:Type}{enc:TypeId×Value→H}{P:Program}{fi:FuncId}{f:Func}{s:ChangeSpec}{W:World}{args:Array Value}{ds gs:List (DataW H)}{before:List MemPlace}{tb:TypeId}
 {X:Type} {azs:X→List AV} {pre:X→Prop} {n:Nat} {G:GInv} (hc:Am G P fi (b6l X azs pre n)) (hG:G.p (Old W) W)
 (hl:laidOutB P=true) (ht:f.params.toList.all (fun t=>P.readableRec t&&decide (t<P.types.size))=true) (hv:s.vars=[])
 (hs:s.fn H ds= {results:=[.lit (.bool true)],args:=ds}) (hr:f.resultTypes= #[tb]) (htb:P.underlying tb=some .bool)
 (hW:DataW.Whole enc P f.params.toList s.vars false W args.toList ds gs before)
 (ho:∃x,pre x∧AZ (Old W) W (azs x) args.toList (fun _=>False)):
 Calls P fi args W fun e W'=>∃v,e= .returned v∧s.post enc P f false true false false W args v W':=by
 obtain⟨x,hx,hrel⟩:=ho
 refine(hc.2 x hx (Old W) W args.toList _ hG hrel (fun b h=>h.elim) trivial).mono fun e W' h=> ?_
 obtain⟨y,v,Z',A',_,rfl,hr2,hafter⟩:=h
 simp only[AZ] at hr2
 obtain⟨v',us,A1,A2,e1,_,h1,_⟩:=hr2
 simp only[List.cons.injEq] at e1
 obtain⟨rfl,_⟩:=e1
 have:v= .bool true:=by
  have h1:Al Z' W' (.bool true) v A1:=h1
  simp only[Al] at h1;exact h1.1
 subst this
 exact⟨_,rfl,b6k hl ht hv hs hr htb hW (b6j hafter)⟩
end Go.Eng
end
section
namespace Go.Eng
open Go.ChangeShapes Go.WideShapes Go.ChangeAt Go.RowKit
theorem b6n{H:Type}{enc:TypeId×Value→H}{P:Program}{t:TypeId}{α:Type}{f:α→AV}{good:α→Prop}(hO:Jy P t (fun x=>[f x]) good){W:World}{v:Value}(hc:CH v)
 {d:DataW H} {ps:List MemPlace} (h:DataW.Trod enc P W 0 (fun _=>true) true t v d ps):∃x,good x∧Al (Old W) W (f x) v (fun _=>False):=by
 obtain⟨fuel,hf⟩:=h
 rw[Me hc] at hf
 obtain⟨x,hg,hr⟩:=hO enc W _ _ fuel _ _ hf
 exact⟨x,hg,SL.1 hr⟩
theorem b6o{H:Type}{enc:TypeId×Value→H}{P:Program}{t e:TypeId}{α:Type}{f:α→AV}{good:α→Prop}(ht:P.underlying t=some (.slice e))(hO:Jy P t (fun x=>[f x]) good)
 {W:World} {r:Reach} {base:Nat} {v:Value} (hv:Value.okWide P W r base t v)
 {d:DataW H} {ps:List MemPlace} (h:DataW.Trod enc P W 0 (fun _=>true) true t v d ps):∃x,good x∧Al (Old W) W (f x) v (fun _=>False):=
 b6n hO (by obtain⟨a,l,c,rfl⟩:=okWide_slice ht hv;trivial) h
theorem b6p{Z:FP}{w:World}:AZ Z w [] [] (fun _=>False):=⟨rfl,AU⟩
end Go.Eng
end
section
set_option maxRecDepth 100000
namespace Go.My
open Go.Eng Go.Proofs
variable {G:GInv}
theorem opens_mapP{P:Program}{t:TypeId}{α β:Type}{f:α→List AV}{g:β→List AV}{p:α→Prop}{q:β→Prop}(m:α→β)(ho:Jy P t f p)(hf:∀x,p x→f x=g (m x))(hg:∀x,p x→q (m x)):Jy P t g q:=by
 intro H enc w spare held fuel cs y h
 obtain⟨x,hx,hr⟩:=ho enc w _ _ fuel _ _ h
 exact⟨m x,hg x hx,by rw[←hf x hx];exact hr⟩
theorem b6q:Jy Tryz.prog 5 byA (fun _=>True):=
 opens_mapP (fun n:Int=>UInt8.ofNat n.toNat) (b6h (k:= .u8) rfl) (fun x h=>by
  have h1:0≤x∧x≤255:=by have h1:IntKind.min .u8≤x:=h.1;have h2:x≤IntKind.max .u8:=h.2;have e1:IntKind.min .u8=0:=rfl;have e2:IntKind.max .u8=255:=rfl;omega
  have:(UInt8.ofNat x.toNat).toNat=x.toNat:=by simp;omega
  rw[DC,this];congr 2;omega) (fun _ _=>trivial)
theorem b6r:Jy Tryz.prog 22 (fun l:List UInt8=>[.sl false 0 1 UInt8 byA l]) (fun l=>l.length<2^63):=
 opens_mapP (fun l=>l) (b6i (e:=5) rfl (by kernel_rfl) (by decide) b6q) (fun _ _=>rfl) (fun _ h=>h.1)
end Go.My
end
