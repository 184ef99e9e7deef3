/- A part of the proof: the engine and the contracts, joined. -/
import Derived.Test.YtplklcfglbkfhaaGreatDoorQM
import Derived.Shelf.Strconv.Itoa0
import Derived.Shelf.Strconv.Itoa1
import Derived.Shelf.LaysM
import Derived.Shelf.Strconv.Itoa2
import Derived.Shelf.Strconv.Itoa3
import Derived.Test.YtplklcfglbkfhaaGreatDoorProg
section
set_option linter.unusedVariables false
set_option linter.unusedSimpArgs false
namespace Go.My
open Go.Eng Go.Proofs
variable {G:GInv}
def Sf:Sig:= {X:=List UInt8,args:=fun x=>[.sl false 0 1 UInt8 byA x],pre:=fun x=>x.length≤2^21,Y:=Int,post:=fun x y=>True,res:=fun x y=> .box 0 (cur x 0 y),outs:=fun x y=>[.top],keep:=true}
def Sh(x:List UInt8):LS:= {ι:=Int×Int,inv:=fun i=>(0≤i.1∧i.1≤x.length)∧0≤i.2∧i.2≤2^31,regs:=fun i=>[(0,.sl false 0 1 UInt8 byA x),(3,.int .i64 i.2),(4,.int .i64 i.1)],als:=[],meas:=fun i=>x.length-i.1.toNat}
theorem b6c:Am G Tryz.prog 49 Sf:=
 vcFun_okP [] [] false (fun x=>[(3,Sh x)]) Tryz.func49 rfl (by decide) trivial (fun(x:List UInt8)=>True∧inR IntKind.i64 ((78601:Int)+(↑(List.length x):Int))∧eA (Sh x) [byL x,.int .i64 ((78601:Int)+(↑(List.length x):Int)),.int .i64 (0:Int)]∧∀(i:Int×Int),((0:Int)≤i.1∧i.1≤(↑(List.length x):Int))∧(0:Int)≤i.2∧i.2≤(2:Int)^(31:Nat)→Aa (decide (i.1<(↑(List.length x):Int))) (Aa (decide (i.1<(4000:Int))) (inR IntKind.i64 (i.2*(131:Int))∧((0:Int)≤i.1∧i.1<(↑(List.length x):Int))∧∀(e:UInt8),x[Int.toNat i.1]? =some e→inR IntKind.i64 (↑(UInt8.toNat e):Int)∧inR IntKind.i64 (i.2*(131:Int)+(↑(UInt8.toNat e):Int))∧inR IntKind.i64 (i.2*(131:Int)+(↑(UInt8.toNat e):Int)+(7:Int))∧inR IntKind.i64 (i.1+(1:Int))∧eN (Sh x) i [byL x,.int .i64 (Dz BinOp.and IntKind.i64 (i.2*(131:Int)+(↑(UInt8.toNat e):Int)+(7:Int)) (1073741823:Int)),.int .i64 (i.1+(1:Int))]) (rA Sf x [.box 0 (cur x (0:Int) i.2),.top])) (rA Sf x [.box 0 (cur x (0:Int) i.2),.top])) (fun x=>by kernel_rfl) fun(x:List UInt8) (hx:x.length≤2^21)=>(by
 dsimp only[CZ,byL,cur,eA,eN,Sh,rA,Sf,Au,Ax,Bm]
 have hx:x.length≤2^21:=hx
 (repeat' first|(with_reducible first|rfl|exact True.intro|apply AJ|apply And.intro|((first|apply Az|apply AH|apply AA|apply AI)<;>intro _))|(apply Av<;>intro _)|apply AG|refine Af () ?_ ?_|((first|apply AO|apply AN|apply AM|apply AL|apply AF|apply AE|apply AD|apply AC|apply AB)<;>try dsimp only)|apply Af|(refine Prod.forall.2 ?_;intro _;try dsimp only)|(intro _;try dsimp only))
 all_goals first
  |rfl
  |omega
  |(have hq:=UInt8.toNat_lt ‹_›;omega)
  |(have hq:=UW (_:Int);exact hq.1)
  |exact(UW _).1
  |exact Int.le_trans (UW _).2 (by decide)
  |skip)
theorem b6d{G:GInv}{P:Program}{f:FuncId}{S:Sig}{c:S.X→S.Y→List AV}(h:Am G P f S)(hr:S.res=fun x y=> .box 0 (c x y))(hk:S.keep=true):
 Am G P f {X:=S.X,args:=S.args,pre:=S.pre,Y:=S.Y×Value,post:=fun x y=>S.post x y.1,res:=fun x y=> .bv y.2 (c x y.1),outs:=fun x y=>S.outs x y.1,keep:=true,fixed:=S.fixed,caps:=S.caps}:=by
 obtain⟨⟨h1,_⟩,h2⟩:=h
 refine⟨⟨h1,fun x y _ _=>trivial⟩,fun x hx Z w vals A hG ha hA hc=>(h2 x hx Z w vals A hG ha hA hc).mono ?_⟩
 rintro e w' ⟨y,v,Z',A',hp,he,hrel,haf⟩
 refine⟨(y,v),v,Z',A',hp,he,?_,haf⟩
 rw[hr] at hrel
 simp only[AZ,Al] at hrel ⊢
 obtain⟨v',cs',A1,B1,e1,hj,⟨b,arr,ty,S1,e2,hb,hc1,hj1⟩,hrest⟩:=hrel
 simp only[List.cons.injEq] at e1
 obtain⟨rfl,rfl⟩:=e1
 exact⟨_,_,A1,B1,rfl,hj,⟨rfl,b,arr,ty,S1,e2,hb,hc1,hj1⟩,hrest⟩
def Ff:Sig:= {X:=List UInt8,args:=fun x=>[.sl false 0 1 UInt8 byA x],pre:=fun x=>x.length≤2^21,Y:=Int×Value,post:=fun x y=>True,res:=fun x y=> .bv y.2 (cur x 0 y.1),outs:=fun x y=>[.top],keep:=true}
theorem Pv:Am G Go.Proofs.Tryz.prog 49 Ff:=b6d (c:=fun x y=>cur x 0 y) b6c rfl rfl
theorem Pw{b:List UInt8}(h:b.length≤2^21):Ae b 0:=⟨by omega,h⟩
def Jo:Sig:= {X:=List Nd×Unit,args:=fun x=>[nds x.1],pre:=fun x=>(Be x.1∧x.1.length≤2^30)∧∀e∈x.1,e.kids.length≤2^20,Y:=Unit,post:=fun x y=>True,res:=fun x y=>AW x.1,outs:=fun x y=>[.top],keep:=false}
def Si(x:List Nd×Unit):LS:= {ι:=Int,inv:=fun i=>0≤i∧i≤x.1.length,regs:=fun i=>[(0,nds x.1),(3,AW (x.1.take i.toNat)),(4,.int .i64 i)],als:=[],meas:=fun i=>x.1.length-i.toNat}
theorem a3v:Am G Tryz.prog 56 Jo:=
 vcFun_okP [] [(24,⟨Nd,ndA true⟩),(26,⟨Int,Bj⟩)] false (fun x=>[(3,Si x)]) Tryz.func56 rfl (by decide) trivial (fun(x:List Nd×Unit)=>(∀(y:Unit),True→(∀(x:Nd),True∧True∧(∀(x:Int),True∧True)∧True∧True)∧True∧True)∧eA (Si x) [nds x.1,AW [],.int .i64 (0:Int)]∧∀(i:Int),(0:Int)≤i∧i≤(↑(List.length x.1):Int)→Aa (decide (i<(↑(List.length x.1):Int))) (((0:Int)≤i∧i<(↑(List.length x.1):Int))∧∀(e:Nd),x.1[Int.toNat i]? =some e→∃(zs:List Int),Aq e.kids=Aq zs∧BF Bj∧Ba ((0:Nat)+List.length zs) (8:Nat)∧∃(x_1:Nd),e.kind=x_1.kind∧e.text=x_1.text∧Ab ([]++zs)=Ab x_1.kids∧e.blank=x_1.blank∧∃(zs:List Nd),AW [x_1]=AW zs∧BF (ndA true)∧Ba (List.length (List.take (Int.toNat i) x.1)+List.length zs) (56:Nat)∧inR IntKind.i64 (i+(1:Int))∧eN (Si x) i [nds x.1,AW (List.take (Int.toNat i) x.1++zs),.int .i64 (i+(1:Int))]) (rA Jo x [AW (List.take (Int.toNat i) x.1),.top])) (fun x=>by kernel_rfl) fun(x:List Nd×Unit) (hx:(Be x.1∧x.1.length≤2^30)∧∀e∈x.1,e.kids.length≤2^20)=>(by
 dsimp only[eA,eN,Si,Aq,Bn,nds,Ab,AW,rA,Jo,Au,Ax,Bm]
 obtain⟨x,_⟩:=x;dsimp only at hx ⊢
 obtain⟨⟨h1,h2⟩,h3⟩:=hx
 (repeat' first|(with_reducible first|rfl|exact True.intro|apply AJ|apply And.intro|((first|apply Az|apply AH|apply AA|apply AI)<;>intro _))|(apply Av<;>intro _)|apply AG|refine Af () ?_ ?_|((first|apply AO|apply AN|apply AM|apply AL|apply AF|apply AE|apply AD|apply AC|apply AB)<;>try dsimp only)|apply Af|(refine Prod.forall.2 ?_;intro _;try dsimp only)|(intro _;try dsimp only))
 all_goals first
  |rfl
  |omega
  |(have hq:=h1.1;(try simp only[AR,Ba,List.length_append,List.length_take,List.length_cons,List.length_nil]);omega)
  |(have hq:=h3 _ (Cz ‹_›);(try simp only[Ba]);omega)
  |(rw[Dv (And.left ‹_›),FE ‹_›];done)
  |exact List.take_of_length_le (by omega)
  |skip)
def spB(l:List Nd):Prop:=(1≤l.length∧l.length≤300)∧Be l∧∀e∈l,e.kids.length≤13
theorem b6e{l:List Nd}(h:BC l=true∧Be l):spB l∧∀e∈l,e.kids.length≤12:=by
 obtain⟨t1,t2,t3,t4⟩:=Gj h.1
 have hk:∀e∈l,e.kids.length≤12:=fun e he=>by
  obtain⟨i,hi,e2⟩:=List.mem_iff_getElem.1 he
  have hn:=(DC (t1.1 i hi)).2.1
  have:Ai l (i:Int)=e:=Bg (by rw[←e2];simp)
  rw[this] at hn;exact hn
 exact⟨⟨⟨t2,t3⟩,h.2,fun e he=>by have:=hk e he;omega⟩,hk⟩
theorem b6f{l:List Nd}{n:Nat}{z:Nd}(h:spB l)(hz:z.kids.length≤13)(ht:z.text.length<2^62):spB (l.set n z):=by
 refine⟨by rw[List.length_set];exact h.1,⟨by rw[List.length_set];exact h.2.1.1,fun x hx=> ?_⟩,fun x hx=> ?_⟩
 ·rcases List.mem_or_eq_of_mem_set hx with hx|hx
  ·exact h.2.1.2 x hx
  ·subst hx;exact⟨ht,by omega⟩
 ·rcases List.mem_or_eq_of_mem_set hx with hx|hx
  ·exact h.2.2 x hx
  ·subst hx;exact hz
theorem Wa{p q:Nd→Prop}(a:Int)(b:List UInt8)(c:List Int)(d:Bool)(h2:q ⟨a,b,c,d⟩)(h1:p ⟨a,b,c,d⟩):∃x,p x∧q x:=⟨_,h1,h2⟩
theorem b6g{z:Nd}{l:List Int}{q:Nd→Prop}(h:q ⟨z.kind,z.text,l,z.blank⟩):∃x:Nd,[AV.int IntKind.i64 x.kind,AV.str x.text,AV.sl true 0 1 Int Bj x.kids,AV.bool x.blank]=[AV.int IntKind.i64 z.kind,AV.str z.text,AV.sl true 0 1 Int Bj l,AV.bool z.blank]∧q x:=⟨⟨z.kind,z.text,l,z.blank⟩,rfl,h⟩
theorem b6h{a:Int}{n:Nat}(h0:0≤a)(hn:1≤n):(a.tmod n).toNat<n:=by have:= @Lf a n h0 (by omega);omega
theorem b6i{a:Int}(h0:0≤a):(a.tmod 7).toNat<7:=by have:= @Lf a 7 h0 (by decide);omega
def Wb:LS:= {ι:=Unit,inv:=fun _=>True,regs:=fun _=>[],als:=[],meas:=fun _=>0}
def Nc:Sig:= {X:=Value×List UInt8×Int×Int,args:=fun x=>[.bv x.1 (cur x.2.1 x.2.2.1 x.2.2.2)],pre:=fun x=>Ae x.2.1 x.2.2.1,Y:=List Nd×Int×Int,post:=fun x y=>spB y.1∧Ae x.2.1 y.2.1,res:=fun x y=>AW y.1,outs:=fun x y=>[.bv x.1 (cur x.2.1 y.2.1 y.2.2)],keep:=true}
theorem Px:Am G Tryz.prog 54 Nc:=
 vcFun_okP [(51,0,Dh),(48,0,a3u),(56,0,Jo)] [(24,⟨Nd,ndA true⟩),(26,⟨Int,Bj⟩),(38,⟨List UInt8,Ag⟩)] false (fun x=>[(400011,Wb),(400015,Wb),(400016,Wb)]) Tryz.func54 rfl (by decide) ⟨HE,b6b,a3v,trivial⟩ (fun(x:Value×List UInt8×Int×Int)=>True∧∃(x_1:List UInt8×Int×Int×Int),Ae x_1.1 x_1.2.1∧x.1=x.1∧byL x.2.1=byL x_1.1∧x.2.2.1=x_1.2.1∧x.2.2.2=x_1.2.2.1∧(12:Int)=x_1.2.2.2∧∀(y:Int×Int×Int),(((0:Int)<x_1.2.2.2→(0:Int)≤y.1∧y.1<x_1.2.2.2)∧(x_1.2.2.2≤(0:Int)→y.1=(0:Int)))∧Ae x_1.1 y.2.1→x.1=x.1∧∃(x_2:List UInt8×Int×Int×Int),Ae x_2.1 x_2.2.1∧x.1=x.1∧byL x_1.1=byL x_2.1∧y.2.1=x_2.2.1∧y.2.2=x_2.2.2.1∧(200:Int)=x_2.2.2.2∧∀(y_1:Int×Int×Int),(((0:Int)<x_2.2.2.2→(0:Int)≤y_1.1∧y_1.1<x_2.2.2.2)∧(x_2.2.2.2≤(0:Int)→y_1.1=(0:Int)))∧Ae x_2.1 y_1.2.1→x.1=x.1∧∃(x_3:Value×List UInt8×Int×Int),Ae x_3.2.1 x_3.2.2.1∧(x.1=x.1∧x.1=x_3.1)∧byL x_2.1=byL x_3.2.1∧y_1.2.1=x_3.2.2.1∧y_1.2.2=x_3.2.2.2∧∀(y_2:List Nd×Int×Int),(BC y_2.1=true∧Be y_2.1)∧Ae x_3.2.1 y_2.2.1→x.1=x.1∧cA Jo [nds y_2.1] fun x_4 y_3=>(↑(List.length x_4.1):Int)≠(0:Int)∧Aa (y.1==(0:Int)) ((24:Int)≠(0:Int)∧((0:Int)≤Int.tmod y_1.1 (↑(List.length x_4.1):Int)∧Int.tmod y_1.1 (↑(List.length x_4.1):Int)<(↑(List.length x_4.1):Int))∧Int.toNat (Int.tmod y_1.1 (↑(List.length x_4.1):Int))<List.length x_4.1∧∀(x_5:Nd),x_4.1[Int.toNat (Int.tmod y_1.1 (↑(List.length x_4.1):Int))]? =some x_5→∃(x':Nd),((@List.nil AV)=[]∧[AV.str x'.text,Ab x'.kids,.bool x'.blank]=[.str x_5.text,Ab x_5.kids,.bool x_5.blank])∧Int.tmod y_1.1 (24:Int)=x'.kind∧∃(y:List Nd×Int×Int),(spB y.1∧Ae x.2.1 y.2.1)∧AW (List.set x_4.1 (Int.toNat (Int.tmod y_1.1 (↑(List.length x_4.1):Int))) x')=AW y.1∧(x.1=x.1∧x.1=x.1)∧byL x_3.2.1=byL x.2.1∧y_2.2.1=y.2.1∧y_2.2.2=y.2.2∧True) (Aa (y.1==(1:Int)) (∃(x_5:List UInt8),#[].toList=x_5∧∃(x_6:List UInt8),#[(97:UInt8)].toList=x_6∧∃(x_7:List UInt8),#[(99:UInt8),(108:UInt8),(97:UInt8),(115:UInt8),(115:UInt8)].toList=x_7∧∃(x_8:List UInt8),#[(39:UInt8),(120:UInt8),(39:UInt8)].toList=x_8∧∃(x_9:List UInt8),#[(47:UInt8),(47:UInt8),(32:UInt8),(97:UInt8)].toList=x_9∧∃(x_10:List UInt8),#[(49:UInt8),(50:UInt8)].toList=x_10∧∃(x_11:List UInt8),#[(43:UInt8)].toList=x_11∧(7:Int)≠(0:Int)∧((0:Int)≤Int.tmod y_1.1 (7:Int)∧Int.tmod y_1.1 (7:Int)<(↑(List.length [x_5,x_6,x_7,x_8,x_9,x_10,x_11]):Int))∧Int.toNat (Int.tmod y_1.1 (7:Int))<List.length [x_5,x_6,x_7,x_8,x_9,x_10,x_11]∧∀(x_12:List UInt8),[x_5,x_6,x_7,x_8,x_9,x_10,x_11][Int.toNat (Int.tmod y_1.1 (7:Int))]? =some x_12→((0:Int)≤Int.tmod y_1.1 (↑(List.length x_4.1):Int)∧Int.tmod y_1.1 (↑(List.length x_4.1):Int)<(↑(List.length x_4.1):Int))∧Int.toNat (Int.tmod y_1.1 (↑(List.length x_4.1):Int))<List.length x_4.1∧∀(x_13:Nd),x_4.1[Int.toNat (Int.tmod y_1.1 (↑(List.length x_4.1):Int))]? =some x_13→∃(x':Nd),([AV.int .i64 x'.kind]=[.int .i64 x_13.kind]∧[Ab x'.kids,.bool x'.blank]=[Ab x_13.kids,.bool x_13.blank])∧x_12=x'.text∧∃(y:List Nd×Int×Int),(spB y.1∧Ae x.2.1 y.2.1)∧AW (List.set x_4.1 (Int.toNat (Int.tmod y_1.1 (↑(List.length x_4.1):Int))) x')=AW y.1∧(x.1=x.1∧x.1=x.1)∧byL x_3.2.1=byL x.2.1∧y_2.2.1=y.2.1∧y_2.2.2=y.2.2∧True) (Aa (y.1==(2:Int)) (true=true∧((0:Int)≤Int.tmod y_1.1 (↑(List.length x_4.1):Int)∧Int.tmod y_1.1 (↑(List.length x_4.1):Int)<(↑(List.length x_4.1):Int))∧((0:Int)≤Int.tmod y_1.1 (↑(List.length x_4.1):Int)∧Int.tmod y_1.1 (↑(List.length x_4.1):Int)<(↑(List.length x_4.1):Int))∧Int.toNat (Int.tmod y_1.1 (↑(List.length x_4.1):Int))=Int.toNat (Int.tmod y_1.1 (↑(List.length x_4.1):Int))∧Int.toNat (Int.tmod y_1.1 (↑(List.length x_4.1):Int))<List.length x_4.1∧∀(z:Nd),x_4.1[Int.toNat (Int.tmod y_1.1 (↑(List.length x_4.1):Int))]? =some z→(9:Int)≠(0:Int)∧∃(x_5:Int),Int.tmod y_1.1 (9:Int)=x_5∧∃(zs:List Int),Ab [x_5]=Ab zs∧BF Bj∧Ba (List.length z.kids+List.length zs) (8:Nat)∧∃(z':Nd),[AV.int .i64 z'.kind,.str z'.text,Ab z'.kids,.bool z'.blank]=[.int .i64 z.kind,.str z.text,Ab (z.kids++zs),.bool z.blank]∧∃(y:List Nd×Int×Int),(spB y.1∧Ae x.2.1 y.2.1)∧AW (List.set x_4.1 (Int.toNat (Int.tmod y_1.1 (↑(List.length x_4.1):Int))) z')=AW y.1∧(x.1=x.1∧x.1=x.1)∧byL x_3.2.1=byL x.2.1∧y_2.2.1=y.2.1∧y_2.2.2=y.2.2∧True) (Aa (y.1==(3:Int)) (((0:Int)≤Int.tmod y_1.1 (↑(List.length x_4.1):Int)∧Int.tmod y_1.1 (↑(List.length x_4.1):Int)<(↑(List.length x_4.1):Int))∧Int.toNat (Int.tmod y_1.1 (↑(List.length x_4.1):Int))<List.length x_4.1∧∀(x_5:Nd),x_4.1[Int.toNat (Int.tmod y_1.1 (↑(List.length x_4.1):Int))]? =some x_5→((0:Int)≤Int.tmod y_1.1 (↑(List.length x_4.1):Int)∧Int.tmod y_1.1 (↑(List.length x_4.1):Int)<(↑(List.length x_4.1):Int))∧Int.toNat (Int.tmod y_1.1 (↑(List.length x_4.1):Int))<List.length x_4.1∧∀(x_6:Nd),x_4.1[Int.toNat (Int.tmod y_1.1 (↑(List.length x_4.1):Int))]? =some x_6→∃(x':Nd),([AV.int .i64 x'.kind,.str x'.text,Ab x'.kids]=[.int .i64 x_6.kind,.str x_6.text,Ab x_6.kids]∧(@List.nil AV)=[])∧(!x_5.blank)=x'.blank∧∃(y:List Nd×Int×Int),(spB y.1∧Ae x.2.1 y.2.1)∧AW (List.set x_4.1 (Int.toNat (Int.tmod y_1.1 (↑(List.length x_4.1):Int))) x')=AW y.1∧(x.1=x.1∧x.1=x.1)∧byL x_3.2.1=byL x.2.1∧y_2.2.1=y.2.1∧y_2.2.2=y.2.2∧True) (Aa (y.1==(4:Int)) (true=true∧((0:Int)≤Int.tmod y_1.1 (↑(List.length x_4.1):Int)∧Int.tmod y_1.1 (↑(List.length x_4.1):Int)<(↑(List.length x_4.1):Int))∧Int.toNat (Int.tmod y_1.1 (↑(List.length x_4.1):Int))<List.length x_4.1∧∀(z:Nd),x_4.1[Int.toNat (Int.tmod y_1.1 (↑(List.length x_4.1):Int))]? =some z→Aa (decide ((↑(List.length z.kids):Int)>(0:Int))) (true=true∧((0:Int)≤Int.tmod y_1.1 (↑(List.length x_4.1):Int)∧Int.tmod y_1.1 (↑(List.length x_4.1):Int)<(↑(List.length x_4.1):Int))∧((0:Int)≤Int.tmod y_1.1 (↑(List.length x_4.1):Int)∧Int.tmod y_1.1 (↑(List.length x_4.1):Int)<(↑(List.length x_4.1):Int))∧Int.toNat (Int.tmod y_1.1 (↑(List.length x_4.1):Int))=Int.toNat (Int.tmod y_1.1 (↑(List.length x_4.1):Int))∧Int.toNat (Int.tmod y_1.1 (↑(List.length x_4.1):Int))<List.length x_4.1∧∀(z:Nd),x_4.1[Int.toNat (Int.tmod y_1.1 (↑(List.length x_4.1):Int))]? =some z→((0:Int)≤(1:Int)∧(1:Int)≤(↑(List.length z.kids):Int)∧(↑(List.length z.kids):Int)≤(↑(List.length z.kids):Int))∧∃(z':Nd),[AV.int .i64 z'.kind,.str z'.text,Ab z'.kids,.bool z'.blank]=[.int .i64 z.kind,.str z.text,Ab (List.drop (1:Nat) z.kids),.bool z.blank]∧∃(y:List Nd×Int×Int),(spB y.1∧Ae x.2.1 y.2.1)∧AW (List.set x_4.1 (Int.toNat (Int.tmod y_1.1 (↑(List.length x_4.1):Int))) z')=AW y.1∧(x.1=x.1∧x.1=x.1)∧byL x_3.2.1=byL x.2.1∧y_2.2.1=y.2.1∧y_2.2.2=y.2.2∧True) (∃(y:List Nd×Int×Int),(spB y.1∧Ae x.2.1 y.2.1)∧AW x_4.1=AW y.1∧(x.1=x.1∧x.1=x.1)∧byL x_3.2.1=byL x.2.1∧y_2.2.1=y.2.1∧y_2.2.2=y.2.2∧True)) (∃(y:List Nd×Int×Int),(spB y.1∧Ae x.2.1 y.2.1)∧AW x_4.1=AW y.1∧(x.1=x.1∧x.1=x.1)∧byL x_3.2.1=byL x.2.1∧y_2.2.1=y.2.1∧y_2.2.2=y.2.2∧True)))))) (fun x=>by kernel_rfl) fun(x:Value×List UInt8×Int×Int) (hx:Ae x.2.1 x.2.2.1)=>(by
 dsimp only[CZ,byL,cA,Bn,nds,Ab,AW,Jo,Au,Ax,mvL,lnL,mvE,lnE]
 obtain⟨cv,b,i,h⟩:=x;dsimp only at hx ⊢
 have hx:Ae b i:=hx
 (repeat' first|refine b6g ?_|refine Wa _ _ _ _ ⟨rfl,?_⟩ ⟨rfl,rfl⟩|(with_reducible first|rfl|exact True.intro|apply AJ|apply And.intro|((first|apply Az|apply AH|apply AA|apply AI)<;>intro _))|(apply Av<;>intro _)|apply AG|refine Af () ?_ ?_|((first|apply AO|apply AN|apply AM|apply AL|apply AF|apply AE|apply AD|apply AC|apply AB)<;>try dsimp only)|apply Af|(refine Prod.forall.2 ?_;intro _;try dsimp only)|(intro _;try dsimp only))
 all_goals(try(have hT:=b6e (And.left (show(BC _=true∧Be _)∧Ae _ _ by assumption));have hL:=hT.1.1))
 all_goals(try(have hy:=And.left (show(((0:Int)<200→_)∧(_→_))∧Ae _ _ by assumption);have hy1:=hy.1 (by decide)))
 all_goals first
  |rfl
  |exact hx
  |omega
  |exact And.right (show _∧Ae _ _ by assumption)
  |exact(Lf (by omega) (by omega)).1
  |exact(Lf (by omega) (by omega)).2
  |exact()
  |exact hT.1
  |exact hT.1.2.1
  |(exact Nat.le_trans (hT.2 _ ‹_›) (by decide))
  |(intro e he;have hq:=hT.2 e he;omega)
  |exact b6h (by omega) (by omega)
  |exact b6i (by omega)
  |(have hq:=hT.2 _ (Cz (show(_:List Nd)[_]? =some _ by assumption));simp only[Ba,List.length_cons,List.length_nil];omega)
  |(refine b6f hT.1 ?_ ?_<;>dsimp only<;>first
    |exact hT.1.2.2 _ (Cz (show(_:List Nd)[_]? =some _ by assumption))
    |exact(hT.1.2.1.2 _ (Cz (show(_:List Nd)[_]? =some _ by assumption))).1
    |(have hq:=hT.2 _ (Cz (show(_:List Nd)[_]? =some _ by assumption));simp;omega)
    |(have hq:=hT.1.2.2 _ (Cz (show(_:List Nd)[_]? =some _ by assumption));simp;omega)
    |(have hm:=Cz (show(_:List (List UInt8))[_]? =some _ by assumption);exact Nat.lt_of_le_of_lt (JO (n:=20) hm (by decide)) (by decide)))
  |((repeat(rename(_:List Nd)[_]? =some _=>hq;revert hq;rename(_:List Nd)[_]? =some _=>hr;intro hq;rw[hr] at hq;cases hq));omega)
  |skip)
end Go.My
end
section
set_option linter.unusedVariables false
set_option linter.unusedSimpArgs false
namespace Go.My
open Go.Eng Go.Proofs
variable {G:GInv}
noncomputable def Lx:Sig:= {X:=List Int,args:=fun x=>[Aq x],pre:=fun x=>x.length≤2^40,Y:=Unit,post:=fun x y=>True,res:=fun x y=>Ab x,outs:=fun x y=>[.top],keep:=false}
theorem b6j:Am G Tryz.prog 122 Lx:=
 vcFun_okP [] [(26,⟨Int,Bj⟩)] false (fun x=>[]) Tryz.func122 rfl (by decide) trivial (fun(x:List Int)=>(∀(y:Unit),True→(∀(x:Int),True∧True)∧True∧True)∧∀(b:Bool),(b=true→x=[])→Aa b (rA Lx x [.nil,.top]) (∃(zs:List Int),Aq x=Aq zs∧BF Bj∧Ba ((0:Nat)+List.length zs) (8:Nat)∧rA Lx x [Ab ([]++zs),.top])) (fun x=>by kernel_rfl) fun(x:List Int) (hx:x.length≤2^40)=>(by
 dsimp only[Aq,Ab,rA,Lx,Au,Ax]
 have hx:x.length≤2^40:=hx
 (repeat' first|(with_reducible first|rfl|exact True.intro|apply AJ|apply And.intro|((first|apply Az|apply AH|apply AA|apply AI)<;>intro _))|(apply Av<;>intro _)|apply AG|refine Af () ?_ ?_|((first|apply AO|apply AN|apply AM|apply AL|apply AF|apply AE|apply AD|apply AC|apply AB)<;>try dsimp only)|apply Af|(refine Prod.forall.2 ?_;intro _;try dsimp only)|(intro _;try dsimp only))
 all_goals first
  |rfl
  |(rename_i h0 hb;rw[h0 hb];done)
  |((try simp only[Ba,List.length_nil]);omega)
  |skip)
noncomputable def Nf:Sig:= {X:=List Nd×Unit,args:=fun x=>[nds x.1],pre:=fun x=>(Be x.1∧x.1.length≤2^30)∧∀e∈x.1,e.kids.length≤2^20,Y:=Unit,post:=fun x y=>True,res:=fun x y=>AW x.1,outs:=fun x y=>[.top],keep:=false}
noncomputable def Sj (x:List Nd×Unit):LS:= {ι:=Int,inv:=fun i=>0≤i∧i≤x.1.length,regs:=fun i=>[(3,AW (x.1.take i.toNat)),(6,nds x.1),(7,.int .i64 x.1.length),(8,.int .i64 i)],als:=[],meas:=fun i=>x.1.length-i.toNat}
theorem b6k:Am G Tryz.prog 85 Nf:=
 vcFun_okP [(122,0,Lx)] [(24,⟨Nd,ndA true⟩)] false (fun x=>[(3,Sj x)]) Tryz.func85 rfl (by decide) ⟨b6j,trivial⟩ (fun(x:List Nd×Unit)=>(∀(y:Unit),True→(∀(x:Nd),True∧True∧(∀(x:Int),True∧True)∧True∧True)∧True∧True)∧eA (Sj x) [.nil,nds x.1,.int .i64 (↑(List.length x.1):Int),.int .i64 (0:Int)]∧∀(i:Int),(0:Int)≤i∧i≤(↑(List.length x.1):Int)→Aa (decide (i<(↑(List.length x.1):Int))) (((0:Int)≤i∧i<(↑(List.length x.1):Int))∧∀(e:Nd),x.1[Int.toNat i]? =some e→cA Lx [Aq e.kids] fun x_1 y=>∃(x_2:Nd),e.kind=x_2.kind∧e.text=x_2.text∧Ab x_1=Ab x_2.kids∧e.blank=x_2.blank∧∃(zs:List Nd),AW [x_2]=AW zs∧BF (ndA true)∧Ba (List.length (List.take (Int.toNat i) x.1)+List.length zs) (56:Nat)∧inR IntKind.i64 (i+(1:Int))∧eN (Sj x) i [AW (List.take (Int.toNat i) x.1++zs),nds x.1,.int .i64 (↑(List.length x.1):Int),.int .i64 (i+(1:Int))]) (rA Nf x [AW (List.take (Int.toNat i) x.1),.top])) (fun x=>by kernel_rfl) fun(x:List Nd×Unit) (hx:(Be x.1∧x.1.length≤2^30)∧∀e∈x.1,e.kids.length≤2^20)=>(by
 dsimp only[cA,eA,eN,Sj,Aq,Bn,nds,Ab,AW,rA,Lx,Nf,Au,Ax,mvL,lnL,mvE,lnE,Bm]
 obtain⟨x,_⟩:=x;dsimp only at hx ⊢
 obtain⟨⟨h1,h2⟩,h3⟩:=hx
 (repeat' first|(with_reducible first|rfl|exact True.intro|apply AJ|apply And.intro|((first|apply Az|apply AH|apply AA|apply AI)<;>intro _))|(apply Av<;>intro _)|apply AG|refine Af () ?_ ?_|((first|apply AO|apply AN|apply AM|apply AL|apply AF|apply AE|apply AD|apply AC|apply AB)<;>try dsimp only)|apply Af|(refine Prod.forall.2 ?_;intro _;try dsimp only)|(intro _;try dsimp only))
 all_goals first
  |rfl
  |omega
  |(have hk:=h3 _ (Cz (show x[Int.toNat _]? =some _ by assumption));omega)
  |(rw[Dv (And.left ‹_›),FE ‹_›];done)
  |exact List.take_of_length_le (by omega)
  |((try simp only[AR,Ba,List.length_take,List.length_cons,List.length_nil]);omega)
  |skip)
noncomputable def Jp:Sig:= {X:=Int×List UInt8×List UInt8,args:=fun x=>[.agg [.int .i64 x.1,.str x.2.1,.any,.any],.str x.2.2],pre:=fun x=>True,Y:=Unit,post:=fun x y=>True,res:=fun x y=> .bool (Dg x.1&&x.2.1==x.2.2),outs:=fun x y=>[.top,.top],keep:=false}
theorem b6l:Am G Tryz.prog 86 Jp:=
 vcFun_okP [] [] false (fun x=>[]) Tryz.func86 rfl (by decide) trivial (fun(x:Int×List UInt8×List UInt8)=>(∀(y:Unit),True→True∧True∧True∧True)∧Aa (x.1==(1:Int)) (rA Jp x [.bool (x.2.1==x.2.2),.top,.top]) (Aa (x.1==(12:Int)) (rA Jp x [.bool (x.2.1==x.2.2),.top,.top]) (Aa (x.1==(13:Int)) (rA Jp x [.bool (x.2.1==x.2.2),.top,.top]) (rA Jp x [.bool false,.top,.top])))) (fun x=>by kernel_rfl) fun(x:Int×List UInt8×List UInt8) (hx:True)=>(by
 dsimp only[rA,Jp,Au,Ax]
 (repeat' first|(with_reducible first|rfl|exact True.intro|apply AJ|apply And.intro|((first|apply Az|apply AH|apply AA|apply AI)<;>intro _))|(apply Av<;>intro _)|apply AG|refine Af () ?_ ?_|((first|apply AO|apply AN|apply AM|apply AL|apply AF|apply AE|apply AD|apply AC|apply AB)<;>try dsimp only)|apply Af|(refine Prod.forall.2 ?_;intro _;try dsimp only)|(intro _;try dsimp only))
 all_goals(try(simp [Dg, *];done)))
abbrev RnX:=List Nd×Int×List UInt8×List UInt8
noncomputable def Db (x:RnX):Bool:=(Cl x.1).elem x.2.1&&(!decide (Bd x.1 x.2.1=21)&&(!decide (CL x.1 x.2.1 x.2.2.1=0)&&(Cm x.2.2.2&&decide (CL x.1 x.2.1 x.2.2.2=0))))
noncomputable def Gz (x:RnX):List Nd:=if Db x=true then rnF x.1 (Ah x.1 x.2.1) x.2.2.1 x.2.2.2 else x.1
theorem Sk{x:RnX}(h:(Cl x.1).elem x.2.1=false):false=Db x:=by rw[Db,h];rfl
theorem Sl{x:RnX}{e:Nd}(he:x.1[x.2.1.toNat]? =some e)(h:e.kind=21):false=Db x:=by rw[Db,Bd,Bg he,decide_eq_true h];simp
theorem Sm{x:RnX}(h:CL x.1 x.2.1 x.2.2.1=0):false=Db x:=by rw[Db,decide_eq_true h];simp
theorem Sn{x:RnX}(h:Cm x.2.2.2=false):false=Db x:=by rw[Db,h];simp
theorem Py{x:RnX}(h:¬CL x.1 x.2.1 x.2.2.2=0):false=Db x:=by rw[Db,decide_eq_false h];simp
theorem b6m{ns:List Nd}{k:Int}{s:List UInt8}:0≤CL ns k s:=(UO ns s (Ah ns k) 0).1
theorem b6n{ns:List Nd}{k:Int}{s:List UInt8}(h:¬CL ns k s>0):CL ns k s=0:=by have:= @b6m ns k s;omega
theorem a3w{x:RnX}(h:CL x.1 x.2.1 x.2.2.2>0):false=Db x:=Py (by omega)
theorem Wc{x:RnX}{e:Nd}(h1:(Cl x.1).elem x.2.1=true)(he:x.1[x.2.1.toNat]? =some e)(h2:¬e.kind=21)(h3:¬CL x.1 x.2.1 x.2.2.1=0)(h4:Cm x.2.2.2=true)(h5:CL x.1 x.2.1 x.2.2.2=0):Db x=true:=by
 rw[Db,h1,Bd,Bg he,decide_eq_false h2,decide_eq_false h3,h4,decide_eq_true h5];rfl
theorem HP{x:RnX}(h:false=Db x):x.1=Gz x:=by rw[Gz,←h];simp
theorem So{x:RnX}(h:(Cl x.1).elem x.2.1=true):0≤x.2.1∧x.2.1<x.1.length:=a0P (List.elem_iff.1 h)
def DY(x:RnX)(i:Int)(o:List Nd):Prop:=((0≤i∧i≤(Ah x.1 x.2.1).length)∧x.1.length≤2^30∧Db x=true)∧o=rnF x.1 ((Ah x.1 x.2.1).take i.toNat) x.2.2.1 x.2.2.2
theorem Wd{x:RnX}(h:x.1.length≤2^30)(h2:Db x=true):DY x 0 x.1:=⟨⟨by omega,h,h2⟩,by simp [a9U]⟩
theorem a3x{x:RnX}{i:Int}{o:List Nd}(h:DY x i o):((0≤i∧i≤(Ah x.1 x.2.1).length)∧(Ah x.1 x.2.1).length≤2^30)∧o.length=x.1.length:=by
 have:= @Hz x.1 x.2.1
 exact⟨⟨h.1.1,by have:=h.1.2.1;omega⟩,by rw[h.2,US]⟩
theorem We{x:RnX}{i c:Int}{o:List Nd}{y:Nd}(h:DY x i o)(hc:(Ah x.1 x.2.1)[i.toNat]? =some c)(hy:o[c.toNat]? =some y):x.1[c.toNat]? =some y:=by
 rw[h.2] at hy
 exact a9X h.1.1.1 hc (CC hc).1 a1e hy
theorem a3y{x:RnX}{i c:Int}{o:List Nd}{y z w:Nd}(h:DY x i o)(hc:(Ah x.1 x.2.1)[i.toNat]? =some c)(hy:o[c.toNat]? =some y)(hw:o[c.toNat]? =some w)(hm:(Dg y.kind&&y.text==x.2.2.1)=true)(hz:z= {w with text:=x.2.2.2}):DY x (i+1) (o.set c.toNat z):=by
 have hl:=(List.getElem?_eq_some_iff.1 hc).1
 have hx:=We h hc hy
 rw[hy] at hw;cases hw
 obtain⟨⟨h1,h2⟩,h3⟩:=h
 exact⟨⟨by omega,h2⟩,by rw[h3];exact a9V h1.1 hc (CC hc).1 hx a1e hm hz⟩
theorem b6o{x:RnX}{i c:Int}{o:List Nd}{y:Nd}(h:DY x i o)(hc:(Ah x.1 x.2.1)[i.toNat]? =some c)(hy:o[c.toNat]? =some y)(hm:(Dg y.kind&&y.text==x.2.2.1)=false):DY x (i+1) o:=by
 have hl:=(List.getElem?_eq_some_iff.1 hc).1
 have hx:=We h hc hy
 obtain⟨⟨h1,h2⟩,h3⟩:=h
 exact⟨⟨by omega,h2⟩,by rw[h3];exact a1d h1.1 hc (CC hc).1 hx hm⟩
theorem b6p{x:RnX}{i c:Int}{o:List Nd}{y z w:Nd}(h:DY x i o)(hc:(Ah x.1 x.2.1)[i.toNat]? =some c)(hx:x.1[c.toNat]? =some y)(hw:o[c.toNat]? =some w)(hm:(Dg y.kind&&y.text==x.2.2.1)=true)(hz:z= {w with text:=x.2.2.2}):DY x (i+1) (o.set c.toNat z):=by
 have:=We h hc hw
 rw[hx] at this;cases this
 exact a3y h hc hw hw hm hz
theorem b6q{x:RnX}{i c:Int}{o:List Nd}{y:Nd}(h:DY x i o)(hc:(Ah x.1 x.2.1)[i.toNat]? =some c)(hx:x.1[c.toNat]? =some y)(hm:(Dg y.kind&&y.text==x.2.2.1)=false):DY x (i+1) o:=by
 have hl:=(List.getElem?_eq_some_iff.1 hc).1
 obtain⟨⟨h1,h2⟩,h3⟩:=h
 exact⟨⟨by omega,h2⟩,by rw[h3];exact a1d h1.1 hc (CC hc).1 hx hm⟩
theorem a3z{x:RnX}{i:Int}{o:List Nd}(h:DY x i o)(hl:¬i<((Ah x.1 x.2.1).length:Int)):o=Gz x:=by
 rw[h.2,List.take_of_length_le (by omega),Gz,if_pos h.1.2.2]
theorem a3A{x:RnX}{i:Int}{o:List Nd}(h:DY x i o):true=Db x:=h.1.2.2.symm
theorem a3B{x:RnX}(h:x.1.length≤2^20):(Cl x.1).length<2^62:=by have:= @UQ x.1;omega
attribute [local irreducible] Ah Cl DY CL Db Gz
noncomputable def HQ:Sig:= {X:=RnX,args:=fun x=>[nds x.1,.int .i64 x.2.1,.str x.2.2.1,.str x.2.2.2],pre:=fun x=>((Be x.1∧x.1.length≤2^20)∧∀e∈x.1,e.kids.length≤2^20)∧x.2.2.2.length<2^62,Y:=Unit,post:=fun x y=>True,res:=fun x y=> .tup [AW (Gz x),.bool (Db x)],outs:=fun x y=>[.top,.top,.top,.top],keep:=false}
noncomputable def Pz (x:RnX):LS:= {ι:=Int×List Nd,inv:=fun i=>DY x i.1 i.2,regs:=fun i=>[(2,.str x.2.2.1),(3,.str x.2.2.2),(10,AW i.2),(49,Ab (Ah x.1 x.2.1)),(50,.int .i64 (Ah x.1 x.2.1).length),(51,.int .i64 i.1)],als:=[],meas:=fun i=>(Ah x.1 x.2.1).length-i.1.toNat}
theorem b6r:Am G Tryz.prog 28 HQ:=
 vcFun_okP [(85,0,Nf),(46,0,It),(59,0,IM),(29,0,Ip),(80,0,Eu),(31,0,Dx),(86,0,Jp)] [(24,⟨Nd,ndA true⟩),(26,⟨Int,Bj⟩)] false (fun x=>[(7,Pz x)]) Tryz.func28 rfl (by decide) ⟨b6k,a1j,Yy,a0D,Ut,Mw,b6l,trivial⟩ (fun(x:RnX)=>(∀(y:Unit),True→((∀(x:Nd),True∧True∧(∀(x:Int),True∧True)∧True∧True)∧True∧True)∧True∧True∧True∧True∧True)∧cA Nf [nds x.1] fun x_1 y=>cA It [nds x.1] fun x_2 y=>cA IM [Ab (Cl x_2.1),.int .i64 x.2.1] fun x_3 y=>Aa (!List.elem x_3.2 x_3.1) (rA HQ x [.tup [AW x_1.1,.bool false],.top,.top,.top,.top]) (((0:Int)≤x.2.1∧x.2.1<(↑(List.length x.1):Int))∧∀(e:Nd),x.1[Int.toNat x.2.1]? =some e→Aa (e.kind==(21:Int)) (rA HQ x [.tup [AW x_1.1,.bool false],.top,.top,.top,.top]) (cA Ip [nds x.1,.int .i64 x.2.1,.str x.2.2.1] fun x_4 y=>Aa (CL x_4.1 x_4.2.1 x_4.2.2==(0:Int)) (rA HQ x [.tup [AW x_1.1,.bool false],.top,.top,.top,.top]) (cA Eu [.str x.2.2.2] fun x_5 y=>Aa (!Cm x_5) (rA HQ x [.tup [AW x_1.1,.bool false],.top,.top,.top,.top]) (cA Ip [nds x.1,.int .i64 x.2.1,.str x.2.2.2] fun x_6 y=>Aa (CL x_6.1 x_6.2.1 x_6.2.2 != (0:Int)) (rA HQ x [.tup [AW x_1.1,.bool false],.top,.top,.top,.top]) (cA Dx [nds x.1,.int .i64 x.2.1] fun x_7 y=>eA (Pz x) [.str x.2.2.1,.str x.2.2.2,AW x_1.1,Ab (Ah x_7.1 x_7.2),.int .i64 (↑(List.length (Ah x_7.1 x_7.2)):Int),.int .i64 (0:Int)]∧∀(i:Int×List Nd),DY x i.1 i.2→Aa (decide (i.1<(↑(List.length (Ah x.1 x.2.1)):Int))) (((0:Int)≤i.1∧i.1<(↑(List.length (Ah x.1 x.2.1)):Int))∧Int.toNat i.1<List.length (Ah x.1 x.2.1)∧∀(x_8:Int),(Ah x.1 x.2.1)[Int.toNat i.1]? =some x_8→((0:Int)≤x_8∧x_8<(↑(List.length i.2):Int))∧Int.toNat x_8<List.length i.2∧∀(x_9:Nd),i.2[Int.toNat x_8]? =some x_9→cA Jp [.agg [.int .i64 x_9.kind,.str x_9.text,AV.any,.bool x_9.blank],.str x.2.2.1] fun x_10 y=>Aa (Dg x_10.1&&x_10.2.1==x_10.2.2) (((0:Int)≤x_8∧x_8<(↑(List.length i.2):Int))∧Int.toNat x_8<List.length i.2∧∀(x_11:Nd),i.2[Int.toNat x_8]? =some x_11→∃(x':Nd),([AV.int .i64 x'.kind]=[.int .i64 x_11.kind]∧[Ab x'.kids,.bool x'.blank]=[Ab x_11.kids,.bool x_11.blank])∧x.2.2.2=x'.text∧inR IntKind.i64 (i.1+(1:Int))∧eN (Pz x) i [.str x.2.2.1,.str x.2.2.2,AW (List.set i.2 (Int.toNat x_8) x'),Ab (Ah x.1 x.2.1),.int .i64 (↑(List.length (Ah x.1 x.2.1)):Int),.int .i64 (i.1+(1:Int))]) (inR IntKind.i64 (i.1+(1:Int))∧eN (Pz x) i [.str x.2.2.1,.str x.2.2.2,AW i.2,Ab (Ah x.1 x.2.1),.int .i64 (↑(List.length (Ah x.1 x.2.1)):Int),.int .i64 (i.1+(1:Int))])) (rA HQ x [.tup [AW i.2,.bool true],.top,.top,.top,.top]))))))) (fun x=>by kernel_rfl) fun(x:RnX) (hx:((Be x.1∧x.1.length≤2^20)∧∀e∈x.1,e.kids.length≤2^20)∧x.2.2.2.length<2^62)=>(by
 dsimp only[BO,cA,eA,eN,Pz,Aq,Bn,nds,Ab,AW,rA,IM,Jp,Nf,Ip,It,HQ,Dx,Eu,Au,Ax,mvL,lnL,mvE,lnE,Bm]
 obtain⟨⟨⟨h1,h2⟩,h3⟩,h4⟩:=hx
 (repeat' first|refine Wa _ _ _ _ ⟨rfl,?_⟩ ⟨rfl,rfl⟩|(with_reducible first|rfl|exact True.intro|apply AJ|apply And.intro|((first|apply Az|apply AH|apply AA|apply AI)<;>intro _))|(apply Av<;>intro _)|apply AG|refine Af () ?_ ?_|((first|apply AO|apply AN|apply AM|apply AL|apply AF|apply AE|apply AD|apply AC|apply AB)<;>try dsimp only)|apply Af|(refine Prod.forall.2 ?_;intro _;try dsimp only)|(intro _;try dsimp only))
 all_goals(try(have hB:=a3x (show DY _ _ _ by assumption)))
 all_goals(try(repeat(rename(_:List Int)[_]? =some _=>hq;revert hq;rename(_:List Int)[_]? =some _=>hr;intro hq;rw[hr] at hq;cases hq)))
 all_goals first
  |rfl
  |omega
  |exact()
  |exact h1
  |exact h4
  |exact h3 _ ‹_›
  |exact(So ‹_›).1
  |exact(So ‹_›).2
  |exact Sk ‹_›
  |exact Sl ‹_› ‹_›
  |exact Sm ‹_›
  |exact Sn ‹_›
  |exact Py ‹_›
  |exact HP (Sk ‹_›)
  |exact HP (Sl ‹_› ‹_›)
  |exact HP (Sm ‹_›)
  |exact HP (Sn ‹_›)
  |exact HP (Py ‹_›)
  |exact Wd (by omega) (Wc ‹_› ‹_› ‹_› ‹_› ‹_› ‹_›)
  |exact a3z ‹_› ‹_›
  |exact a3A ‹_›
  |exact a3B h2
  |(have hq:=CC (show(Ah _ _)[_]? =some _ by assumption);omega)
  |(have hm:=(show(Dg _&&_==_)=true by assumption);exact a3y ‹_› ‹_› ‹_› ‹_› hm rfl)
  |(have hm:=(show(Dg _&&_==_)=false by assumption);exact b6o ‹_› ‹_› ‹_› hm)
  |((try simp only[AR,Ba,List.length_cons,List.length_nil]);omega)
  |skip)
noncomputable def HR:Sig:= {X:=RnX,args:=fun x=>[nds x.1,.int .i64 x.2.1,.str x.2.2.1,.str x.2.2.2],pre:=fun x=>((Be x.1∧x.1.length≤2^20)∧∀e∈x.1,e.kids.length≤2^20)∧x.2.2.2.length<2^62,Y:=Unit,post:=fun x y=>True,res:=fun x y=> .tup [AW (Gz x),.bool (Db x)],outs:=fun x y=>[.top,.top,.top,.top],keep:=false}
noncomputable def Ng (x:RnX):LS:= {ι:=Int×List Nd,inv:=fun i=>DY x i.1 i.2,regs:=fun i=>[(0,nds x.1),(2,.str x.2.2.1),(3,.str x.2.2.2),(10,AW i.2),(11,Ab (Ah x.1 x.2.1)),(12,.int .i64 i.1)],als:=[],meas:=fun i=>(Ah x.1 x.2.1).length-i.1.toNat}
theorem b6s:Am G Tryz.prog 37 HR:=
 vcFun_okP [(56,0,Jo),(47,0,Gk),(91,0,KZ),(44,0,Iq),(92,0,DE),(40,0,Dy),(93,0,HC)] [(24,⟨Nd,ndA true⟩),(26,⟨Int,Bj⟩)] false (fun x=>[(6,Ng x)]) Tryz.func37 rfl (by decide) ⟨a3v,UU,a8S,a0E,Uu,Mx,a0C,trivial⟩ (fun(x:RnX)=>(∀(y:Unit),True→((∀(x:Nd),True∧True∧(∀(x:Int),True∧True)∧True∧True)∧True∧True)∧True∧True∧True∧True∧True)∧cA Jo [nds x.1] fun x_1 y=>cA Gk [nds x.1] fun x_2 y=>cA KZ [Ab (Cl x_2.1),.int .i64 x.2.1] fun x_3 y=>Aa (!List.elem x_3.2 x_3.1) (rA HR x [.tup [AW x_1.1,.bool false],.top,.top,.top,.top]) (((0:Int)≤x.2.1∧x.2.1<(↑(List.length x.1):Int))∧∀(e:Nd),x.1[Int.toNat x.2.1]? =some e→Aa (e.kind==(21:Int)) (rA HR x [.tup [AW x_1.1,.bool false],.top,.top,.top,.top]) (cA Iq [nds x.1,.int .i64 x.2.1,.str x.2.2.1] fun x_4 y=>Aa (CL x_4.1 x_4.2.1 x_4.2.2==(0:Int)) (rA HR x [.tup [AW x_1.1,.bool false],.top,.top,.top,.top]) (cA DE [.str x.2.2.2] fun x_5 y=>Aa (!Cm x_5) (rA HR x [.tup [AW x_1.1,.bool false],.top,.top,.top,.top]) (cA Iq [nds x.1,.int .i64 x.2.1,.str x.2.2.2] fun x_6 y=>Aa (decide (CL x_6.1 x_6.2.1 x_6.2.2>(0:Int))) (rA HR x [.tup [AW x_1.1,.bool false],.top,.top,.top,.top]) (cA Dy [nds x.1,.int .i64 x.2.1] fun x_7 y=>eA (Ng x) [nds x.1,.str x.2.2.1,.str x.2.2.2,AW x_1.1,Ab (Ah x_7.1 x_7.2),.int .i64 (0:Int)]∧∀(i:Int×List Nd),DY x i.1 i.2→Aa (decide (i.1<(↑(List.length (Ah x.1 x.2.1)):Int))) (((0:Int)≤i.1∧i.1<(↑(List.length (Ah x.1 x.2.1)):Int))∧Int.toNat i.1<List.length (Ah x.1 x.2.1)∧∀(x_8:Int),(Ah x.1 x.2.1)[Int.toNat i.1]? =some x_8→((0:Int)≤x_8∧x_8<(↑(List.length x.1):Int))∧∀(e:Nd),x.1[Int.toNat x_8]? =some e→cA HC [.int .i64 e.kind] fun x_9 y=>Aa (Dg x_9.1) (((0:Int)≤i.1∧i.1<(↑(List.length (Ah x.1 x.2.1)):Int))∧Int.toNat i.1<List.length (Ah x.1 x.2.1)∧∀(x_10:Int),(Ah x.1 x.2.1)[Int.toNat i.1]? =some x_10→((0:Int)≤x_10∧x_10<(↑(List.length x.1):Int))∧∀(e:Nd),x.1[Int.toNat x_10]? =some e→Aa (e.text==x.2.2.1) (((0:Int)≤i.1∧i.1<(↑(List.length (Ah x.1 x.2.1)):Int))∧Int.toNat i.1<List.length (Ah x.1 x.2.1)∧∀(x_11:Int),(Ah x.1 x.2.1)[Int.toNat i.1]? =some x_11→((0:Int)≤x_11∧x_11<(↑(List.length i.2):Int))∧Int.toNat x_11<List.length i.2∧∀(x_12:Nd),i.2[Int.toNat x_11]? =some x_12→∃(x':Nd),([AV.int .i64 x'.kind]=[.int .i64 x_12.kind]∧[Ab x'.kids,.bool x'.blank]=[Ab x_12.kids,.bool x_12.blank])∧x.2.2.2=x'.text∧inR IntKind.i64 (i.1+(1:Int))∧eN (Ng x) i [nds x.1,.str x.2.2.1,.str x.2.2.2,AW (List.set i.2 (Int.toNat x_11) x'),Ab (Ah x.1 x.2.1),.int .i64 (i.1+(1:Int))]) (inR IntKind.i64 (i.1+(1:Int))∧eN (Ng x) i [nds x.1,.str x.2.2.1,.str x.2.2.2,AW i.2,Ab (Ah x.1 x.2.1),.int .i64 (i.1+(1:Int))])) (inR IntKind.i64 (i.1+(1:Int))∧eN (Ng x) i [nds x.1,.str x.2.2.1,.str x.2.2.2,AW i.2,Ab (Ah x.1 x.2.1),.int .i64 (i.1+(1:Int))])) (rA HR x [.tup [AW i.2,.bool true],.top,.top,.top,.top]))))))) (fun x=>by kernel_rfl) fun(x:RnX) (hx:((Be x.1∧x.1.length≤2^20)∧∀e∈x.1,e.kids.length≤2^20)∧x.2.2.2.length<2^62)=>(by
 dsimp only[BO,cA,eA,eN,Ng,Aq,Bn,nds,Ab,AW,rA,Jo,DE,KZ,HC,Iq,Gk,HR,Dy,Au,Ax,mvL,lnL,mvE,lnE,Bm]
 obtain⟨⟨⟨h1,h2⟩,h3⟩,h4⟩:=hx
 (repeat' first|refine Wa _ _ _ _ ⟨rfl,?_⟩ ⟨rfl,rfl⟩|(with_reducible first|rfl|exact True.intro|apply AJ|apply And.intro|((first|apply Az|apply AH|apply AA|apply AI)<;>intro _))|(apply Av<;>intro _)|apply AG|refine Af () ?_ ?_|((first|apply AO|apply AN|apply AM|apply AL|apply AF|apply AE|apply AD|apply AC|apply AB)<;>try dsimp only)|apply Af|(refine Prod.forall.2 ?_;intro _;try dsimp only)|(intro _;try dsimp only))
 all_goals(try(have hB:=a3x (show DY _ _ _ by assumption)))
 all_goals(try(repeat(rename(_:List Int)[_]? =some _=>hq;revert hq;rename(_:List Int)[_]? =some _=>hr;intro hq;rw[hr] at hq;cases hq)))
 all_goals(try((repeat(rename(_:List Nd)[Int.toNat _]? =some _=>hq;have hqe:=Bg hq;subst hqe;revert hq));intros))
 all_goals first
  |rfl
  |omega
  |exact()
  |exact h1
  |exact h4
  |exact h3 _ ‹_›
  |exact(So ‹_›).1
  |exact(So ‹_›).2
  |exact Sk ‹_›
  |exact Sl ‹_› ‹_›
  |exact Sm ‹_›
  |exact Sn ‹_›
  |exact Py ‹_›
  |exact a3w ‹_›
  |exact HP (a3w ‹_›)
  |exact Wd (by omega) (Wc ‹_› ‹_› ‹_› ‹_› ‹_› (b6n ‹_›))
  |exact HP (Sk ‹_›)
  |exact HP (Sl ‹_› ‹_›)
  |exact HP (Sm ‹_›)
  |exact HP (Sn ‹_›)
  |exact HP (Py ‹_›)
  |exact Wd (by omega) (Wc ‹_› ‹_› ‹_› ‹_› ‹_› ‹_›)
  |exact a3z ‹_› ‹_›
  |exact a3A ‹_›
  |exact a3B h2
  |(have hq:=CC (show(Ah _ _)[_]? =some _ by assumption);omega)
  |exact b6p ‹_› ‹_› ‹_› ‹_› (by first|assumption|(simp [*];done)) rfl
  |exact b6q ‹_› ‹_› ‹_› (by first|assumption|(simp [*];done))
  |((try simp only[AR,Ba,List.length_cons,List.length_nil]);omega)
  |skip)
end Go.My
end
section
set_option linter.unusedVariables false
set_option linter.unusedSimpArgs false
namespace Go.My
open Go.Eng Go.Proofs
variable {G:GInv}
attribute [local irreducible] Ah Bz Bh DT FL FM CY fdl ltI fiI cnI usI ujI MK EZ frP unP CL usP
noncomputable def Hh:Sig:= {X:=List Nd×Int,args:=fun x=>[nds x.1,.int .i64 x.2],pre:=fun x=>Be x.1∧x.1.length≤2^30,Y:=Unit,post:=fun x y=>True,res:=fun x y=>BX (Bh x.1 x.2),outs:=fun x y=>[.top,.top],keep:=false}
noncomputable def Nh (x:List Nd×Int):LS:= {ι:=List Bool×Int×List (List UInt8),inv:=fun i=>ltI x i.1 i.2.1 i.2.2,regs:=fun i=>[(0,nds x.1),(6,BO i.1),(7,BX i.2.2),(16,Ab (Ah x.1 x.2)),(17,.int .i64 (Ah x.1 x.2).length),(18,.int .i64 i.2.1)],als:=[],meas:=fun i=>(Ah x.1 x.2).length-i.2.1.toNat}
theorem Wf:Am G Tryz.prog 21 Hh:=
 vcFun_okP [(31,0,Dx),(75,0,IU),(76,0,HA)] [(38,⟨List UInt8,Ag⟩),(26,⟨Int,Bj⟩)] false (fun x=>[(5,Nh x)]) Tryz.func21 rfl (by decide) ⟨Mw,a0d,ZN,trivial⟩ (fun(x:List Nd×Int)=>(∀(y:Unit),True→(∀(x:List UInt8),True∧True)∧True∧True∧True)∧cA Dx [nds x.1,.int .i64 x.2] fun x_1 y=>cA IU [nds x.1,Ab (Ah x_1.1 x_1.2)] fun x_2 y=>eA (Nh x) [nds x.1,AV.sl true (0:Nat) (1:Nat) Bool Bo y.1,.nil,Ab (Ah x_1.1 x_1.2),.int .i64 (↑(List.length (Ah x_1.1 x_1.2)):Int),.int .i64 (0:Int)]∧∀(i:List Bool×Int×List (List UInt8)),ltI x i.1 i.2.1 i.2.2→Aa (decide (i.2.1<(↑(List.length (Ah x.1 x.2)):Int))) (((0:Int)≤i.2.1∧i.2.1<(↑(List.length (Ah x.1 x.2)):Int))∧Int.toNat i.2.1<List.length (Ah x.1 x.2)∧∀(x_3:Int),(Ah x.1 x.2)[Int.toNat i.2.1]? =some x_3→((0:Int)≤x_3∧x_3<(↑(List.length x.1):Int))∧∀(e:Nd),x.1[Int.toNat x_3]? =some e→Aa (e.kind==(12:Int)) (((0:Int)≤x_3∧x_3<(↑(List.length x.1):Int))∧∀(e:Nd),x.1[Int.toNat x_3]? =some e→cA HA [AV.sl true (0:Nat) (1:Nat) (List UInt8) Ag i.2.2,.str e.text] fun x_4 y=>inR IntKind.i64 (i.2.1+(1:Int))∧eN (Nh x) i [nds x.1,AV.sl true (0:Nat) (1:Nat) Bool Bo i.1,AV.sl true (0:Nat) (1:Nat) (List UInt8) Ag (CY x_4.1 x_4.2),Ab (Ah x.1 x.2),.int .i64 (↑(List.length (Ah x.1 x.2)):Int),.int .i64 (i.2.1+(1:Int))]) (((0:Int)≤x_3∧x_3<(↑(List.length i.1):Int))∧Int.toNat x_3<List.length i.1∧∀(x_4:Bool),i.1[Int.toNat x_3]? =some x_4→Aa x_4 (((0:Int)≤x_3∧x_3<(↑(List.length x.1):Int))∧∀(e:Nd),x.1[Int.toNat x_3]? =some e→cA HA [AV.sl true (0:Nat) (1:Nat) (List UInt8) Ag i.2.2,.str e.text] fun x_5 y=>inR IntKind.i64 (i.2.1+(1:Int))∧eN (Nh x) i [nds x.1,AV.sl true (0:Nat) (1:Nat) Bool Bo i.1,AV.sl true (0:Nat) (1:Nat) (List UInt8) Ag (CY x_5.1 x_5.2),Ab (Ah x.1 x.2),.int .i64 (↑(List.length (Ah x.1 x.2)):Int),.int .i64 (i.2.1+(1:Int))]) (inR IntKind.i64 (i.2.1+(1:Int))∧eN (Nh x) i [nds x.1,AV.sl true (0:Nat) (1:Nat) Bool Bo i.1,AV.sl true (0:Nat) (1:Nat) (List UInt8) Ag i.2.2,Ab (Ah x.1 x.2),.int .i64 (↑(List.length (Ah x.1 x.2)):Int),.int .i64 (i.2.1+(1:Int))]))) (rA Hh x [AV.sl true (0:Nat) (1:Nat) (List UInt8) Ag i.2.2,.top,.top])) (fun x=>by kernel_rfl) fun(x:List Nd×Int) (hx:Be x.1∧x.1.length≤2^30)=>(by
 dsimp only[BO,cA,eA,eN,Nh,Aq,Bn,nds,BX,Ab,rA,HA,IU,Hh,Dx,Au,Ax,mvL,lnL,mvE,lnE,Bm]
 obtain⟨h1,h2⟩:=hx
 (repeat' first|(with_reducible first|rfl|exact True.intro|apply AJ|apply And.intro|((first|apply Az|apply AH|apply AA|apply AI)<;>intro _))|(apply Av<;>intro _)|apply AG|refine Af () ?_ ?_|((first|apply AO|apply AN|apply AM|apply AL|apply AF|apply AE|apply AD|apply AC|apply AB)<;>try dsimp only)|apply Af|(refine Prod.forall.2 ?_;intro _;try dsimp only)|(intro _;try dsimp only))
 all_goals(try(repeat(rename(_:List Int)[_]? =some _=>hq;revert hq;rename(_:List Int)[_]? =some _=>hr;intro hq;rw[hr] at hq;cases hq)))
 all_goals(try(repeat(rename(_:List Nd)[_]? =some _=>hq;revert hq;rename(_:List Nd)[_]? =some _=>hr;intro hq;rw[hr] at hq;cases hq)))
 all_goals(try(repeat(rename(_:List Bool)[_]? =some _=>hq;revert hq;rename(_:List Bool)[_]? =some _=>hr;intro hq;rw[hr] at hq;cases hq)))
 all_goals(try(repeat(rename(_:List (List UInt8))[_]? =some _=>hq;revert hq;rename(_:List (List UInt8))[_]? =some _=>hr;intro hq;rw[hr] at hq;cases hq)))
 all_goals(try(have hB:=a0g (show ltI _ _ _ _ by assumption)))
 all_goals first
  |rfl
  |omega
  |exact()
  |exact h1
  |exact JM h2
  |exact⟨h1,h2⟩
  |exact(CC ‹_›).1
  |exact(CC ‹_›).2
  |(have hq:=CC (show(Ah _ _)[_]? =some _ by assumption);omega)
  |exact a0f ‹_› h2
  |exact a0i ‹_› ‹_› ‹_› ‹_›
  |exact a0j ‹_› ‹_› ‹_› ‹_› ‹_›
  |exact a0k ‹_› ‹_› ‹_› ‹_› ‹_› ‹_›
  |exact a0l ‹_› ‹_›
  |((try simp only[AR,Ba,List.length_cons,List.length_nil]);omega)
  |skip)
noncomputable def Hi:Sig:= {X:=List Nd×Int,args:=fun x=>[nds x.1,.int .i64 x.2],pre:=fun x=>Be x.1∧x.1.length≤2^30,Y:=Unit,post:=fun x y=>True,res:=fun x y=>BX (Bh x.1 x.2),outs:=fun x y=>[.top,.top],keep:=false}
noncomputable def Ni (x:List Nd×Int):LS:= {ι:=List Bool×Int×List (List UInt8),inv:=fun i=>ltI x i.1 i.2.1 i.2.2,regs:=fun i=>[(0,nds x.1),(5,BX i.2.2),(6,Ab (Ah x.1 x.2)),(7,BO i.1),(8,.int .i64 i.2.1)],als:=[],meas:=fun i=>(Ah x.1 x.2).length-i.2.1.toNat}
theorem Wg:Am G Tryz.prog 23 Hi:=
 vcFun_okP [(40,0,Dy),(77,0,IV),(78,0,HB)] [(38,⟨List UInt8,Ag⟩),(26,⟨Int,Bj⟩)] false (fun x=>[(5,Ni x)]) Tryz.func23 rfl (by decide) ⟨Mx,a0e,ZO,trivial⟩ (fun(x:List Nd×Int)=>(∀(y:Unit),True→(∀(x:List UInt8),True∧True)∧True∧True∧True)∧cA Dy [nds x.1,.int .i64 x.2] fun x_1 y=>cA IV [nds x.1,Ab (Ah x_1.1 x_1.2)] fun x_2 y=>eA (Ni x) [nds x.1,AV.sl true (0:Nat) (1:Nat) (List UInt8) Ag [],Ab (Ah x_1.1 x_1.2),AV.sl true (0:Nat) (1:Nat) Bool Bo y.1,.int .i64 (0:Int)]∧∀(i:List Bool×Int×List (List UInt8)),ltI x i.1 i.2.1 i.2.2→Aa (decide (i.2.1<(↑(List.length (Ah x.1 x.2)):Int))) (((0:Int)≤i.2.1∧i.2.1<(↑(List.length (Ah x.1 x.2)):Int))∧Int.toNat i.2.1<List.length (Ah x.1 x.2)∧∀(x_3:Int),(Ah x.1 x.2)[Int.toNat i.2.1]? =some x_3→((0:Int)≤x_3∧x_3<(↑(List.length x.1):Int))∧∀(e:Nd),x.1[Int.toNat x_3]? =some e→Aa (e.kind==(12:Int)) (((0:Int)≤i.2.1∧i.2.1<(↑(List.length (Ah x.1 x.2)):Int))∧Int.toNat i.2.1<List.length (Ah x.1 x.2)∧∀(x_4:Int),(Ah x.1 x.2)[Int.toNat i.2.1]? =some x_4→((0:Int)≤x_4∧x_4<(↑(List.length x.1):Int))∧∀(e:Nd),x.1[Int.toNat x_4]? =some e→cA HB [AV.sl true (0:Nat) (1:Nat) (List UInt8) Ag i.2.2,.str e.text] fun x_5 y=>inR IntKind.i64 (i.2.1+(1:Int))∧eN (Ni x) i [nds x.1,AV.sl true (0:Nat) (1:Nat) (List UInt8) Ag (CY x_5.1 x_5.2),Ab (Ah x.1 x.2),AV.sl true (0:Nat) (1:Nat) Bool Bo i.1,.int .i64 (i.2.1+(1:Int))]) (((0:Int)≤i.2.1∧i.2.1<(↑(List.length (Ah x.1 x.2)):Int))∧Int.toNat i.2.1<List.length (Ah x.1 x.2)∧∀(x_4:Int),(Ah x.1 x.2)[Int.toNat i.2.1]? =some x_4→((0:Int)≤x_4∧x_4<(↑(List.length i.1):Int))∧Int.toNat x_4<List.length i.1∧∀(x_5:Bool),i.1[Int.toNat x_4]? =some x_5→Aa x_5 (((0:Int)≤i.2.1∧i.2.1<(↑(List.length (Ah x.1 x.2)):Int))∧Int.toNat i.2.1<List.length (Ah x.1 x.2)∧∀(x_6:Int),(Ah x.1 x.2)[Int.toNat i.2.1]? =some x_6→((0:Int)≤x_6∧x_6<(↑(List.length x.1):Int))∧∀(e:Nd),x.1[Int.toNat x_6]? =some e→cA HB [AV.sl true (0:Nat) (1:Nat) (List UInt8) Ag i.2.2,.str e.text] fun x_7 y=>inR IntKind.i64 (i.2.1+(1:Int))∧eN (Ni x) i [nds x.1,AV.sl true (0:Nat) (1:Nat) (List UInt8) Ag (CY x_7.1 x_7.2),Ab (Ah x.1 x.2),AV.sl true (0:Nat) (1:Nat) Bool Bo i.1,.int .i64 (i.2.1+(1:Int))]) (inR IntKind.i64 (i.2.1+(1:Int))∧eN (Ni x) i [nds x.1,AV.sl true (0:Nat) (1:Nat) (List UInt8) Ag i.2.2,Ab (Ah x.1 x.2),AV.sl true (0:Nat) (1:Nat) Bool Bo i.1,.int .i64 (i.2.1+(1:Int))]))) (rA Hi x [AV.sl true (0:Nat) (1:Nat) (List UInt8) Ag i.2.2,.top,.top])) (fun x=>by kernel_rfl) fun(x:List Nd×Int) (hx:Be x.1∧x.1.length≤2^30)=>(by
 dsimp only[BO,cA,eA,eN,Ni,Aq,Bn,nds,BX,Ab,rA,HB,Hi,IV,Dy,Au,Ax,mvL,lnL,mvE,lnE,Bm]
 obtain⟨h1,h2⟩:=hx
 (repeat' first|(with_reducible first|rfl|exact True.intro|apply AJ|apply And.intro|((first|apply Az|apply AH|apply AA|apply AI)<;>intro _))|(apply Av<;>intro _)|apply AG|refine Af () ?_ ?_|((first|apply AO|apply AN|apply AM|apply AL|apply AF|apply AE|apply AD|apply AC|apply AB)<;>try dsimp only)|apply Af|(refine Prod.forall.2 ?_;intro _;try dsimp only)|(intro _;try dsimp only))
 all_goals(try(repeat(rename(_:List Int)[_]? =some _=>hq;revert hq;rename(_:List Int)[_]? =some _=>hr;intro hq;rw[hr] at hq;cases hq)))
 all_goals(try(repeat(rename(_:List Nd)[_]? =some _=>hq;revert hq;rename(_:List Nd)[_]? =some _=>hr;intro hq;rw[hr] at hq;cases hq)))
 all_goals(try(repeat(rename(_:List Bool)[_]? =some _=>hq;revert hq;rename(_:List Bool)[_]? =some _=>hr;intro hq;rw[hr] at hq;cases hq)))
 all_goals(try(repeat(rename(_:List (List UInt8))[_]? =some _=>hq;revert hq;rename(_:List (List UInt8))[_]? =some _=>hr;intro hq;rw[hr] at hq;cases hq)))
 all_goals(try(have hB:=a0g (show ltI _ _ _ _ by assumption)))
 all_goals first
  |rfl
  |omega
  |exact()
  |exact h1
  |exact JM h2
  |exact⟨h1,h2⟩
  |exact(CC ‹_›).1
  |exact(CC ‹_›).2
  |(have hq:=CC (show(Ah _ _)[_]? =some _ by assumption);omega)
  |exact a0f ‹_› h2
  |exact a0i ‹_› ‹_› ‹_› ‹_›
  |exact a0j ‹_› ‹_› ‹_› ‹_› ‹_›
  |exact a0k ‹_› ‹_› ‹_› ‹_› ‹_› ‹_›
  |exact a0l ‹_› ‹_›
  |((try simp only[AR,Ba,List.length_cons,List.length_nil]);omega)
  |skip)
end Go.My
end
section
set_option linter.unusedVariables false
set_option linter.unusedSimpArgs false
namespace Go.My
open Go.Eng Go.Proofs
variable {G:GInv}
attribute [local irreducible] Ah Bz Bh DT FL FM CY fdl ltI fiI cnI usI ujI MK EZ frP unP CL usP
noncomputable def Nj:Sig:= {X:=List Nd×Int,args:=fun x=>[nds x.1,.int .i64 x.2],pre:=fun x=>Be x.1∧x.1.length≤2^30,Y:=Unit,post:=fun x y=>True,res:=fun x y=>BX (FL x.1 x.2),outs:=fun x y=>[.top,.top],keep:=false}
noncomputable def PA (x:List Nd×Int):LS:= {ι:=Int×List (List UInt8),inv:=fun i=>fiI (frP x) (Bz x.1 x.2) i.1 i.2,regs:=fun i=>[(5,BX (Bh x.1 x.2)),(6,BX i.2),(14,BX (Bz x.1 x.2)),(15,.int .i64 (Bz x.1 x.2).length),(16,.int .i64 i.1)],als:=[],meas:=fun i=>(Bz x.1 x.2).length-i.1.toNat}
theorem b6t:Am G Tryz.prog 25 Nj:=
 vcFun_okP [(21,0,Hh),(22,0,IT),(79,0,GT)] [(38,⟨List UInt8,Ag⟩)] false (fun x=>[(4,PA x)]) Tryz.func25 rfl (by decide) ⟨Wf,ZU,UJ,trivial⟩ (fun(x:List Nd×Int)=>(∀(y:Unit),True→(∀(x:List UInt8),True∧True)∧True∧True∧True)∧cA Hh [nds x.1,.int .i64 x.2] fun x_1 y=>cA IT [nds x.1,.int .i64 x.2] fun x_2 y=>eA (PA x) [AV.sl true (0:Nat) (1:Nat) (List UInt8) Ag (Bh x_1.1 x_1.2),.nil,AV.sl true (0:Nat) (1:Nat) (List UInt8) Ag (Bz x_2.1 x_2.2),.int .i64 (↑(List.length (Bz x_2.1 x_2.2)):Int),.int .i64 (0:Int)]∧∀(i:Int×List (List UInt8)),fiI (frP x) (Bz x.1 x.2) i.1 i.2→Aa (decide (i.1<(↑(List.length (Bz x.1 x.2)):Int))) (((0:Int)≤i.1∧i.1<(↑(List.length (Bz x.1 x.2)):Int))∧Int.toNat i.1<List.length (Bz x.1 x.2)∧∀(x_3:List UInt8),(Bz x.1 x.2)[Int.toNat i.1]? =some x_3→cA GT [AV.sl true (0:Nat) (1:Nat) (List UInt8) Ag (Bh x.1 x.2),.str x_3] fun x_4 y=>Aa (!List.elem x_4.2 x_4.1) (∃(x_5:List UInt8),x_3=x_5∧∃(zs:List (List UInt8)),AV.sl true (0:Nat) (1:Nat) (List UInt8) Ag [x_5]=AV.sl true (0:Nat) (1:Nat) (List UInt8) Ag zs∧BF Ag∧Ba (List.length i.2+List.length zs) (16:Nat)∧inR IntKind.i64 (i.1+(1:Int))∧eN (PA x) i [AV.sl true (0:Nat) (1:Nat) (List UInt8) Ag (Bh x.1 x.2),AV.sl true (0:Nat) (1:Nat) (List UInt8) Ag (i.2++zs),AV.sl true (0:Nat) (1:Nat) (List UInt8) Ag (Bz x.1 x.2),.int .i64 (↑(List.length (Bz x.1 x.2)):Int),.int .i64 (i.1+(1:Int))]) (inR IntKind.i64 (i.1+(1:Int))∧eN (PA x) i [AV.sl true (0:Nat) (1:Nat) (List UInt8) Ag (Bh x.1 x.2),AV.sl true (0:Nat) (1:Nat) (List UInt8) Ag i.2,AV.sl true (0:Nat) (1:Nat) (List UInt8) Ag (Bz x.1 x.2),.int .i64 (↑(List.length (Bz x.1 x.2)):Int),.int .i64 (i.1+(1:Int))])) (rA Nj x [AV.sl true (0:Nat) (1:Nat) (List UInt8) Ag i.2,.top,.top])) (fun x=>by kernel_rfl) fun(x:List Nd×Int) (hx:Be x.1∧x.1.length≤2^30)=>(by
 dsimp only[BO,cA,eA,eN,PA,Bn,nds,BX,Ed,Ab,rA,GT,Nj,Hh,IT,Au,Ax,mvL,lnL,mvE,lnE,Bm]
 obtain⟨h1,h2⟩:=hx
 (repeat' first|(with_reducible first|rfl|exact True.intro|apply AJ|apply And.intro|((first|apply Az|apply AH|apply AA|apply AI)<;>intro _))|(apply Av<;>intro _)|apply AG|refine Af () ?_ ?_|((first|apply AO|apply AN|apply AM|apply AL|apply AF|apply AE|apply AD|apply AC|apply AB)<;>try dsimp only)|apply Af|(refine Prod.forall.2 ?_;intro _;try dsimp only)|(intro _;try dsimp only))
 all_goals(try(repeat(rename(_:List Int)[_]? =some _=>hq;revert hq;rename(_:List Int)[_]? =some _=>hr;intro hq;rw[hr] at hq;cases hq)))
 all_goals(try(repeat(rename(_:List Nd)[_]? =some _=>hq;revert hq;rename(_:List Nd)[_]? =some _=>hr;intro hq;rw[hr] at hq;cases hq)))
 all_goals(try(repeat(rename(_:List Bool)[_]? =some _=>hq;revert hq;rename(_:List Bool)[_]? =some _=>hr;intro hq;rw[hr] at hq;cases hq)))
 all_goals(try(repeat(rename(_:List (List UInt8))[_]? =some _=>hq;revert hq;rename(_:List (List UInt8))[_]? =some _=>hr;intro hq;rw[hr] at hq;cases hq)))
 all_goals(try(have hB:=OP (show fiI _ _ _ _ by assumption)))
 all_goals first
  |rfl
  |omega
  |exact()
  |exact h1
  |exact JM h2
  |exact⟨h1,h2⟩
  |exact(CC ‹_›).1
  |exact(CC ‹_›).2
  |(have hq:=CC (show(Ah _ _)[_]? =some _ by assumption);omega)
  |exact Rd (a0z h2)
  |exact Re ‹_› ‹_› (a0n ‹_›)
  |exact Rf ‹_› ‹_› (a0o ‹_›)
  |exact a0r ‹_› ‹_›
  |(have hq:=OQ (k:=x.2) h2;omega)
  |((try simp only[AR,Ba,List.length_cons,List.length_nil]);omega)
  |skip)
noncomputable def Nk:Sig:= {X:=List Nd×Int,args:=fun x=>[nds x.1,.int .i64 x.2],pre:=fun x=>Be x.1∧x.1.length≤2^30,Y:=Unit,post:=fun x y=>True,res:=fun x y=>BX (FL x.1 x.2),outs:=fun x y=>[.top,.top],keep:=false}
noncomputable def PB (x:List Nd×Int):LS:= {ι:=Int×List (List UInt8),inv:=fun i=>fiI (frP x) (Bz x.1 x.2) i.1 i.2,regs:=fun i=>[(5,BX i.2),(6,BX (Bz x.1 x.2)),(7,BX (Bh x.1 x.2)),(8,.int .i64 i.1)],als:=[],meas:=fun i=>(Bz x.1 x.2).length-i.1.toNat}
theorem b6u:Am G Tryz.prog 42 Nk:=
 vcFun_okP [(23,0,Hi),(24,0,GU),(95,0,Im)] [(38,⟨List UInt8,Ag⟩)] false (fun x=>[(5,PB x)]) Tryz.func42 rfl (by decide) ⟨Wg,UL,ZM,trivial⟩ (fun(x:List Nd×Int)=>(∀(y:Unit),True→(∀(x:List UInt8),True∧True)∧True∧True∧True)∧cA GU [nds x.1,.int .i64 x.2] fun x_1 y=>cA Hi [nds x.1,.int .i64 x.2] fun x_2 y=>eA (PB x) [AV.sl true (0:Nat) (1:Nat) (List UInt8) Ag [],AV.sl true (0:Nat) (1:Nat) (List UInt8) Ag (Bz x_1.1 x_1.2),AV.sl true (0:Nat) (1:Nat) (List UInt8) Ag (Bh x_2.1 x_2.2),.int .i64 (0:Int)]∧∀(i:Int×List (List UInt8)),fiI (frP x) (Bz x.1 x.2) i.1 i.2→Aa (decide (i.1<(↑(List.length (Bz x.1 x.2)):Int))) (((0:Int)≤i.1∧i.1<(↑(List.length (Bz x.1 x.2)):Int))∧Int.toNat i.1<List.length (Bz x.1 x.2)∧∀(x_3:List UInt8),(Bz x.1 x.2)[Int.toNat i.1]? =some x_3→cA Im [AV.sl true (0:Nat) (1:Nat) (List UInt8) Ag (Bh x.1 x.2),.str x_3] fun x_4 y=>Aa (!List.elem x_4.2 x_4.1) (((0:Int)≤i.1∧i.1<(↑(List.length (Bz x.1 x.2)):Int))∧Int.toNat i.1<List.length (Bz x.1 x.2)∧∀(x_5:List UInt8),(Bz x.1 x.2)[Int.toNat i.1]? =some x_5→∃(x_6:List UInt8),x_5=x_6∧∃(zs:List (List UInt8)),AV.sl true (0:Nat) (1:Nat) (List UInt8) Ag [x_6]=AV.sl true (0:Nat) (1:Nat) (List UInt8) Ag zs∧BF Ag∧Ba (List.length i.2+List.length zs) (16:Nat)∧inR IntKind.i64 (i.1+(1:Int))∧eN (PB x) i [AV.sl true (0:Nat) (1:Nat) (List UInt8) Ag (i.2++zs),AV.sl true (0:Nat) (1:Nat) (List UInt8) Ag (Bz x.1 x.2),AV.sl true (0:Nat) (1:Nat) (List UInt8) Ag (Bh x.1 x.2),.int .i64 (i.1+(1:Int))]) (inR IntKind.i64 (i.1+(1:Int))∧eN (PB x) i [AV.sl true (0:Nat) (1:Nat) (List UInt8) Ag i.2,AV.sl true (0:Nat) (1:Nat) (List UInt8) Ag (Bz x.1 x.2),AV.sl true (0:Nat) (1:Nat) (List UInt8) Ag (Bh x.1 x.2),.int .i64 (i.1+(1:Int))])) (rA Nk x [AV.sl true (0:Nat) (1:Nat) (List UInt8) Ag i.2,.top,.top])) (fun x=>by kernel_rfl) fun(x:List Nd×Int) (hx:Be x.1∧x.1.length≤2^30)=>(by
 dsimp only[BO,cA,eA,eN,PB,Bn,nds,BX,Ed,Ab,rA,Im,Nk,Hi,GU,Au,Ax,mvL,lnL,mvE,lnE,Bm]
 obtain⟨h1,h2⟩:=hx
 (repeat' first|(with_reducible first|rfl|exact True.intro|apply AJ|apply And.intro|((first|apply Az|apply AH|apply AA|apply AI)<;>intro _))|(apply Av<;>intro _)|apply AG|refine Af () ?_ ?_|((first|apply AO|apply AN|apply AM|apply AL|apply AF|apply AE|apply AD|apply AC|apply AB)<;>try dsimp only)|apply Af|(refine Prod.forall.2 ?_;intro _;try dsimp only)|(intro _;try dsimp only))
 all_goals(try(repeat(rename(_:List Int)[_]? =some _=>hq;revert hq;rename(_:List Int)[_]? =some _=>hr;intro hq;rw[hr] at hq;cases hq)))
 all_goals(try(repeat(rename(_:List Nd)[_]? =some _=>hq;revert hq;rename(_:List Nd)[_]? =some _=>hr;intro hq;rw[hr] at hq;cases hq)))
 all_goals(try(repeat(rename(_:List Bool)[_]? =some _=>hq;revert hq;rename(_:List Bool)[_]? =some _=>hr;intro hq;rw[hr] at hq;cases hq)))
 all_goals(try(repeat(rename(_:List (List UInt8))[_]? =some _=>hq;revert hq;rename(_:List (List UInt8))[_]? =some _=>hr;intro hq;rw[hr] at hq;cases hq)))
 all_goals(try(have hB:=OP (show fiI _ _ _ _ by assumption)))
 all_goals first
  |rfl
  |omega
  |exact()
  |exact h1
  |exact JM h2
  |exact⟨h1,h2⟩
  |exact(CC ‹_›).1
  |exact(CC ‹_›).2
  |(have hq:=CC (show(Ah _ _)[_]? =some _ by assumption);omega)
  |exact Rd (a0z h2)
  |exact Re ‹_› ‹_› (a0n ‹_›)
  |exact Rf ‹_› ‹_› (a0o ‹_›)
  |exact a0r ‹_› ‹_›
  |(have hq:=OQ (k:=x.2) h2;omega)
  |((try simp only[AR,Ba,List.length_cons,List.length_nil]);omega)
  |skip)
end Go.My
end
section
set_option linter.unusedVariables false
set_option linter.unusedSimpArgs false
namespace Go.My
open Go.Eng Go.Proofs
variable {G:GInv}
attribute [local irreducible] Ah Bz Bh DT FL FM CY fdl ltI fiI cnI usI ujI MK EZ frP unP CL usP
noncomputable def Nl:Sig:= {X:=List Nd×Int,args:=fun x=>[nds x.1,.int .i64 x.2],pre:=fun x=>Be x.1∧x.1.length≤2^30,Y:=Unit,post:=fun x y=>True,res:=fun x y=>BX (FM x.1 x.2),outs:=fun x y=>[.top,.top],keep:=false}
noncomputable def Nm (x:List Nd×Int):LS:= {ι:=List Bool×Int×List (List UInt8),inv:=fun i=>usI x i.1 i.2.1 i.2.2,regs:=fun i=>[(0,nds x.1),(1,.int .i64 x.2),(6,BO i.1),(7,BX i.2.2),(19,Ab (Ah x.1 x.2)),(20,.int .i64 (Ah x.1 x.2).length),(21,.int .i64 i.2.1)],als:=[],meas:=fun i=>(Ah x.1 x.2).length-i.2.1.toNat}
noncomputable def PC (x:List Nd×Int):LS:= {ι:=Int×List (List UInt8),inv:=fun i=>fiI (unP x) (Bh x.1 x.2) i.1 i.2,regs:=fun i=>[(7,BX (DT x.1 x.2)),(10,BX i.2),(49,BX (Bh x.1 x.2)),(50,.int .i64 (Bh x.1 x.2).length),(51,.int .i64 i.1)],als:=[],meas:=fun i=>(Bh x.1 x.2).length-i.1.toNat}
theorem b6v:Am G Tryz.prog 26 Nl:=
 vcFun_okP [(31,0,Dx),(75,0,IU),(21,0,Hh),(79,0,GT)] [(38,⟨List UInt8,Ag⟩),(26,⟨Int,Bj⟩),(76,⟨Bool,Bo⟩)] false (fun x=>[(5,Nm x),(12,PC x)]) Tryz.func26 rfl (by decide) ⟨Mw,a0d,Wf,UJ,trivial⟩ (fun(x:List Nd×Int)=>(∀(y:Unit),True→(∀(x:List UInt8),True∧True)∧True∧True∧True)∧cA Dx [nds x.1,.int .i64 x.2] fun x_1 y=>cA IU [nds x.1,Ab (Ah x_1.1 x_1.2)] fun x_2 y=>eA (Nm x) [nds x.1,.int .i64 x.2,AV.sl true (0:Nat) (1:Nat) Bool Bo y.1,.nil,Ab (Ah x_1.1 x_1.2),.int .i64 (↑(List.length (Ah x_1.1 x_1.2)):Int),.int .i64 (0:Int)]∧∀(i:List Bool×Int×List (List UInt8)),usI x i.1 i.2.1 i.2.2→Aa (decide (i.2.1<(↑(List.length (Ah x.1 x.2)):Int))) (((0:Int)≤i.2.1∧i.2.1<(↑(List.length (Ah x.1 x.2)):Int))∧Int.toNat i.2.1<List.length (Ah x.1 x.2)∧∀(x_3:Int),(Ah x.1 x.2)[Int.toNat i.2.1]? =some x_3→((0:Int)≤x_3∧x_3<(↑(List.length x.1):Int))∧∀(e:Nd),x.1[Int.toNat x_3]? =some e→Aa (e.kind==(1:Int)) (((0:Int)≤x_3∧x_3<(↑(List.length i.1):Int))∧Int.toNat x_3<List.length i.1∧∀(x_4:Bool),i.1[Int.toNat x_3]? =some x_4→Aa (!x_4) (((0:Int)≤x_3∧x_3<(↑(List.length x.1):Int))∧∀(e:Nd),x.1[Int.toNat x_3]? =some e→∃(x_5:List UInt8),e.text=x_5∧∃(zs:List (List UInt8)),AV.sl true (0:Nat) (1:Nat) (List UInt8) Ag [x_5]=AV.sl true (0:Nat) (1:Nat) (List UInt8) Ag zs∧BF Ag∧Ba (List.length i.2.2+List.length zs) (16:Nat)∧inR IntKind.i64 (i.2.1+(1:Int))∧eN (Nm x) i [nds x.1,.int .i64 x.2,AV.sl true (0:Nat) (1:Nat) Bool Bo i.1,AV.sl true (0:Nat) (1:Nat) (List UInt8) Ag (i.2.2++zs),Ab (Ah x.1 x.2),.int .i64 (↑(List.length (Ah x.1 x.2)):Int),.int .i64 (i.2.1+(1:Int))]) (inR IntKind.i64 (i.2.1+(1:Int))∧eN (Nm x) i [nds x.1,.int .i64 x.2,AV.sl true (0:Nat) (1:Nat) Bool Bo i.1,AV.sl true (0:Nat) (1:Nat) (List UInt8) Ag i.2.2,Ab (Ah x.1 x.2),.int .i64 (↑(List.length (Ah x.1 x.2)):Int),.int .i64 (i.2.1+(1:Int))])) (inR IntKind.i64 (i.2.1+(1:Int))∧eN (Nm x) i [nds x.1,.int .i64 x.2,AV.sl true (0:Nat) (1:Nat) Bool Bo i.1,AV.sl true (0:Nat) (1:Nat) (List UInt8) Ag i.2.2,Ab (Ah x.1 x.2),.int .i64 (↑(List.length (Ah x.1 x.2)):Int),.int .i64 (i.2.1+(1:Int))])) (cA Hh [nds x.1,.int .i64 x.2] fun x_3 y=>eA (PC x) [AV.sl true (0:Nat) (1:Nat) (List UInt8) Ag i.2.2,.nil,AV.sl true (0:Nat) (1:Nat) (List UInt8) Ag (Bh x_3.1 x_3.2),.int .i64 (↑(List.length (Bh x_3.1 x_3.2)):Int),.int .i64 (0:Int)]∧∀(i:Int×List (List UInt8)),fiI (unP x) (Bh x.1 x.2) i.1 i.2→Aa (decide (i.1<(↑(List.length (Bh x.1 x.2)):Int))) (((0:Int)≤i.1∧i.1<(↑(List.length (Bh x.1 x.2)):Int))∧Int.toNat i.1<List.length (Bh x.1 x.2)∧∀(x_4:List UInt8),(Bh x.1 x.2)[Int.toNat i.1]? =some x_4→cA GT [AV.sl true (0:Nat) (1:Nat) (List UInt8) Ag (DT x.1 x.2),.str x_4] fun x_5 y=>Aa (!List.elem x_5.2 x_5.1) (∃(x_6:List UInt8),x_4=x_6∧∃(zs:List (List UInt8)),AV.sl true (0:Nat) (1:Nat) (List UInt8) Ag [x_6]=AV.sl true (0:Nat) (1:Nat) (List UInt8) Ag zs∧BF Ag∧Ba (List.length i.2+List.length zs) (16:Nat)∧inR IntKind.i64 (i.1+(1:Int))∧eN (PC x) i [AV.sl true (0:Nat) (1:Nat) (List UInt8) Ag (DT x.1 x.2),AV.sl true (0:Nat) (1:Nat) (List UInt8) Ag (i.2++zs),AV.sl true (0:Nat) (1:Nat) (List UInt8) Ag (Bh x.1 x.2),.int .i64 (↑(List.length (Bh x.1 x.2)):Int),.int .i64 (i.1+(1:Int))]) (inR IntKind.i64 (i.1+(1:Int))∧eN (PC x) i [AV.sl true (0:Nat) (1:Nat) (List UInt8) Ag (DT x.1 x.2),AV.sl true (0:Nat) (1:Nat) (List UInt8) Ag i.2,AV.sl true (0:Nat) (1:Nat) (List UInt8) Ag (Bh x.1 x.2),.int .i64 (↑(List.length (Bh x.1 x.2)):Int),.int .i64 (i.1+(1:Int))])) (rA Nl x [AV.sl true (0:Nat) (1:Nat) (List UInt8) Ag i.2,.top,.top]))) (fun x=>by kernel_rfl) fun(x:List Nd×Int) (hx:Be x.1∧x.1.length≤2^30)=>(by
 dsimp only[BO,cA,eA,eN,PC,Nm,Aq,Bn,nds,BX,Ed,Ab,rA,GT,IU,Hh,Dx,Nl,Au,Ax,mvL,lnL,mvE,lnE,Bm]
 obtain⟨h1,h2⟩:=hx
 (repeat' first|(with_reducible first|rfl|exact True.intro|apply AJ|apply And.intro|((first|apply Az|apply AH|apply AA|apply AI)<;>intro _))|(apply Av<;>intro _)|apply AG|refine Af () ?_ ?_|((first|apply AO|apply AN|apply AM|apply AL|apply AF|apply AE|apply AD|apply AC|apply AB)<;>try dsimp only)|apply Af|(refine Prod.forall.2 ?_;intro _;try dsimp only)|(intro _;try dsimp only))
 all_goals(try(repeat(rename(_:List Int)[_]? =some _=>hq;revert hq;rename(_:List Int)[_]? =some _=>hr;intro hq;rw[hr] at hq;cases hq)))
 all_goals(try(repeat(rename(_:List Nd)[_]? =some _=>hq;revert hq;rename(_:List Nd)[_]? =some _=>hr;intro hq;rw[hr] at hq;cases hq)))
 all_goals(try(repeat(rename(_:List Bool)[_]? =some _=>hq;revert hq;rename(_:List Bool)[_]? =some _=>hr;intro hq;rw[hr] at hq;cases hq)))
 all_goals(try(repeat(rename(_:List (List UInt8))[_]? =some _=>hq;revert hq;rename(_:List (List UInt8))[_]? =some _=>hr;intro hq;rw[hr] at hq;cases hq)))
 all_goals(try(have hB:=a9j (show usI _ _ _ _ by assumption)))
 all_goals(try(have hB:=OP (show fiI _ _ _ _ by assumption)))
 all_goals first
  |rfl
  |omega
  |exact()
  |exact h1
  |exact JM h2
  |exact⟨h1,h2⟩
  |exact(CC ‹_›).1
  |exact(CC ‹_›).2
  |(have hq:=CC (show(Ah _ _)[_]? =some _ by assumption);omega)
  |exact a9i ‹_› h2
  |exact a9k ‹_› ‹_› ‹_› ‹_› ‹_› ‹_›
  |exact a9l ‹_› ‹_› ‹_› ‹_›
  |exact a9m ‹_› ‹_› ‹_› ‹_› ‹_›
  |exact a9n ‹_› ‹_›
  |exact Rd (OQ h2)
  |exact Re ‹_› ‹_› (a0p ‹_›)
  |exact Rf ‹_› ‹_› (a0q ‹_›)
  |exact a0s ‹_› ‹_›
  |(have hq:=a9o (k:=x.2) h2;omega)
  |(have hq:=OQ (k:=x.2) h2;omega)
  |((try simp only[AR,Ba,List.length_cons,List.length_nil]);omega)
  |skip)
end Go.My
end
section
set_option linter.unusedVariables false
set_option linter.unusedSimpArgs false
namespace Go.My
open Go.Eng Go.Proofs
variable {G:GInv}
attribute [local irreducible] Ah Bz Bh DT FL FM CY fdl ltI fiI cnI usI ujI MK EZ frP unP CL usP
noncomputable def unK (x:List Nd×Int) (i:List Bool×Int×List (List UInt8)):LS:= {
 ι:=Int×Bool,inv:=fun j=>ujI x i.1 i.2.1 j.1 i.2.2 j.2,
 regs:=fun j=>[(0,nds x.1),(5,BX i.2.2),(6,Ab (Ah x.1 x.2)),(7,BO i.1),(8,BX (Bh x.1 x.2)),(9,.int .i64 i.2.1),(10,.bool j.2),(11,.int .i64 j.1)],als:=[],meas:=fun j=>(Ah x.1 x.2).length-j.1.toNat}
noncomputable def unL (x:List Nd×Int):LS:= {
 ι:=List Bool×Int×List (List UInt8),inv:=fun i=>fiI (unP x) (Bh x.1 x.2) i.2.1 i.2.2∧MK x.1.length (fun j=>CK x.1 (Ah x.1 x.2) j=true) i.1,
 regs:=fun i=>[(0,nds x.1),(5,BX i.2.2),(6,Ab (Ah x.1 x.2)),(7,BO i.1),(8,BX (Bh x.1 x.2)),(9,.int .i64 i.2.1)],als:=[],meas:=fun i=>(Bh x.1 x.2).length-i.2.1.toNat,sub:=fun i=>[(10,unK x i)]}
noncomputable def Nn:Sig:= {X:=List Nd×Int,args:=fun x=>[nds x.1,.int .i64 x.2],pre:=fun x=>Be x.1∧x.1.length≤2^30,Y:=Unit,post:=fun x y=>True,res:=fun x y=>BX (FM x.1 x.2),outs:=fun x y=>[.top,.top],keep:=false}
theorem b6w:Am G Tryz.prog 43 Nn:=
 vcFun_okP [(40,0,Dy),(77,0,IV),(23,0,Hi)] [(38,⟨List UInt8,Ag⟩),(26,⟨Int,Bj⟩),(76,⟨Bool,Bo⟩)] false (fun x=>[(6,unL x)]) Tryz.func43 rfl (by decide) ⟨Mx,a0e,Wg,trivial⟩ (fun(x:List Nd×Int)=>(∀(y:Unit),True→(∀(x:List UInt8),True∧True)∧True∧True∧True)∧cA Dy [nds x.1,.int .i64 x.2] fun x_1 y=>cA IV [nds x.1,Ab (Ah x_1.1 x_1.2)] fun x_2 y=>cA Hi [nds x.1,.int .i64 x.2] fun x_3 y_1=>eA (unL x) [nds x.1,AV.sl true (0:Nat) (1:Nat) (List UInt8) Ag [],Ab (Ah x_1.1 x_1.2),AV.sl true (0:Nat) (1:Nat) Bool Bo y.1,AV.sl true (0:Nat) (1:Nat) (List UInt8) Ag (Bh x_3.1 x_3.2),.int .i64 (0:Int)]∧∀(i:List Bool×Int×List (List UInt8)),fiI (unP x) (Bh x.1 x.2) i.2.1 i.2.2∧MK (List.length x.1) (fun(j:Int)=>CK x.1 (Ah x.1 x.2) j=true) i.1→Aa (decide (i.2.1<(↑(List.length (Bh x.1 x.2)):Int))) (eA (unK x i) [nds x.1,AV.sl true (0:Nat) (1:Nat) (List UInt8) Ag i.2.2,Ab (Ah x.1 x.2),AV.sl true (0:Nat) (1:Nat) Bool Bo i.1,AV.sl true (0:Nat) (1:Nat) (List UInt8) Ag (Bh x.1 x.2),.int .i64 i.2.1,.bool false,.int .i64 (0:Int)]∧∀(i_1:Int×Bool),ujI x i.1 i.2.1 i_1.1 i.2.2 i_1.2→Aa (decide (i_1.1<(↑(List.length (Ah x.1 x.2)):Int))) (true=true∧true=true∧Aa i_1.2 (inR IntKind.i64 (i_1.1+(1:Int))∧eN (unK x i) i_1 [nds x.1,AV.sl true (0:Nat) (1:Nat) (List UInt8) Ag i.2.2,Ab (Ah x.1 x.2),AV.sl true (0:Nat) (1:Nat) Bool Bo i.1,AV.sl true (0:Nat) (1:Nat) (List UInt8) Ag (Bh x.1 x.2),.int .i64 i.2.1,.bool true,.int .i64 (i_1.1+(1:Int))]) (((0:Int)≤i_1.1∧i_1.1<(↑(List.length (Ah x.1 x.2)):Int))∧Int.toNat i_1.1<List.length (Ah x.1 x.2)∧∀(x_4:Int),(Ah x.1 x.2)[Int.toNat i_1.1]? =some x_4→((0:Int)≤x_4∧x_4<(↑(List.length x.1):Int))∧∀(e:Nd),x.1[Int.toNat x_4]? =some e→Aa (e.kind==(1:Int)) (((0:Int)≤i_1.1∧i_1.1<(↑(List.length (Ah x.1 x.2)):Int))∧Int.toNat i_1.1<List.length (Ah x.1 x.2)∧∀(x_5:Int),(Ah x.1 x.2)[Int.toNat i_1.1]? =some x_5→((0:Int)≤x_5∧x_5<(↑(List.length i.1):Int))∧Int.toNat x_5<List.length i.1∧∀(x_6:Bool),i.1[Int.toNat x_5]? =some x_6→Aa (!x_6) (((0:Int)≤i_1.1∧i_1.1<(↑(List.length (Ah x.1 x.2)):Int))∧Int.toNat i_1.1<List.length (Ah x.1 x.2)∧∀(x_7:Int),(Ah x.1 x.2)[Int.toNat i_1.1]? =some x_7→((0:Int)≤x_7∧x_7<(↑(List.length x.1):Int))∧∀(e:Nd),x.1[Int.toNat x_7]? =some e→((0:Int)≤i.2.1∧i.2.1<(↑(List.length (Bh x.1 x.2)):Int))∧Int.toNat i.2.1<List.length (Bh x.1 x.2)∧∀(x_8:List UInt8),(Bh x.1 x.2)[Int.toNat i.2.1]? =some x_8→inR IntKind.i64 (i_1.1+(1:Int))∧eN (unK x i) i_1 [nds x.1,AV.sl true (0:Nat) (1:Nat) (List UInt8) Ag i.2.2,Ab (Ah x.1 x.2),AV.sl true (0:Nat) (1:Nat) Bool Bo i.1,AV.sl true (0:Nat) (1:Nat) (List UInt8) Ag (Bh x.1 x.2),.int .i64 i.2.1,.bool (e.text==x_8),.int .i64 (i_1.1+(1:Int))]) (inR IntKind.i64 (i_1.1+(1:Int))∧eN (unK x i) i_1 [nds x.1,AV.sl true (0:Nat) (1:Nat) (List UInt8) Ag i.2.2,Ab (Ah x.1 x.2),AV.sl true (0:Nat) (1:Nat) Bool Bo i.1,AV.sl true (0:Nat) (1:Nat) (List UInt8) Ag (Bh x.1 x.2),.int .i64 i.2.1,.bool false,.int .i64 (i_1.1+(1:Int))])) (inR IntKind.i64 (i_1.1+(1:Int))∧eN (unK x i) i_1 [nds x.1,AV.sl true (0:Nat) (1:Nat) (List UInt8) Ag i.2.2,Ab (Ah x.1 x.2),AV.sl true (0:Nat) (1:Nat) Bool Bo i.1,AV.sl true (0:Nat) (1:Nat) (List UInt8) Ag (Bh x.1 x.2),.int .i64 i.2.1,.bool false,.int .i64 (i_1.1+(1:Int))]))) (Aa (!i_1.2) (((0:Int)≤i.2.1∧i.2.1<(↑(List.length (Bh x.1 x.2)):Int))∧Int.toNat i.2.1<List.length (Bh x.1 x.2)∧∀(x_4:List UInt8),(Bh x.1 x.2)[Int.toNat i.2.1]? =some x_4→∃(x_5:List UInt8),x_4=x_5∧∃(zs:List (List UInt8)),AV.sl true (0:Nat) (1:Nat) (List UInt8) Ag [x_5]=AV.sl true (0:Nat) (1:Nat) (List UInt8) Ag zs∧BF Ag∧Ba (List.length i.2.2+List.length zs) (16:Nat)∧inR IntKind.i64 (i.2.1+(1:Int))∧eN (unL x) i [nds x.1,AV.sl true (0:Nat) (1:Nat) (List UInt8) Ag (i.2.2++zs),Ab (Ah x.1 x.2),AV.sl true (0:Nat) (1:Nat) Bool Bo i.1,AV.sl true (0:Nat) (1:Nat) (List UInt8) Ag (Bh x.1 x.2),.int .i64 (i.2.1+(1:Int))]) (inR IntKind.i64 (i.2.1+(1:Int))∧eN (unL x) i [nds x.1,AV.sl true (0:Nat) (1:Nat) (List UInt8) Ag i.2.2,Ab (Ah x.1 x.2),AV.sl true (0:Nat) (1:Nat) Bool Bo i.1,AV.sl true (0:Nat) (1:Nat) (List UInt8) Ag (Bh x.1 x.2),.int .i64 (i.2.1+(1:Int))]))) (rA Nn x [AV.sl true (0:Nat) (1:Nat) (List UInt8) Ag i.2.2,.top,.top])) (fun x=>by kernel_rfl) fun(x:List Nd×Int) (hx:Be x.1∧x.1.length≤2^30)=>(by
 dsimp only[BO,cA,eA,eN,Aq,Bn,nds,BX,Ab,rA,Hi,IV,Dy,Nn,unK,unL,Au,Ax,mvL,lnL,mvE,lnE,Bm]
 obtain⟨h1,h2⟩:=hx
 (repeat' first|(with_reducible first|rfl|exact True.intro|apply AJ|apply And.intro|((first|apply Az|apply AH|apply AA|apply AI)<;>intro _))|(apply Av<;>intro _)|apply AG|refine Af () ?_ ?_|((first|apply AO|apply AN|apply AM|apply AL|apply AF|apply AE|apply AD|apply AC|apply AB)<;>try dsimp only)|apply Af|(refine Prod.forall.2 ?_;intro _;try dsimp only)|(intro _;try dsimp only))
 all_goals(try(repeat(rename(_:List Int)[_]? =some _=>hq;revert hq;rename(_:List Int)[_]? =some _=>hr;intro hq;rw[hr] at hq;cases hq)))
 all_goals(try(repeat(rename(_:List Nd)[_]? =some _=>hq;revert hq;rename(_:List Nd)[_]? =some _=>hr;intro hq;rw[hr] at hq;cases hq)))
 all_goals(try(repeat(rename(_:List Bool)[_]? =some _=>hq;revert hq;rename(_:List Bool)[_]? =some _=>hr;intro hq;rw[hr] at hq;cases hq)))
 all_goals(try(repeat(rename(_:List (List UInt8))[_]? =some _=>hq;revert hq;rename(_:List (List UInt8))[_]? =some _=>hr;intro hq;rw[hr] at hq;cases hq)))
 all_goals(try(have hB:=a9q (show ujI _ _ _ _ _ _ by assumption)))
 all_goals(try(have hB:=OP (And.left (show fiI _ _ _ _∧_ by assumption))))
 all_goals first
  |rfl
  |omega
  |exact()
  |exact h1
  |exact JM h2
  |exact⟨h1,h2⟩
  |exact(CC ‹_›).1
  |exact(CC ‹_›).2
  |(have hq:=CC (show(Ah _ _)[_]? =some _ by assumption);omega)
  |exact Rd (OQ h2)
  |exact a9p (And.right (show fiI _ _ _ _∧_ by assumption)) h2 (And.left (show fiI _ _ _ _∧_ by assumption)) ‹_›
  |exact a9u ‹_› ‹_› ‹_›
  |exact a9v ‹_› ‹_› ‹_› ‹_› ‹_› (.inl trivial)
  |exact a9r ‹_› ‹_› ‹_›
  |exact a9s ‹_› ‹_› ‹_› ‹_›
  |exact And.right (show fiI _ _ _ _∧_ by assumption)
  |exact a0s (And.left (show fiI _ _ _ _∧_ by assumption)) ‹_›
  |(have hv:=a9t (show ujI _ _ _ _ _ _ by assumption) ‹_› ‹_› ‹_› ‹_›;refine OT ‹_› ‹_› ?_;rw[hv];simp [*];done)
  |(have hv:= @a9w x;refine OT ‹_› ‹_› ?_;rw[hv ‹_› ‹_›];simp [*];done)
  |(refine OT ‹_› ‹_› ?_;simp [*];done)
  |((try simp only[AR,Ba,List.length_cons,List.length_nil]);omega)
  |skip)
end Go.My
end
section
namespace Go.Proofs
open Go.Shelf
def Tryz.laysM246_ren:Go.Shelf.Ren:=⟨fun|246=>174|283=>190|284=>191|285=>192|286=>193|129=>156|317=>203|318=>204|319=>205|320=>206|337=>214|338=>215|n=>n,fun|2=>2|3=>3|9=>9|4=>4|171=>158|0=>0|53=>139|37=>22|5=>5|173=>160|212=>173|51=>137|20=>20|213=>174|46=>91|232=>180|233=>181|n=>n,fun|17=>0|18=>2|19=>3|n=>n⟩
def Tryz.laysM243_ren:Go.Shelf.Ren:=⟨fun|243=>145|246=>174|283=>190|284=>191|285=>192|286=>193|129=>156|317=>203|318=>204|319=>205|320=>206|337=>214|338=>215|n=>n,fun|3=>3|9=>9|2=>2|4=>4|171=>158|0=>0|53=>139|37=>22|5=>5|173=>160|212=>173|51=>137|20=>20|213=>174|46=>91|232=>180|233=>181|n=>n,fun|17=>0|18=>2|19=>3|n=>n⟩
def Tryz.laysM171_ren:Go.Shelf.Ren:=⟨fun|171=>121|243=>145|246=>174|283=>190|284=>191|285=>192|286=>193|129=>156|317=>203|318=>204|319=>205|320=>206|337=>214|338=>215|n=>n,fun|3=>3|9=>9|2=>2|4=>4|171=>158|0=>0|53=>139|37=>22|5=>5|173=>160|212=>173|51=>137|20=>20|213=>174|46=>91|232=>180|233=>181|n=>n,fun|17=>0|18=>2|19=>3|n=>n⟩
theorem Tryz.laysM171:Go.Proofs.LaysM.n171 Tryz.prog Tryz.laysM171_ren:= {
 mixed:=by kernel_rfl
 f129:=Tryz.func156.trans (congrArg some (by kernel_rfl))
 f171:=Tryz.func121.trans (congrArg some (by kernel_rfl))
 f243:=Tryz.func145.trans (congrArg some (by kernel_rfl))
 f246:=Tryz.func174.trans (congrArg some (by kernel_rfl))
 f283:=Tryz.func190.trans (congrArg some (by kernel_rfl))
 f284:=Tryz.func191.trans (congrArg some (by kernel_rfl))
 f285:=Tryz.func192.trans (congrArg some (by kernel_rfl))
 f286:=Tryz.func193.trans (congrArg some (by kernel_rfl))
 f317:=Tryz.func203.trans (congrArg some (by kernel_rfl))
 f318:=Tryz.func204.trans (congrArg some (by kernel_rfl))
 f319:=Tryz.func205.trans (congrArg some (by kernel_rfl))
 f320:=Tryz.func206.trans (congrArg some (by kernel_rfl))
 f337:=Tryz.func214.trans (congrArg some (by kernel_rfl))
 f338:=Tryz.func215.trans (congrArg some (by kernel_rfl))
 t0:=Tryz.underlying0
 a0:=Tryz.isAgg0
 z0:=Tryz.sizeOf0
 v0:=Tryz.zeroValue0
 t2:=Tryz.underlying2
 a2:=Tryz.isAgg2
 z2:=Tryz.sizeOf2
 v2:=Tryz.zeroValue2
 t3:=Tryz.underlying3
 a3:=Tryz.isAgg3
 z3:=Tryz.sizeOf3
 v3:=Tryz.zeroValue3
 t4:=Tryz.underlying4
 a4:=Tryz.isAgg4
 z4:=Tryz.sizeOf4
 v4:=Tryz.zeroValue4
 t5:=Tryz.underlying5
 a5:=Tryz.isAgg5
 z5:=Tryz.sizeOf5
 v5:=Tryz.zeroValue5
 t9:=Tryz.underlying9
 a9:=Tryz.isAgg9
 z9:=Tryz.sizeOf9
 v9:=Tryz.zeroValue9
 t20:=Tryz.underlying20
 a20:=Tryz.isAgg20
 z20:=Tryz.sizeOf20
 v20:=Tryz.zeroValue20
 t37:=Tryz.underlying22
 a37:=Tryz.isAgg22
 z37:=Tryz.sizeOf22
 v37:=Tryz.zeroValue22
 t46:=Tryz.underlying91
 a46:=Tryz.isAgg91
 z46:=Tryz.sizeOf91
 v46:=Tryz.zeroValue91
 t51:=Tryz.underlying137
 a51:=Tryz.isAgg137
 z51:=Tryz.sizeOf137
 v51:=Tryz.zeroValue137
 t53:=Tryz.underlying139
 a53:=Tryz.isAgg139
 z53:=Tryz.sizeOf139
 v53:=Tryz.zeroValue139
 t171:=Tryz.underlying158
 a171:=Tryz.isAgg158
 z171:=Tryz.sizeOf158
 v171:=Tryz.zeroValue158
 t173:=Tryz.underlying160
 a173:=Tryz.isAgg160
 z173:=Tryz.sizeOf160
 v173:=Tryz.zeroValue160
 t212:=Tryz.underlying173
 a212:=Tryz.isAgg173
 z212:=Tryz.sizeOf173
 v212:=Tryz.zeroValue173
 t213:=Tryz.underlying174
 a213:=Tryz.isAgg174
 z213:=Tryz.sizeOf174
 t232:=Tryz.underlying180
 a232:=Tryz.isAgg180
 z232:=Tryz.sizeOf180
 v232:=Tryz.zeroValue180
 t233:=Tryz.underlying181
 a233:=Tryz.isAgg181
 z233:=Tryz.sizeOf181
 v233:=Tryz.zeroValue181
 g17:=by kernel_rfl
 g18:=by kernel_rfl
 g19:=by kernel_rfl
 i0:=by kernel_rfl
 i2:=by kernel_rfl
 i3:=by kernel_rfl
 i4:=by kernel_rfl
 i5:=by kernel_rfl
 i9:=by kernel_rfl
 i20:=by kernel_rfl
 i37:=by kernel_rfl
 i46:=by kernel_rfl
 i51:=by kernel_rfl
 i53:=by kernel_rfl
 i171:=by kernel_rfl
 i173:=by kernel_rfl
 i212:=by kernel_rfl
 i232:=by kernel_rfl
 i233:=by kernel_rfl
 m17:=by kernel_rfl
 m18:=by kernel_rfl
 m19:=by kernel_rfl}
open Go.RowKit Go.Sort Go.Lib in
theorem Tryz.strconv_Itoa(n:Int)(h0: -9223372036854775808≤n)(h1:n≤9223372036854775807)(w:World)(htab:Lib.TabIs Tryz.prog w "internal/strconv.uint64pow10" .u64 Lib.pow10Tab):
 Calls Tryz.prog 121 #[.int .i64 n] w fun e w'=>e= .returned (.string ⟨(Lib.itoa n).toArray⟩)∧∃k os,w'=grow (w.drewN k) os:=Any.strconv_Itoa Tryz.laysM171 n h0 h1 w htab
end Go.Proofs
end
section
set_option linter.unusedVariables false
set_option linter.unusedSimpArgs false
namespace Go.My
open Go.Eng Go.Proofs
variable {G:GInv}
theorem a3C{P:Program}{w:World}{name:String}{k:IntKind}{zs:List Int}(h:Lib.TabIs P w name k zs):∃g cs e p,P.globalNamed name=some g∧w.heap[g]? =some (.cells cs e p)∧cs=(zs.map fun z=>Value.int k z).toArray:=by
 unfold Lib.TabIs World.var? at h
 cases hg:P.globalNamed name with
 |none=>rw[hg] at h;cases h
 |some g=>
  rw[hg] at h
  simp only[Option.bind_some] at h
  split at h
  ·rename_i cs e p hc
   exact⟨g,cs,e,p,rfl,hc,Option.some.inj h⟩
  ·cases h
def b6x(P:Program)(name:String)(k:IntKind)(zs:List Int):GInv:=⟨fun Z w=>Lib.TabIs P w name k zs∧∀g,P.globalNamed name=some g→¬Z g,by
 rintro Z Z' w w' hz ⟨h1,h2⟩
 obtain⟨g,cs,e,p,hg,hc,hcs⟩:=a3C h1
 have hlt:g<w.heap.size:=by
  rcases Nat.lt_or_ge g w.heap.size with hh|hh
  ·exact hh
  ·rw[Array.getElem?_eq_none hh] at hc;cases hc
 obtain⟨q1,q2⟩:=hz g (h2 g hg) hlt
 refine⟨?_,fun g' hg'=> ?_⟩
 ·unfold Lib.TabIs World.var?
  rw[hg]
  simp only[Option.bind_some]
  rw[q2,hc,hcs]
 ·have:g'=g:=by rw[hg] at hg';exact(Option.some.inj hg').symm
  rw[this];exact q1⟩
def Wh:GInv:=b6x Go.Proofs.Tryz.prog "internal/strconv.uint64pow10" .u64 Lib.pow10Tab
def PD(G:GInv):Prop:=∀Z w,G.p Z w→Lib.TabIs Go.Proofs.Tryz.prog w "internal/strconv.uint64pow10" .u64 Lib.pow10Tab
theorem b6y:PD Wh:=fun Z w h=>h.1
theorem b6z{W:World}(h:Lib.TabIs Go.Proofs.Tryz.prog W "internal/strconv.uint64pow10" .u64 Lib.pow10Tab):Wh.p (Old W) W:=by
 refine⟨h,fun g hg hz=> ?_⟩
 obtain⟨g',cs,e,p,hg',hc,hcs⟩:=a3C h
 have:g'=g:=by rw[hg] at hg';exact(Option.some.inj hg').symm
 subst this
 have hz:W.heap.size≤g':=hz
 rw[Array.getElem?_eq_none hz] at hc;cases hc
def No:Sig:= {X:=Int,args:=fun x=>[.int .i64 x],pre:=fun x=> -9223372036854775808≤x∧x≤9223372036854775807,Y:=Unit,post:=fun _ _=>True,res:=fun x _=> .str (Ee x),outs:=fun _ _=>[.top],keep:=false}
theorem b6A(hT:PD G):Am G Go.Proofs.Tryz.prog 121 No:=by
 refine⟨⟨⟨_,Go.Proofs.Tryz.func121,by kernel_rfl,by kernel_rfl⟩,fun x y _ _=>⟨trivial,trivial,trivial⟩⟩,?_⟩
 rintro x ⟨h0,h1⟩ Z w vals A hG h hA _
 simp only[No,AZ,Al] at h
 obtain⟨v,cs,A1,A2,rfl,_,⟨rfl,_⟩,rfl,_⟩:=h
 refine(Any.strconv_Itoa Go.Proofs.Tryz.laysM171 x h0 h1 w (hT Z w hG)).mono ?_
 rintro e w' ⟨rfl,k,os,rfl⟩
 refine⟨(),_,Z,(fun _=>False),trivial,rfl,?_,⟨rfl,rfl,rfl,?_,fun b hb _=>⟨?_,Iff.rfl⟩,fun _ h=>h.elim⟩⟩
 ·simp only[No,AZ,Al]
  exact⟨_,_,_,_,rfl,BG _,⟨rfl,AS⟩,_,_,_,_,rfl,BG _,AS,rfl,AS⟩
 ·show w.heap.size≤(w.heap++os).size
  rw[Array.size_append];omega
 ·show(w.heap++os)[b]? =w.heap[b]?
  rw[Array.getElem?_append_left hb]
def Np:Sig:= {X:=Int,args:=fun x=>[.int .i64 x],pre:=fun x=> -9223372036854775808≤x∧x≤9223372036854775807,Y:=Unit,post:=fun x y=>True,res:=fun x y=> .str (Ee x),outs:=fun x y=>[.top],keep:=false}
theorem b6B(hT:PD G):Am G Tryz.prog 84 Np:=
 vcFun_okP [(121,0,No)] [] false (fun x=>[]) Tryz.func84 rfl (by decide) ⟨(b6A hT),trivial⟩ (fun(x:Int)=>(∀(y:Unit),True→True∧True∧True)∧cA No [.int .i64 x] fun x_1 y=>rA Np x [.str (Ee x_1),.top]) (fun x=>by kernel_rfl) fun(x:Int) (hx: -9223372036854775808≤x∧x≤9223372036854775807)=>(by
 dsimp only[cA,rA,Np,No,Au,Ax,mvL,lnL,mvE,lnE]
 obtain⟨h1,h2⟩:=hx
 (repeat' first|(with_reducible first|rfl|exact True.intro|apply AJ|apply And.intro|((first|apply Az|apply AH|apply AA|apply AI)<;>intro _))|(apply Av<;>intro _)|apply AG|refine Af () ?_ ?_|((first|apply AO|apply AN|apply AM|apply AL|apply AF|apply AE|apply AD|apply AC|apply AB)<;>try dsimp only)|apply Af|(refine Prod.forall.2 ?_;intro _;try dsimp only)|(intro _;try dsimp only))<;>(try dsimp only at*)<;>(try simp only[AR,List.length_cons,List.length_nil])<;>(try omega))
end Go.My
end
section
set_option linter.unusedVariables false
set_option linter.unusedSimpArgs false
namespace Go.My
open Go.Eng Go.Proofs
variable {G:GInv}
def PE(s:List UInt8):AV:= .clo (.func 83) [.pf [.str s]]
def Hj(s:List UInt8):List Nd→Int→Int
 |[],_=> -1
 |x::l,i=>if(x.text==s)=true then i else Hj s l (i+1)
theorem a3D{s:List UInt8}:∀ {l:List Nd} {i:Int},0≤i→(Hj s l i≥0↔DU l s=true)
 |[],i,h=>by simp [Hj,DU]
 |x::l,i,h=>by
  rw[Hj,DU,List.any_cons]
  by_cases e:(x.text==s)=true
  ·simp [e,h]
  ·rw[if_neg e,a3D (by omega)]
   rw[Bool.not_eq_true] at e
   rw[e,Bool.false_or];rfl
def inI(x:List Nd×List UInt8)(i:Int):Prop:=(0≤i∧i≤x.1.length)∧Hj x.2 (x.1.drop i.toNat) i=Hj x.2 x.1 0
theorem b6C{x:List Nd×List UInt8}:inI x 0:=⟨by omega,by simp⟩
theorem b6D{x:List Nd×List UInt8}{i:Int}{e:Nd}(h:inI x i)(he:x.1[i.toNat]? =some e)(hq:(e.text==x.2)=true):i=Hj x.2 x.1 0:=by
 rw[←h.2,Ia he,Hj,if_pos hq]
theorem b6E{x:List Nd×List UInt8}{i:Int}{e:Nd}(h:inI x i)(he:x.1[i.toNat]? =some e)(hq:(e.text==x.2)=false):inI x (i+1):=by
 have hl:=(List.getElem?_eq_some_iff.1 he).1
 refine⟨by have:=h.1;omega,?_⟩
 rw[←h.2,Ia he,Hj,if_neg (by rw[hq];simp),Dv h.1.1]
theorem b6F{x:List Nd×List UInt8}{i:Int}(h:inI x i)(hl:¬i<(x.1.length:Int)): -1=Hj x.2 x.1 0:=by
 rw[←h.2,List.drop_eq_nil_of_le (by omega)];rfl
def Nq:Sig:= {X:=Nd×List UInt8,args:=fun x=>[.agg (ndA false x.1),.pf [.str x.2]],pre:=fun x=>True,Y:=Unit,post:=fun x y=>True,res:=fun x y=> .bool (x.1.text==x.2),outs:=fun x y=>[.top,.top],keep:=false}
theorem b6G:Am G Tryz.prog 83 Nq:=
 vcFun_okP [] [] false (fun x=>[]) Tryz.func83 rfl (by decide) trivial (fun(x:Nd×List UInt8)=>(∀(y:Unit),True→True∧True∧True∧True)∧rA Nq x [.bool (x.1.text==x.2),.top,.top]) (fun x=>by kernel_rfl) fun(x:Nd×List UInt8) (hx:True)=>(by
 dsimp only[Bn,rA,Nq,Au,Ax]
 (repeat' first|(with_reducible first|rfl|exact True.intro|apply AJ|apply And.intro|((first|apply Az|apply AH|apply AA|apply AI)<;>intro _))|(apply Av<;>intro _)|apply AG|refine Af () ?_ ?_|((first|apply AO|apply AN|apply AM|apply AL|apply AF|apply AE|apply AD|apply AC|apply AB)<;>try dsimp only)|apply Af|(refine Prod.forall.2 ?_;intro _;try dsimp only)|(intro _;try dsimp only)))
def Ly:Sig:= {X:=List Nd×List UInt8,args:=fun x=>[nds x.1,PE x.2],pre:=fun x=>x.1.length<2^62,Y:=Unit,post:=fun x y=>True,res:=fun x y=> .int .i64 (Hj x.2 x.1 0),outs:=fun x y=>[.top,.top],keep:=false}
def Sp(x:List Nd×List UInt8):LS:= {ι:=Int,inv:=fun i=>inI x i,regs:=fun i=>[(0,nds x.1),(1,PE x.2),(7,.int .i64 x.1.length),(8,.int .i64 i)],als:=[],meas:=fun i=>x.1.length-i.toNat}
theorem b6H:Am G Tryz.prog 120 Ly:=
 vcFun_okP [(83,0,Nq)] [] false (fun x=>[(2,Sp x)]) Tryz.func120 rfl (by decide) ⟨b6G,trivial⟩ (fun(x:List Nd×List UInt8)=>(∀(y:Unit),True→True∧True∧True∧True)∧eA (Sp x) [nds x.1,AV.clo (.func 83) [AV.pf [.str x.2]],.int .i64 (↑(List.length x.1):Int),.int .i64 (0:Int)]∧∀(i:Int),inI x i→Aa (decide (i<(↑(List.length x.1):Int))) (((0:Int)≤i∧i<(↑(List.length x.1):Int))∧∀(e:Nd),x.1[Int.toNat i]? =some e→cA Nq [.agg [.int .i64 e.kind,.str e.text,Aq e.kids,.bool e.blank],AV.pf [.str x.2]] fun x_1 y=>Aa (x_1.1.text==x_1.2) (rA Ly x [.int .i64 i,.top,.top]) (inR IntKind.i64 (i+(1:Int))∧eN (Sp x) i [nds x.1,AV.clo (.func 83) [AV.pf [.str x.2]],.int .i64 (↑(List.length x.1):Int),.int .i64 (i+(1:Int))])) (rA Ly x [.int .i64 (-1:Int),.top,.top])) (fun x=>by kernel_rfl) fun(x:List Nd×List UInt8) (hx:x.1.length<2^62)=>(by
 dsimp only[cA,PE,eA,eN,Sp,Aq,Bn,nds,rA,Nq,Ly,Au,Ax,mvL,lnL,mvE,lnE,Bm]
 have hx:x.1.length<2^62:=hx
 (repeat' first|(with_reducible first|rfl|exact True.intro|apply AJ|apply And.intro|((first|apply Az|apply AH|apply AA|apply AI)<;>intro _))|(apply Av<;>intro _)|apply AG|refine Af () ?_ ?_|((first|apply AO|apply AN|apply AM|apply AL|apply AF|apply AE|apply AD|apply AC|apply AB)<;>try dsimp only)|apply Af|(refine Prod.forall.2 ?_;intro _;try dsimp only)|(intro _;try dsimp only))
 all_goals first
  |rfl
  |exact b6C
  |exact b6D ‹_› ‹_› (beq_iff_eq.2 ‹_›)
  |exact b6E ‹_› ‹_› (beq_eq_false_iff_ne.2 ‹_›)
  |exact b6F ‹_› ‹_›
  |(have hq:=(show inI _ _ by assumption).1;(try simp only[AR]);omega)
  |skip)
def Sq:Sig:= {X:=List Nd×List UInt8,args:=fun x=>[nds x.1,PE x.2],pre:=fun x=>x.1.length<2^62,Y:=Unit,post:=fun x y=>True,res:=fun x y=> .bool (DU x.1 x.2),outs:=fun x y=>[.top,.top],keep:=false}
theorem b6I:Am G Tryz.prog 82 Sq:=
 vcFun_okP [(120,83+1,Ly)] [] false (fun x=>[]) Tryz.func82 rfl (by decide) ⟨b6H,trivial⟩ (fun(x:List Nd×List UInt8)=>(∀(y:Unit),True→True∧True∧True∧True)∧cA Ly [nds x.1,AV.clo (.func 83) [AV.pf [.str x.2]]] fun x_1 y=>rA Sq x [.bool (decide (Hj x_1.2 x_1.1 (0:Int)≥(0:Int))),.top,.top]) (fun x=>by kernel_rfl) fun(x:List Nd×List UInt8) (hx:x.1.length<2^62)=>(by
 dsimp only[cA,PE,Bn,nds,rA,Sq,Ly,Au,Ax,mvL,lnL,mvE,lnE]
 have hx:x.1.length<2^62:=hx
 (repeat' first|(with_reducible first|rfl|exact True.intro|apply AJ|apply And.intro|((first|apply Az|apply AH|apply AA|apply AI)<;>intro _))|(apply Av<;>intro _)|apply AG|refine Af () ?_ ?_|((first|apply AO|apply AN|apply AM|apply AL|apply AF|apply AE|apply AD|apply AC|apply AB)<;>try dsimp only)|apply Af|(refine Prod.forall.2 ?_;intro _;try dsimp only)|(intro _;try dsimp only))
 all_goals first
  |exact hx
  |(rw[Bool.eq_iff_iff,decide_eq_true_iff];exact a3D (by omega))
  |skip)
def Nr:Sig:= {X:=List Nd×List UInt8,args:=fun x=>[.str x.2,.pf [nds x.1]],pre:=fun x=>x.1.length<2^62,Y:=Unit,post:=fun x y=>True,res:=fun x y=> .bool (DU x.1 x.2),outs:=fun x y=>[.top,.top],keep:=false}
theorem b6J:Am G Tryz.prog 81 Nr:=
 vcFun_okP [(82,83+1,Sq)] [] false (fun x=>[]) Tryz.func81 rfl (by decide) ⟨b6I,trivial⟩ (fun(x:List Nd×List UInt8)=>(∀(y:Unit),True→True∧True∧True∧True)∧∃(x_1:List Nd×List UInt8),List.length x_1.1<(4611686018427387904:Nat)∧nds x.1=nds x_1.1∧AV.pf [.str x.2]=AV.pf [.str x_1.2]∧∀(y:Unit),True→rA Nr x [.bool (DU x_1.1 x_1.2),.top,.top]) (fun x=>by kernel_rfl) fun(x:List Nd×List UInt8) (hx:x.1.length<2^62)=>(by
 dsimp only[Bn,nds,rA,Nr,Au,Ax]
 have hx:x.1.length<2^62:=hx
 (repeat' first|(with_reducible first|rfl|exact True.intro|apply AJ|apply And.intro|((first|apply Az|apply AH|apply AA|apply AI)<;>intro _))|(apply Av<;>intro _)|apply AG|refine Af () ?_ ?_|((first|apply AO|apply AN|apply AM|apply AL|apply AF|apply AE|apply AD|apply AC|apply AB)<;>try dsimp only)|apply Af|(refine Prod.forall.2 ?_;intro _;try dsimp only)|(intro _;try dsimp only))
 all_goals first
  |exact hx
  |skip)
def Wi(ns:List Nd):AV:= .clo (.func 81) [.pf [nds ns]]
def fiJ(x:List Nd×List UInt8)(n:Int)(s:List UInt8):Prop:=(x.1.length≤2^20∧fsI x.1 x.2 (n-1))∧s=Ev x.2 (n-1)
theorem b6K{x:List Nd×List UInt8}(h:x.1.length≤2^20)(h1:Cm x.2=true)(h2:¬(x.2.length:Int)>20):fiJ x 2 x.2:=⟨⟨h,a0W h1 (by omega)⟩,rfl⟩
theorem a3E{x:List Nd×List UInt8}{n:Int}{s:List UInt8}(h:fiJ x n s):((2≤n∧n≤x.1.length+2)∧x.1.length≤2^20)∧s.length≤29∧x.2.length≤20:=by
 have h1:=UR h.1.2;have h2:=h.1.2.1
 refine⟨⟨by omega,h.1.1⟩,?_,h2.1.2⟩
 rw[h.2];exact a1c h2.1.2 (by omega) (by have:=h.1.1;omega)
theorem a3F{x:List Nd×List UInt8}{n:Int}{s:List UInt8}(h:fiJ x n s)(hh:DU x.1 s=true):fiJ x (n+1) (x.2++Ee n):=by
 have hp:=UR h.1.2;have h2:=h.1.2.1
 rw[h.2] at hh
 have:=a0Y h.1.2 hp hh
 rw[show n-1+1=n+1-1 by omega] at this
 exact⟨⟨h.1.1,this⟩,by rw[Ev,if_neg (by omega),show n+1-1=n by omega]⟩
theorem b6L{x:List Nd×List UInt8}{n:Int}{s:List UInt8}(h:fiJ x n s)(hh:DU x.1 s=false):s=Ew x.1 x.2:=by
 have hp:=UR h.1.2
 rw[h.2] at hh ⊢
 exact a0X h.1.2 hp hh
theorem a3G{n:Int}{b:List UInt8}(hb:b.length≤20)(h0:0≤n)(h1:n≤999999999):((b.length+(Ee n).length:Nat):Int)≤IntKind.i64.max:=by have:=a0L h0 h1;simp only[AR];omega
theorem b6M{x:List Nd×List UInt8}{n:Int}{s:List UInt8}(h:fiJ x n s)(hh:DU x.1 s=true):n≤x.1.length+1:=by
 have:=a3E (a3F h hh);omega
theorem a3H{x:List Nd×List UInt8}(h:Cm x.2=false):([]:List UInt8)=Ew x.1 x.2:=a0Z (by rw[h];simp)
theorem a3I{x:List Nd×List UInt8}(h:(x.2.length:Int)>20):([]:List UInt8)=Ew x.1 x.2:=a0Z (by omega)
def fqI(x:List Nd×List UInt8)(n:Int):Prop:=x.1.length≤2^20∧fsI x.1 x.2 n
def fqJ(x:List Nd×List UInt8)(n i:Int)(s:List UInt8)(b:Bool):Prop:=((fqI x n∧n≤x.1.length+1)∧0≤i∧i≤x.1.length)∧s=Ev x.2 n∧b=DU (x.1.take i.toNat) s
theorem b6N{x:List Nd×List UInt8}(h:x.1.length≤2^20)(h1:Cm x.2=true)(h2:¬(x.2.length:Int)>20):fqI x 1:=⟨h,a0W h1 (by omega)⟩
theorem Sr{x:List Nd×List UInt8}{n:Int}(h:fqI x n):((1≤n∧n≤x.1.length+2)∧x.1.length≤2^20)∧x.2.length≤20:=by
 have h2:=h.2.1
 exact⟨⟨by omega,h.1⟩,h2.1.2⟩
theorem b6O{x:List Nd×List UInt8}{n i:Int}{s:List UInt8}{b:Bool}(h:fqJ x n i s b):(((1≤n∧n≤x.1.length+1)∧x.1.length≤2^20)∧0≤i∧i≤x.1.length)∧s.length≤29:=by
 have h1:=Sr h.1.1.1
 refine⟨⟨⟨by have:=h.1.1.2;omega,h1.1.2⟩,h.1.2⟩,?_⟩
 rw[h.2.1];exact a1c h1.2 (by omega) (by omega)
theorem b6P{x:List Nd×List UInt8}{n:Int}(h:fqI x n)(hn:n≤(x.1.length:Int)+1)(h1:¬n>1):fqJ x n 0 x.2 false:=by
 have:=Sr h
 exact⟨⟨⟨h,hn⟩,by omega,by omega⟩,by rw[Ev,if_pos (by omega)],by simp [DU]⟩
theorem b6Q{x:List Nd×List UInt8}{n:Int}(h:fqI x n)(hn:n≤(x.1.length:Int)+1)(h1:n>1):fqJ x n 0 (x.2++Ee n) false:=by
 have:=Sr h
 exact⟨⟨⟨h,hn⟩,by omega,by omega⟩,by rw[Ev,if_neg (by omega)],by simp [DU]⟩
theorem a3J{x:List Nd×List UInt8}{n i:Int}{s:List UInt8}{b b2:Bool}{e:Nd}(h:fqJ x n i s b)(he:x.1[i.toNat]? =some e)(hb:b2=(b||e.text==s)):fqJ x n (i+1) s b2:=by
 have hl:=(List.getElem?_eq_some_iff.1 he).1
 obtain⟨⟨h1,h2⟩,h3,h4⟩:=h
 refine⟨⟨h1,by omega,by omega⟩,h3,?_⟩
 rw[show(i+1).toNat=i.toNat+1 by omega,List.take_add_one,he,hb,h4];simp [DU]
theorem b6R{x:List Nd×List UInt8}{n i:Int}{s:List UInt8}{b:Bool}(h:fqJ x n i s b)(hl:i<(x.1.length:Int))(hb:b=true):fqJ x n (i+1) s true:=by
 have hlt:i.toNat<x.1.length:=by have:=h.1.2;omega
 exact a3J h (List.getElem?_eq_getElem hlt) (by rw[hb];rfl)
theorem b6S{x:List Nd×List UInt8}{n i:Int}{s:List UInt8}{b:Bool}(h:fqJ x n i s b)(hl:¬i<(x.1.length:Int))(hb:b=true):fqI x (n+1):=by
 obtain⟨⟨h1,h2⟩,h3,h4⟩:=h
 rw[List.take_of_length_le (by omega),hb,h3] at h4
 exact⟨h1.1.1,a0Y h1.1.2 h1.2 h4.symm⟩
theorem b6T{x:List Nd×List UInt8}{n i:Int}{s:List UInt8}{b:Bool}(h:fqJ x n i s b)(hl:¬i<(x.1.length:Int))(hb:b=false):s=Ew x.1 x.2:=by
 obtain⟨⟨h1,h2⟩,h3,h4⟩:=h
 rw[List.take_of_length_le (by omega),hb,h3] at h4
 rw[h3];exact a0X h1.1.2 h1.2 h4.symm
theorem b6U{x:List Nd×List UInt8}{n:Int}(h:fqI x n)(hl:¬n≤(x.1.length:Int)+1):([]:List UInt8)=Ew x.1 x.2:=a9S h.2 hl
def fkK(x:List Nd×List UInt8)(n:Int×Unit):LS:= {
 ι:=Int×List UInt8×Bool,inv:=fun j=>fqJ x n.1 j.1 j.2.1 j.2.2,
 regs:=fun j=>[(0,nds x.1),(1,.str x.2),(5,.int .i64 n.1),(6,.str j.2.1),(7,.bool j.2.2),(8,.int .i64 j.1)],als:=[],meas:=fun j=>x.1.length-j.1.toNat}
def fkL(x:List Nd×List UInt8):LS:= {
 ι:=Int×Unit,inv:=fun i=>fqI x i.1,regs:=fun i=>[(0,nds x.1),(1,.str x.2),(5,.int .i64 i.1)],als:=[],meas:=fun i=>x.1.length+3-i.1.toNat,sub:=fun i=>[(11,fkK x i)]}
attribute [local irreducible] fiJ Ew Ev DU fsI
def Kf:Sig:= {X:=List Nd×List UInt8,args:=fun x=>[nds x.1,.str x.2],pre:=fun x=>x.1.length≤2^20∧x.2.length<2^62,Y:=Unit,post:=fun x y=>True,res:=fun x y=> .str (Ew x.1 x.2),outs:=fun x y=>[.top,.top],keep:=false}
def Wj(x:List Nd×List UInt8):LS:= {ι:=Int×List UInt8,inv:=fun i=>fiJ x i.1 i.2,regs:=fun i=>[(1,.str x.2),(5,Wi x.1),(6,.str i.2),(7,.int .i64 i.1)],als:=[],meas:=fun i=>x.1.length+3-i.1.toNat}
theorem b6V(hT:PD G):Am G Tryz.prog 27 Kf:=
 vcFun_okP [(80,0,Eu),(81,0,Nr),(84,0,Np)] [] false (fun x=>[(6,Wj x)]) Tryz.func27 rfl (by decide) ⟨Ut,b6J,(b6B hT),trivial⟩ (fun(x:List Nd×List UInt8)=>(∀(y:Unit),True→True∧True∧True∧True)∧cA Eu [.str x.2] fun x_1 y=>Aa (!Cm x_1) (rA Kf x [.str #[].toList,.top,.top]) (Aa (decide ((↑(List.length x.2):Int)>(20:Int))) (rA Kf x [.str #[].toList,.top,.top]) ((∃(i:Int×List UInt8),fiJ x i.1 i.2∧(x.2=x.2∧AV.pf [AV.sl false (0:Nat) (4:Nat) Nd (fun(x:Nd)=>fzL._f [.int .i64 x.kind,.str x.text,Aq x.kids,.bool x.blank] ⟨AV.rec (fun(k:IntKind) (n:Int)=>⟨fz._f (AV.int k n) PUnit.unit,PUnit.unit⟩) (fun(b:Bool)=>⟨fz._f (.bool b) PUnit.unit,PUnit.unit⟩) (fun(l:List UInt8)=>⟨fz._f (.str l) PUnit.unit,PUnit.unit⟩) (fun(v:Value)=>⟨fz._f (.val v) PUnit.unit,PUnit.unit⟩) ⟨fz._f AV.any PUnit.unit,PUnit.unit⟩ ⟨fz._f .top PUnit.unit,PUnit.unit⟩ ⟨fz._f .nil PUnit.unit,PUnit.unit⟩ (fun(id:Nat)=>⟨fz._f (AV.hole id) PUnit.unit,PUnit.unit⟩) (fun(id:Nat)=>⟨fz._f (AV.al id) PUnit.unit,PUnit.unit⟩) (fun(id k sz off:Nat)=>⟨fz._f (AV.po id k sz off) PUnit.unit,PUnit.unit⟩) (fun(fs:List AV) (fs_ih:List AV×' AV.below_1 fs)=>⟨fz._f (.agg fs) fs_ih,fs_ih⟩) (fun(vs:List AV) (vs_ih:List AV×' AV.below_1 vs)=>⟨fz._f (.tup vs) vs_ih,vs_ih⟩) (fun(id:Nat) (c:List AV) (c_ih:List AV×' AV.below_1 c)=>⟨fz._f (.box id c) c_ih,c_ih⟩) (fun(x:Value) (c:List AV) (c_ih:List AV×' AV.below_1 c)=>⟨fz._f (AV.bv x c) c_ih,c_ih⟩) (fun(x:Value)=>⟨fz._f (AV.hv x) PUnit.unit,PUnit.unit⟩) (fun(c:List AV) (c_ih:List AV×' AV.below_1 c)=>⟨fz._f (AV.pf c) c_ih,c_ih⟩) (fun(fn:Fn) (caps:List AV) (caps_ih:List AV×' AV.below_1 caps)=>⟨fz._f (AV.clo fn caps) caps_ih,caps_ih⟩) (fun(own:Bool) (id sz:Nat) (α:Type) (f:α→List AV) (xs:List α) (f_ih:(a:α)→List AV×' AV.below_1 (f a))=>⟨fz._f (AV.sl own id sz α f xs) f_ih,f_ih⟩) ⟨fzL._f [] PUnit.unit,PUnit.unit⟩ (fun(head:AV) (tail:List AV) (head_ih:AV×' AV.below head) (tail_ih:List AV×' AV.below_1 tail)=>⟨fzL._f (head::tail) ⟨head_ih,tail_ih⟩,head_ih,tail_ih⟩) (.int .i64 x.kind),AV.rec_1 (fun(k:IntKind) (n:Int)=>⟨fz._f (AV.int k n) PUnit.unit,PUnit.unit⟩) (fun(b:Bool)=>⟨fz._f (.bool b) PUnit.unit,PUnit.unit⟩) (fun(l:List UInt8)=>⟨fz._f (.str l) PUnit.unit,PUnit.unit⟩) (fun(v:Value)=>⟨fz._f (.val v) PUnit.unit,PUnit.unit⟩) ⟨fz._f AV.any PUnit.unit,PUnit.unit⟩ ⟨fz._f .top PUnit.unit,PUnit.unit⟩ ⟨fz._f .nil PUnit.unit,PUnit.unit⟩ (fun(id:Nat)=>⟨fz._f (AV.hole id) PUnit.unit,PUnit.unit⟩) (fun(id:Nat)=>⟨fz._f (AV.al id) PUnit.unit,PUnit.unit⟩) (fun(id k sz off:Nat)=>⟨fz._f (AV.po id k sz off) PUnit.unit,PUnit.unit⟩) (fun(fs:List AV) (fs_ih:List AV×' AV.below_1 fs)=>⟨fz._f (.agg fs) fs_ih,fs_ih⟩) (fun(vs:List AV) (vs_ih:List AV×' AV.below_1 vs)=>⟨fz._f (.tup vs) vs_ih,vs_ih⟩) (fun(id:Nat) (c:List AV) (c_ih:List AV×' AV.below_1 c)=>⟨fz._f (.box id c) c_ih,c_ih⟩) (fun(x:Value) (c:List AV) (c_ih:List AV×' AV.below_1 c)=>⟨fz._f (AV.bv x c) c_ih,c_ih⟩) (fun(x:Value)=>⟨fz._f (AV.hv x) PUnit.unit,PUnit.unit⟩) (fun(c:List AV) (c_ih:List AV×' AV.below_1 c)=>⟨fz._f (AV.pf c) c_ih,c_ih⟩) (fun(fn:Fn) (caps:List AV) (caps_ih:List AV×' AV.below_1 caps)=>⟨fz._f (AV.clo fn caps) caps_ih,caps_ih⟩) (fun(own:Bool) (id sz:Nat) (α:Type) (f:α→List AV) (xs:List α) (f_ih:(a:α)→List AV×' AV.below_1 (f a))=>⟨fz._f (AV.sl own id sz α f xs) f_ih,f_ih⟩) ⟨fzL._f [] PUnit.unit,PUnit.unit⟩ (fun(head:AV) (tail:List AV) (head_ih:AV×' AV.below head) (tail_ih:List AV×' AV.below_1 tail)=>⟨fzL._f (head::tail) ⟨head_ih,tail_ih⟩,head_ih,tail_ih⟩) [.str x.text,Aq x.kids,.bool x.blank]⟩) x.1]=AV.pf [nds x.1]∧x.2=i.2∧(2:Int)=i.1∧True)∧True)∧∀(i:Int×List UInt8),fiJ x i.1 i.2→cA Nr [.str i.2,AV.pf [nds x.1]] fun x_2 y=>Aa (DU x_2.1 x_2.2) (cA Np [.int .i64 i.1] fun x_3 y=>(↑(List.length x.2+List.length (Ee x_3)):Int)≤IntKind.max IntKind.i64∧inR IntKind.i64 (i.1+(1:Int))∧eN (Wj x) i [.str x.2,AV.clo (.func 81) [AV.pf [nds x.1]],.str (x.2++Ee x_3),.int .i64 (i.1+(1:Int))]) (rA Kf x [.str i.2,.top,.top])))) (fun x=>by kernel_rfl) fun(x:List Nd×List UInt8) (hx:x.1.length≤2^20∧x.2.length<2^62)=>(by
 dsimp only[cA,Wi,eN,Wj,Aq,Bn,nds,rA,Nr,Np,Kf,Eu,Au,Ax,mvL,lnL,mvE,lnE,Bm]
 obtain⟨h1,h2⟩:=hx
 (repeat' first|(with_reducible first|rfl|exact True.intro|apply AJ|apply And.intro|((first|apply Az|apply AH|apply AA|apply AI)<;>intro _))|(apply Av<;>intro _)|apply AG|refine Af () ?_ ?_|((first|apply AO|apply AN|apply AM|apply AL|apply AF|apply AE|apply AD|apply AC|apply AB)<;>try dsimp only)|apply Af|(refine Prod.forall.2 ?_;intro _;try dsimp only)|(intro _;try dsimp only))
 all_goals(try(have hB:=a3E (show fiJ _ _ _ by assumption)))
 all_goals first
  |rfl
  |omega
  |exact a3H ‹_›
  |exact a3I ‹_›
  |exact b6K h1 ‹_› ‹_›
  |exact a3F ‹_› ‹_›
  |exact b6L ‹_› ‹_›
  |(have hm:=b6M ‹_› ‹_›;(try simp only[AR]);omega)
  |((try simp only[AR,List.length_append]);omega)
  |exact a3G (by omega) (by omega) (by omega)
  |skip)
attribute [local irreducible] fqI fqJ
def Iz:Sig:= {X:=List Nd×List UInt8,args:=fun x=>[nds x.1,.str x.2],pre:=fun x=>x.1.length≤2^20∧x.2.length<2^62,Y:=Unit,post:=fun x y=>True,res:=fun x y=> .str (Ew x.1 x.2),outs:=fun x y=>[.top,.top],keep:=false}
theorem b6W:Am G Tryz.prog 45 Iz:=
 vcFun_okP [(92,0,DE),(96,0,Lc)] [] false (fun x=>[(4,fkL x)]) Tryz.func45 rfl (by decide) ⟨Uu,a9K,trivial⟩ (fun(x:List Nd×List UInt8)=>(∀(y:Unit),True→True∧True∧True∧True)∧cA DE [.str x.2] fun x_1 y=>Aa (!Cm x_1) (rA Iz x [.str #[].toList,.top,.top]) (Aa (decide ((↑(List.length x.2):Int)>(20:Int))) (rA Iz x [.str #[].toList,.top,.top]) (eA (fkL x) [nds x.1,.str x.2,.int .i64 (1:Int)]∧∀(i:Int×Unit),fqI x i.1→inR IntKind.i64 ((↑(List.length x.1):Int)+(1:Int))∧Aa (decide (i.1≤(↑(List.length x.1):Int)+(1:Int))) (Aa (decide (i.1>(1:Int))) (cA Lc [.int .i64 i.1] fun x_2 y=>(↑(List.length x.2+List.length (Ee x_2)):Int)≤IntKind.max IntKind.i64∧eA (fkK x i) [nds x.1,.str x.2,.int .i64 i.1,.str (x.2++Ee x_2),.bool false,.int .i64 (0:Int)]∧∀(i_1:Int×List UInt8×Bool),fqJ x i.1 i_1.1 i_1.2.1 i_1.2.2→Aa (decide (i_1.1<(↑(List.length x.1):Int))) (Aa i_1.2.2 (inR IntKind.i64 (i_1.1+(1:Int))∧eN (fkK x i) i_1 [nds x.1,.str x.2,.int .i64 i.1,.str i_1.2.1,.bool true,.int .i64 (i_1.1+(1:Int))]) (((0:Int)≤i_1.1∧i_1.1<(↑(List.length x.1):Int))∧∀(e:Nd),x.1[Int.toNat i_1.1]? =some e→inR IntKind.i64 (i_1.1+(1:Int))∧eN (fkK x i) i_1 [nds x.1,.str x.2,.int .i64 i.1,.str i_1.2.1,.bool (e.text==i_1.2.1),.int .i64 (i_1.1+(1:Int))])) (Aa (!i_1.2.2) (rA Iz x [.str i_1.2.1,.top,.top]) (inR IntKind.i64 (i.1+(1:Int))∧eN (fkL x) i [nds x.1,.str x.2,.int .i64 (i.1+(1:Int))]))) (eA (fkK x i) [nds x.1,.str x.2,.int .i64 i.1,.str x.2,.bool false,.int .i64 (0:Int)]∧∀(i_1:Int×List UInt8×Bool),fqJ x i.1 i_1.1 i_1.2.1 i_1.2.2→Aa (decide (i_1.1<(↑(List.length x.1):Int))) (Aa i_1.2.2 (inR IntKind.i64 (i_1.1+(1:Int))∧eN (fkK x i) i_1 [nds x.1,.str x.2,.int .i64 i.1,.str i_1.2.1,.bool true,.int .i64 (i_1.1+(1:Int))]) (((0:Int)≤i_1.1∧i_1.1<(↑(List.length x.1):Int))∧∀(e:Nd),x.1[Int.toNat i_1.1]? =some e→inR IntKind.i64 (i_1.1+(1:Int))∧eN (fkK x i) i_1 [nds x.1,.str x.2,.int .i64 i.1,.str i_1.2.1,.bool (e.text==i_1.2.1),.int .i64 (i_1.1+(1:Int))])) (Aa (!i_1.2.2) (rA Iz x [.str i_1.2.1,.top,.top]) (inR IntKind.i64 (i.1+(1:Int))∧eN (fkL x) i [nds x.1,.str x.2,.int .i64 (i.1+(1:Int))])))) (rA Iz x [.str #[].toList,.top,.top])))) (fun x=>by kernel_rfl) fun(x:List Nd×List UInt8) (hx:x.1.length≤2^20∧x.2.length<2^62)=>(by
 dsimp only[cA,eA,eN,fkK,fkL,Bn,nds,rA,DE,Lc,Iz,Au,Ax,mvL,lnL,mvE,lnE,Bm]
 obtain⟨h1,h2⟩:=hx
 (repeat' first|(with_reducible first|rfl|exact True.intro|apply AJ|apply And.intro|((first|apply Az|apply AH|apply AA|apply AI)<;>intro _))|(apply Av<;>intro _)|apply AG|refine Af () ?_ ?_|((first|apply AO|apply AN|apply AM|apply AL|apply AF|apply AE|apply AD|apply AC|apply AB)<;>try dsimp only)|apply Af|(refine Prod.forall.2 ?_;intro _;try dsimp only)|(intro _;try dsimp only))
 all_goals(try(have hB:=Sr (show fqI _ _ by assumption)))
 all_goals(try(have hC:=b6O (show fqJ _ _ _ _ _ by assumption)))
 all_goals first
  |rfl
  |omega
  |exact()
  |exact a3H ‹_›
  |exact a3I ‹_›
  |exact b6N h1 ‹_› ‹_›
  |exact b6P ‹_› ‹_› ‹_›
  |exact b6Q ‹_› ‹_› ‹_›
  |exact b6R ‹_› ‹_› ‹_›
  |exact b6S ‹_› ‹_› ‹_›
  |exact b6T ‹_› ‹_› ‹_›
  |exact b6U ‹_› ‹_›
  |(refine a3J ‹_› ‹_› ?_;rename _=false=>hz;rw[hz,Bool.false_or])
  |((try simp only[AR,List.length_append]);omega)
  |exact a3G (by omega) (by omega) (by omega)
  |skip)
end Go.My
end
section
set_option linter.unusedVariables false
set_option linter.unusedSimpArgs false
namespace Go.My
open Go.Eng Go.Proofs
variable {G:GInv}
def eqF{α:Type}(p:α→α→Bool):List α→List α→Bool
 |[],[]=>true
 |x::a,y::b=>p x y&&eqF p a b
 |_,_=>false
def eqW{α:Type}(p:α→α→Bool)(a b:List α)(i:Int):Prop:=((0≤i∧i≤a.length)∧a.length=b.length)∧eqF p a b=eqF p (a.drop i.toNat) (b.drop i.toNat)
attribute [local irreducible] eqW
end Go.My
end
section
set_option linter.unusedVariables false
set_option linter.unusedSimpArgs false
namespace Go.My
open Go.Eng Go.Proofs
variable {G:GInv}
def Ns:Sig:= {X:=List UInt8,args:=fun x=>[.sl false 0 1 UInt8 byA x],pre:=fun x=>True,Y:=Unit,post:=fun x y=>True,res:=fun x y=> .bool (decide ((x.length:Int)>1048576)),outs:=fun x y=>[.top],keep:=false}
theorem b6X:Am G Tryz.prog 6 Ns:=
 vcFun_okP [] [] false (fun x=>[]) Tryz.func6 rfl (by decide) trivial (fun(x:List UInt8)=>(∀(y:Unit),True→True∧True∧True)∧rA Ns x [.bool (decide ((↑(List.length x):Int)>(1048576:Int))),.top]) (fun x=>by kernel_rfl) fun(x:List UInt8) (hx:True)=>(by
 dsimp only[CZ,rA,Ns,Au,Ax]
 (repeat' first|(with_reducible first|rfl|exact True.intro|apply AJ|apply And.intro|((first|apply Az|apply AH|apply AA|apply AI)<;>intro _))|(apply Av<;>intro _)|apply AG|refine Af () ?_ ?_|((first|apply AO|apply AN|apply AM|apply AL|apply AF|apply AE|apply AD|apply AC|apply AB)<;>try dsimp only)|apply Af|(refine Prod.forall.2 ?_;intro _;try dsimp only)|(intro _;try dsimp only))<;>(try dsimp only at*)<;>(try simp only[AR,List.length_cons,List.length_nil])<;>(try omega))
end Go.My
end
