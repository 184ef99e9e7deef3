/- A part of the proof: the engine and the contracts, joined. -/
import Derived.Test.YtplklcfglbkfhaaGreatDoorQM
import Derived.Shelf.Strconv.Itoa0
import Derived.Shelf.Strconv.Itoa1
import Derived.Shelf.LaysM
import Derived.Shelf.Strconv.Itoa2
import Derived.Shelf.Strconv.Itoa3
import Derived.Test.YtplklcfglbkfhaaGreatDoorProg
section
set_option linter.unusedVariables false
set_option linter.unusedSimpArgs false
namespace Go.My
open Go.Eng Go.Proofs
variable {G:GInv}
def Le:Sig:= {X:=List UInt8,args:=fun x=>[.sl false 0 1 UInt8 byA x],pre:=fun x=>x.length≤2^21,Y:=Int,post:=fun x y=>True,res:=fun x y=> .box 0 (cur x 0 y),outs:=fun x y=>[.top],keep:=true}
def RM(x:List UInt8):LS:= {ι:=Int×Int,inv:=fun i=>(0≤i.1∧i.1≤x.length)∧0≤i.2∧i.2≤2^31,regs:=fun i=>[(0,.sl false 0 1 UInt8 byA x),(3,.int .i64 i.2),(4,.int .i64 i.1)],als:=[],meas:=fun i=>x.length-i.1.toNat}
theorem a2L:Al G Tryz.prog 49 Le:=
 vcFun_okP [] [] false (fun x=>[(3,RM x)]) Tryz.func49 rfl (by decide) trivial (fun(x:List UInt8)=>True∧inR IntKind.i64 ((78601:Int)+(↑(List.length x):Int))∧eA (RM x) [byL x,.int .i64 ((78601:Int)+(↑(List.length x):Int)),.int .i64 (0:Int)]∧∀(i:Int×Int),((0:Int)≤i.1∧i.1≤(↑(List.length x):Int))∧(0:Int)≤i.2∧i.2≤(2:Int)^(31:Nat)→Aa (decide (i.1<(↑(List.length x):Int))) (Aa (decide (i.1<(4000:Int))) (inR IntKind.i64 (i.2*(131:Int))∧((0:Int)≤i.1∧i.1<(↑(List.length x):Int))∧∀(e:UInt8),x[Int.toNat i.1]? =some e→inR IntKind.i64 (↑(UInt8.toNat e):Int)∧inR IntKind.i64 (i.2*(131:Int)+(↑(UInt8.toNat e):Int))∧inR IntKind.i64 (i.2*(131:Int)+(↑(UInt8.toNat e):Int)+(7:Int))∧inR IntKind.i64 (i.1+(1:Int))∧eN (RM x) i [byL x,.int .i64 (Du BinOp.and IntKind.i64 (i.2*(131:Int)+(↑(UInt8.toNat e):Int)+(7:Int)) (1073741823:Int)),.int .i64 (i.1+(1:Int))]) (rA Le x [.box 0 (cur x (0:Int) i.2),.top])) (rA Le x [.box 0 (cur x (0:Int) i.2),.top])) (fun x=>by kernel_rfl) fun(x:List UInt8) (hx:x.length≤2^21)=>(by
 dsimp only[Eb,byL,cur,eA,eN,RM,rA,Le,Av,AA,Bi]
 have hx:x.length≤2^21:=hx
 (repeat' first|(with_reducible first|rfl|exact True.intro|apply AL|apply And.intro|((first|apply AB|apply AJ|apply AC|apply AK)<;>intro _))|(apply Az<;>intro _)|apply AI|refine Ag () ?_ ?_|((first|apply AP|apply AO|apply AN|apply AM|apply AH|apply AG|apply AF|apply AE|apply AD)<;>try dsimp only)|apply Ag|(refine Prod.forall.2 ?_;intro _;try dsimp only)|(intro _;try dsimp only))
 all_goals first
  |rfl
  |omega
  |(have hq:=UInt8.toNat_lt ‹_›;omega)
  |(have hq:=Uw (_:Int);exact hq.1)
  |exact(Uw _).1
  |exact Int.le_trans (Uw _).2 (by decide)
  |skip)
theorem b5Q{G:GInv}{P:Program}{f:FuncId}{S:Sig}{c:S.X→S.Y→List AV}(h:Al G P f S)(hr:S.res=fun x y=> .box 0 (c x y))(hk:S.keep=true):
 Al G P f {X:=S.X,args:=S.args,pre:=S.pre,Y:=S.Y×Value,post:=fun x y=>S.post x y.1,res:=fun x y=> .bv y.2 (c x y.1),outs:=fun x y=>S.outs x y.1,keep:=true,fixed:=S.fixed,caps:=S.caps}:=by
 obtain⟨⟨h1,_⟩,h2⟩:=h
 refine⟨⟨h1,fun x y _ _=>trivial⟩,fun x hx Z w vals A hG ha hA hc=>(h2 x hx Z w vals A hG ha hA hc).mono ?_⟩
 rintro e w' ⟨y,v,Z',A',hp,he,hrel,haf⟩
 refine⟨(y,v),v,Z',A',hp,he,?_,haf⟩
 rw[hr] at hrel
 simp only[AX,Aj] at hrel ⊢
 obtain⟨v',cs',A1,B1,e1,hj,⟨b,arr,ty,S1,e2,hb,hc1,hj1⟩,hrest⟩:=hrel
 simp only[List.cons.injEq] at e1
 obtain⟨rfl,rfl⟩:=e1
 exact⟨_,_,A1,B1,rfl,hj,⟨rfl,b,arr,ty,S1,e2,hb,hc1,hj1⟩,hrest⟩
def RN:Sig:= {X:=List UInt8,args:=fun x=>[.sl false 0 1 UInt8 byA x],pre:=fun x=>x.length≤2^21,Y:=Int×Value,post:=fun x y=>True,res:=fun x y=> .bv y.2 (cur x 0 y.1),outs:=fun x y=>[.top],keep:=true}
theorem b5R:Al G Go.Proofs.Tryz.prog 49 RN:=b5Q (c:=fun x y=>cur x 0 y) a2L rfl rfl
theorem a2M{b:List UInt8}(h:b.length≤2^21):Af b 0:=⟨by omega,h⟩
def plO(o:List Int)(i:Int):Prop:=((0≤i∧i≤12)∧o.length=i)∧∀e∈o,0≤e∧e<10000
theorem b5S:plO [] 0:=⟨by simp,by simp⟩
theorem b5T{o:List Int}{i:Int}(h:plO o i):(0≤i∧i≤12)∧o.length≤12:=by have:=h.1;omega
theorem b5U{o:List Int}{i v:Int}(h:plO o i)(hi:i<12)(hv:0≤v∧v<10000):plO (o++[v]) (i+1):=by
 refine⟨⟨by have:=h.1;omega,by rw[List.length_append];have:=h.1.2;simp;omega⟩,fun e he=> ?_⟩
 rcases List.mem_append.1 he with he|he
 ·exact h.2 e he
 ·simp at he;subst he;exact hv
def MR:Sig:= {X:=List UInt8,args:=fun x=>[.sl false 0 1 UInt8 byA x],pre:=fun x=>x.length≤2^21,Y:=List Int×Unit,post:=fun x y=>y.1.length=12∧∀e∈y.1,0≤e∧e<10000,res:=fun x y=>Ae y.1,outs:=fun x y=>[.top],keep:=true}
def RO(x:List UInt8):LS:= {ι:=Int×Int×Int×List Int,inv:=fun i=>plO i.2.2.2 i.1∧Af x i.2.1,regs:=fun i=>[(3,.box 0 (cur x i.2.1 i.2.2.1)),(4,Ae i.2.2.2),(5,.int .i64 i.1)],als:=[],meas:=fun i=>12-i.1.toNat}
theorem b5V:Al G Tryz.prog 8 MR:=
 vcFun_okP [(49,0,Le),(50,0,FD),(51,0,De)] [(26,⟨Int,Bh⟩)] false (fun x=>[(5,RO x)]) Tryz.func8 rfl (by decide) ⟨a2L,a0y,Hv,trivial⟩ (fun(x:List UInt8)=>True∧cA Le [byL x] fun x_1 y=>cA FD [.box 0 (cur x_1 (0:Int) y)] fun x_2 y=>eA (RO x) [.box 0 (cur x_2.1 y.2.1 y.2.2),Ae [],.int .i64 (0:Int)]∧∀(i:Int×Int×Int×List Int),plO i.2.2.2 i.1∧Af x i.2.1→Aa (decide (i.1<(12:Int))) (cA De [.box 0 (cur x i.2.1 i.2.2.1),.int .i64 (10000:Int)] fun x_3 y=>∃(x_4:Int),y.1=x_4∧∃(zs:List Int),Ae [x_4]=Ae zs∧BG Bh∧Bb (List.length i.2.2.2+List.length zs) (8:Nat)∧inR IntKind.i64 (i.1+(1:Int))∧eN (RO x) i [.box 0 (cur x_3.1 y.2.1 y.2.2),Ae (i.2.2.2++zs),.int .i64 (i.1+(1:Int))]) (rA MR x [Ae i.2.2.2,.top])) (fun x=>by kernel_rfl) fun(x:List UInt8) (hx:x.length≤2^21)=>(by
 dsimp only[Eb,byL,cA,cur,eA,eN,RO,Ae,rA,De,FD,Le,MR,Av,AA,mvL,lnL,mvE,lnE,Bi]
 have hx:x.length≤2^21:=hx
 (repeat' first|(with_reducible first|rfl|exact True.intro|apply AL|apply And.intro|((first|apply AB|apply AJ|apply AC|apply AK)<;>intro _))|(apply Az<;>intro _)|apply AI|refine Ag () ?_ ?_|((first|apply AP|apply AO|apply AN|apply AM|apply AH|apply AG|apply AF|apply AE|apply AD)<;>try dsimp only)|apply Ag|(refine Prod.forall.2 ?_;intro _;try dsimp only)|(intro _;try dsimp only))
 all_goals first
  |rfl
  |exact hx
  |exact a2M hx
  |exact()
  |skip
 all_goals(try(have hb:=b5T (And.left (show plO _ _∧_ by assumption))))
 all_goals(repeat(rename _∧Af _ _=>hq;obtain⟨_,_⟩:=hq))
 all_goals first
  |exact b5S
  |(with_reducible assumption)
  |exact b5U ‹_› (by omega) (by omega)
  |((try simp only[AR,Bb,List.length_append,List.length_cons,List.length_nil]);omega)
  |exact(And.right (show plO _ _ by assumption) _ ‹_›).1
  |exact(And.right (show plO _ _ by assumption) _ ‹_›).2
  |(have hq:=(show plO _ _ by assumption).1;omega)
  |skip)
def spB(l:List Nd):Prop:=(1≤l.length∧l.length≤300)∧Bc l∧∀e∈l,e.kids.length≤13
theorem b5W{p q:Nd→Prop}(a:Int)(b:List UInt8)(c:List Int)(d:Bool)(h2:q ⟨a,b,c,d⟩)(h1:p ⟨a,b,c,d⟩):∃x,p x∧q x:=⟨_,h1,h2⟩
end Go.My
end
section
set_option linter.unusedVariables false
set_option linter.unusedSimpArgs false
namespace Go.My
open Go.Eng Go.Proofs
variable {G:GInv}
noncomputable def Lf:Sig:= {X:=List Int,args:=fun x=>[An x],pre:=fun x=>x.length≤2^40,Y:=Unit,post:=fun x y=>True,res:=fun x y=>Ae x,outs:=fun x y=>[.top],keep:=false}
theorem b5X:Al G Tryz.prog 122 Lf:=
 vcFun_okP [] [(26,⟨Int,Bh⟩)] false (fun x=>[]) Tryz.func122 rfl (by decide) trivial (fun(x:List Int)=>(∀(y:Unit),True→(∀(x:Int),True∧True)∧True∧True)∧∀(b:Bool),(b=true→x=[])→Aa b (rA Lf x [.nil,.top]) (∃(zs:List Int),An x=An zs∧BG Bh∧Bb ((0:Nat)+List.length zs) (8:Nat)∧rA Lf x [Ae ([]++zs),.top])) (fun x=>by kernel_rfl) fun(x:List Int) (hx:x.length≤2^40)=>(by
 dsimp only[An,Ae,rA,Lf,Av,AA]
 have hx:x.length≤2^40:=hx
 (repeat' first|(with_reducible first|rfl|exact True.intro|apply AL|apply And.intro|((first|apply AB|apply AJ|apply AC|apply AK)<;>intro _))|(apply Az<;>intro _)|apply AI|refine Ag () ?_ ?_|((first|apply AP|apply AO|apply AN|apply AM|apply AH|apply AG|apply AF|apply AE|apply AD)<;>try dsimp only)|apply Ag|(refine Prod.forall.2 ?_;intro _;try dsimp only)|(intro _;try dsimp only))
 all_goals first
  |rfl
  |(rename_i h0 hb;rw[h0 hb];done)
  |((try simp only[Bb,List.length_nil]);omega)
  |skip)
noncomputable def MS:Sig:= {X:=List Nd×Unit,args:=fun x=>[nds x.1],pre:=fun x=>(Bc x.1∧x.1.length≤2^30)∧∀e∈x.1,e.kids.length≤2^20,Y:=Unit,post:=fun x y=>True,res:=fun x y=>AY x.1,outs:=fun x y=>[.top],keep:=false}
noncomputable def RP (x:List Nd×Unit):LS:= {ι:=Int,inv:=fun i=>0≤i∧i≤x.1.length,regs:=fun i=>[(3,AY (x.1.take i.toNat)),(6,nds x.1),(7,.int .i64 x.1.length),(8,.int .i64 i)],als:=[],meas:=fun i=>x.1.length-i.toNat}
theorem b5Y:Al G Tryz.prog 85 MS:=
 vcFun_okP [(122,0,Lf)] [(24,⟨Nd,ndA true⟩)] false (fun x=>[(3,RP x)]) Tryz.func85 rfl (by decide) ⟨b5X,trivial⟩ (fun(x:List Nd×Unit)=>(∀(y:Unit),True→(∀(x:Nd),True∧True∧(∀(x:Int),True∧True)∧True∧True)∧True∧True)∧eA (RP x) [.nil,nds x.1,.int .i64 (↑(List.length x.1):Int),.int .i64 (0:Int)]∧∀(i:Int),(0:Int)≤i∧i≤(↑(List.length x.1):Int)→Aa (decide (i<(↑(List.length x.1):Int))) (((0:Int)≤i∧i<(↑(List.length x.1):Int))∧∀(e:Nd),x.1[Int.toNat i]? =some e→cA Lf [An e.kids] fun x_1 y=>∃(x_2:Nd),e.kind=x_2.kind∧e.text=x_2.text∧Ae x_1=Ae x_2.kids∧e.blank=x_2.blank∧∃(zs:List Nd),AY [x_2]=AY zs∧BG (ndA true)∧Bb (List.length (List.take (Int.toNat i) x.1)+List.length zs) (56:Nat)∧inR IntKind.i64 (i+(1:Int))∧eN (RP x) i [AY (List.take (Int.toNat i) x.1++zs),nds x.1,.int .i64 (↑(List.length x.1):Int),.int .i64 (i+(1:Int))]) (rA MS x [AY (List.take (Int.toNat i) x.1),.top])) (fun x=>by kernel_rfl) fun(x:List Nd×Unit) (hx:(Bc x.1∧x.1.length≤2^30)∧∀e∈x.1,e.kids.length≤2^20)=>(by
 dsimp only[cA,eA,eN,RP,An,Bt,nds,Ae,AY,rA,Lf,MS,Av,AA,mvL,lnL,mvE,lnE,Bi]
 obtain⟨x,_⟩:=x;dsimp only at hx ⊢
 obtain⟨⟨h1,h2⟩,h3⟩:=hx
 (repeat' first|(with_reducible first|rfl|exact True.intro|apply AL|apply And.intro|((first|apply AB|apply AJ|apply AC|apply AK)<;>intro _))|(apply Az<;>intro _)|apply AI|refine Ag () ?_ ?_|((first|apply AP|apply AO|apply AN|apply AM|apply AH|apply AG|apply AF|apply AE|apply AD)<;>try dsimp only)|apply Ag|(refine Prod.forall.2 ?_;intro _;try dsimp only)|(intro _;try dsimp only))
 all_goals first
  |rfl
  |omega
  |(have hk:=h3 _ (CZ (show x[Int.toNat _]? =some _ by assumption));omega)
  |(rw[Dv (And.left ‹_›),FV ‹_›];done)
  |exact List.take_of_length_le (by omega)
  |((try simp only[AR,Bb,List.length_take,List.length_cons,List.length_nil]);omega)
  |skip)
noncomputable def IZ:Sig:= {X:=Int×List UInt8×List UInt8,args:=fun x=>[.agg [.int .i64 x.1,.str x.2.1,.any,.any],.str x.2.2],pre:=fun x=>True,Y:=Unit,post:=fun x y=>True,res:=fun x y=> .bool (Cj x.1&&x.2.1==x.2.2),outs:=fun x y=>[.top,.top],keep:=false}
theorem b5Z:Al G Tryz.prog 86 IZ:=
 vcFun_okP [] [] false (fun x=>[]) Tryz.func86 rfl (by decide) trivial (fun(x:Int×List UInt8×List UInt8)=>(∀(y:Unit),True→True∧True∧True∧True)∧Aa (x.1==(1:Int)) (rA IZ x [.bool (x.2.1==x.2.2),.top,.top]) (Aa (x.1==(12:Int)) (rA IZ x [.bool (x.2.1==x.2.2),.top,.top]) (Aa (x.1==(13:Int)) (rA IZ x [.bool (x.2.1==x.2.2),.top,.top]) (rA IZ x [.bool false,.top,.top])))) (fun x=>by kernel_rfl) fun(x:Int×List UInt8×List UInt8) (hx:True)=>(by
 dsimp only[rA,IZ,Av,AA]
 (repeat' first|(with_reducible first|rfl|exact True.intro|apply AL|apply And.intro|((first|apply AB|apply AJ|apply AC|apply AK)<;>intro _))|(apply Az<;>intro _)|apply AI|refine Ag () ?_ ?_|((first|apply AP|apply AO|apply AN|apply AM|apply AH|apply AG|apply AF|apply AE|apply AD)<;>try dsimp only)|apply Ag|(refine Prod.forall.2 ?_;intro _;try dsimp only)|(intro _;try dsimp only))
 all_goals(try(simp [Cj, *];done)))
abbrev RnX:=List Nd×Int×List UInt8×List UInt8
noncomputable def CW (x:RnX):Bool:=(memL x.1).elem x.2.1&&(!decide (kindAt x.1 x.2.1=21)&&(!decide (BV x.1 x.2.1 x.2.2.1=0)&&(BK x.2.2.2&&decide (BV x.1 x.2.1 x.2.2.2=0))))
noncomputable def BZ (x:RnX):List Nd:=if CW x=true then rnF x.1 (undL x.1 x.2.1) x.2.2.1 x.2.2.2 else x.1
theorem a2N{x:RnX}(h:(memL x.1).elem x.2.1=false):false=CW x:=by rw[CW,h];rfl
theorem a2O{x:RnX}{e:Nd}(he:x.1[x.2.1.toNat]? =some e)(h:e.kind=21):false=CW x:=by rw[CW,kindAt,AZ he,decide_eq_true h];simp
theorem a2P{x:RnX}(h:BV x.1 x.2.1 x.2.2.1=0):false=CW x:=by rw[CW,decide_eq_true h];simp
theorem a2Q{x:RnX}(h:BK x.2.2.2=false):false=CW x:=by rw[CW,h];simp
theorem a2R{x:RnX}(h:¬BV x.1 x.2.1 x.2.2.2=0):false=CW x:=by rw[CW,decide_eq_false h];simp
theorem VA{x:RnX}{e:Nd}(h1:(memL x.1).elem x.2.1=true)(he:x.1[x.2.1.toNat]? =some e)(h2:¬e.kind=21)(h3:¬BV x.1 x.2.1 x.2.2.1=0)(h4:BK x.2.2.2=true)(h5:BV x.1 x.2.1 x.2.2.2=0):CW x=true:=by
 rw[CW,h1,kindAt,AZ he,decide_eq_false h2,decide_eq_false h3,h4,decide_eq_true h5];rfl
theorem OY{x:RnX}(h:false=CW x):x.1=BZ x:=by rw[BZ,←h];simp
theorem a2S{x:RnX}(h:(memL x.1).elem x.2.1=true):0≤x.2.1∧x.2.1<x.1.length:=QK (List.elem_iff.1 h)
def Gq(x:RnX)(i:Int)(o:List Nd):Prop:=((0≤i∧i≤(undL x.1 x.2.1).length)∧x.1.length≤2^30∧CW x=true)∧o=rnF x.1 ((undL x.1 x.2.1).take i.toNat) x.2.2.1 x.2.2.2
theorem b6a{x:RnX}(h:x.1.length≤2^30)(h2:CW x=true):Gq x 0 x.1:=⟨⟨by omega,h,h2⟩,by simp [a9J]⟩
theorem b6b{x:RnX}{i:Int}{o:List Nd}(h:Gq x i o):((0≤i∧i≤(undL x.1 x.2.1).length)∧(undL x.1 x.2.1).length≤2^30)∧o.length=x.1.length:=by
 have:= @Ix x.1 x.2.1
 exact⟨⟨h.1.1,by have:=h.1.2.1;omega⟩,by rw[h.2,QM]⟩
theorem a2T{x:RnX}{i c:Int}{o:List Nd}{y:Nd}(h:Gq x i o)(hc:(undL x.1 x.2.1)[i.toNat]? =some c)(hy:o[c.toNat]? =some y):x.1[c.toNat]? =some y:=by
 rw[h.2] at hy
 exact a9M h.1.1.1 hc (DY hc).1 a0t hy
theorem b6c{x:RnX}{i c:Int}{o:List Nd}{y z w:Nd}(h:Gq x i o)(hc:(undL x.1 x.2.1)[i.toNat]? =some c)(hy:o[c.toNat]? =some y)(hw:o[c.toNat]? =some w)(hm:(Cj y.kind&&y.text==x.2.2.1)=true)(hz:z= {w with text:=x.2.2.2}):Gq x (i+1) (o.set c.toNat z):=by
 have hl:=(List.getElem?_eq_some_iff.1 hc).1
 have hx:=a2T h hc hy
 rw[hy] at hw;cases hw
 obtain⟨⟨h1,h2⟩,h3⟩:=h
 exact⟨⟨by omega,h2⟩,by rw[h3];exact a9K h1.1 hc (DY hc).1 hx a0t hm hz⟩
theorem b6d{x:RnX}{i c:Int}{o:List Nd}{y:Nd}(h:Gq x i o)(hc:(undL x.1 x.2.1)[i.toNat]? =some c)(hy:o[c.toNat]? =some y)(hm:(Cj y.kind&&y.text==x.2.2.1)=false):Gq x (i+1) o:=by
 have hl:=(List.getElem?_eq_some_iff.1 hc).1
 have hx:=a2T h hc hy
 obtain⟨⟨h1,h2⟩,h3⟩:=h
 exact⟨⟨by omega,h2⟩,by rw[h3];exact a9L h1.1 hc (DY hc).1 hx hm⟩
theorem b6e{x:RnX}{i:Int}{o:List Nd}(h:Gq x i o)(hl:¬i<((undL x.1 x.2.1).length:Int)):o=BZ x:=by
 rw[h.2,List.take_of_length_le (by omega),BZ,if_pos h.1.2.2]
theorem b6f{x:RnX}{i:Int}{o:List Nd}(h:Gq x i o):true=CW x:=h.1.2.2.symm
theorem b6g{x:RnX}(h:x.1.length≤2^20):(memL x.1).length<2^62:=by have:= @a0i x.1;omega
attribute [local irreducible] undL memL Gq BV CW BZ
noncomputable def GY:Sig:= {X:=RnX,args:=fun x=>[nds x.1,.int .i64 x.2.1,.str x.2.2.1,.str x.2.2.2],pre:=fun x=>((Bc x.1∧x.1.length≤2^20)∧∀e∈x.1,e.kids.length≤2^20)∧x.2.2.2.length<2^62,Y:=Unit,post:=fun x y=>True,res:=fun x y=> .tup [AY (BZ x),.bool (CW x)],outs:=fun x y=>[.top,.top,.top,.top],keep:=false}
noncomputable def OZ (x:RnX):LS:= {ι:=Int×List Nd,inv:=fun i=>Gq x i.1 i.2,regs:=fun i=>[(2,.str x.2.2.1),(3,.str x.2.2.2),(10,AY i.2),(49,Ae (undL x.1 x.2.1)),(50,.int .i64 (undL x.1 x.2.1).length),(51,.int .i64 i.1)],als:=[],meas:=fun i=>(undL x.1 x.2.1).length-i.1.toNat}
theorem b6h:Al G Tryz.prog 28 GY:=
 vcFun_okP [(85,0,MS),(46,0,KL),(59,0,Iu),(29,0,Gc),(80,0,Eo),(31,0,Dt),(86,0,IZ)] [(24,⟨Nd,ndA true⟩),(26,⟨Int,Bh⟩)] false (fun x=>[(7,OZ x)]) Tryz.func28 rfl (by decide) ⟨b5Y,b0k,Ye,ZY,TX,Mk,b5Z,trivial⟩ (fun(x:RnX)=>(∀(y:Unit),True→((∀(x:Nd),True∧True∧(∀(x:Int),True∧True)∧True∧True)∧True∧True)∧True∧True∧True∧True∧True)∧cA MS [nds x.1] fun x_1 y=>cA KL [nds x.1] fun x_2 y=>cA Iu [Ae (memL x_2.1),.int .i64 x.2.1] fun x_3 y=>Aa (!List.elem x_3.2 x_3.1) (rA GY x [.tup [AY x_1.1,.bool false],.top,.top,.top,.top]) (((0:Int)≤x.2.1∧x.2.1<(↑(List.length x.1):Int))∧∀(e:Nd),x.1[Int.toNat x.2.1]? =some e→Aa (e.kind==(21:Int)) (rA GY x [.tup [AY x_1.1,.bool false],.top,.top,.top,.top]) (cA Gc [nds x.1,.int .i64 x.2.1,.str x.2.2.1] fun x_4 y=>Aa (BV x_4.1 x_4.2.1 x_4.2.2==(0:Int)) (rA GY x [.tup [AY x_1.1,.bool false],.top,.top,.top,.top]) (cA Eo [.str x.2.2.2] fun x_5 y=>Aa (!BK x_5) (rA GY x [.tup [AY x_1.1,.bool false],.top,.top,.top,.top]) (cA Gc [nds x.1,.int .i64 x.2.1,.str x.2.2.2] fun x_6 y=>Aa (BV x_6.1 x_6.2.1 x_6.2.2 != (0:Int)) (rA GY x [.tup [AY x_1.1,.bool false],.top,.top,.top,.top]) (cA Dt [nds x.1,.int .i64 x.2.1] fun x_7 y=>eA (OZ x) [.str x.2.2.1,.str x.2.2.2,AY x_1.1,Ae (undL x_7.1 x_7.2),.int .i64 (↑(List.length (undL x_7.1 x_7.2)):Int),.int .i64 (0:Int)]∧∀(i:Int×List Nd),Gq x i.1 i.2→Aa (decide (i.1<(↑(List.length (undL x.1 x.2.1)):Int))) (((0:Int)≤i.1∧i.1<(↑(List.length (undL x.1 x.2.1)):Int))∧Int.toNat i.1<List.length (undL x.1 x.2.1)∧∀(x_8:Int),(undL x.1 x.2.1)[Int.toNat i.1]? =some x_8→((0:Int)≤x_8∧x_8<(↑(List.length i.2):Int))∧Int.toNat x_8<List.length i.2∧∀(x_9:Nd),i.2[Int.toNat x_8]? =some x_9→cA IZ [.agg [.int .i64 x_9.kind,.str x_9.text,AV.any,.bool x_9.blank],.str x.2.2.1] fun x_10 y=>Aa (Cj x_10.1&&x_10.2.1==x_10.2.2) (((0:Int)≤x_8∧x_8<(↑(List.length i.2):Int))∧Int.toNat x_8<List.length i.2∧∀(x_11:Nd),i.2[Int.toNat x_8]? =some x_11→∃(x':Nd),([AV.int .i64 x'.kind]=[.int .i64 x_11.kind]∧[Ae x'.kids,.bool x'.blank]=[Ae x_11.kids,.bool x_11.blank])∧x.2.2.2=x'.text∧inR IntKind.i64 (i.1+(1:Int))∧eN (OZ x) i [.str x.2.2.1,.str x.2.2.2,AY (List.set i.2 (Int.toNat x_8) x'),Ae (undL x.1 x.2.1),.int .i64 (↑(List.length (undL x.1 x.2.1)):Int),.int .i64 (i.1+(1:Int))]) (inR IntKind.i64 (i.1+(1:Int))∧eN (OZ x) i [.str x.2.2.1,.str x.2.2.2,AY i.2,Ae (undL x.1 x.2.1),.int .i64 (↑(List.length (undL x.1 x.2.1)):Int),.int .i64 (i.1+(1:Int))])) (rA GY x [.tup [AY i.2,.bool true],.top,.top,.top,.top]))))))) (fun x=>by kernel_rfl) fun(x:RnX) (hx:((Bc x.1∧x.1.length≤2^20)∧∀e∈x.1,e.kids.length≤2^20)∧x.2.2.2.length<2^62)=>(by
 dsimp only[BX,cA,eA,eN,OZ,An,Bt,nds,Ae,AY,rA,Iu,IZ,MS,Gc,KL,GY,Dt,Eo,Av,AA,mvL,lnL,mvE,lnE,Bi]
 obtain⟨⟨⟨h1,h2⟩,h3⟩,h4⟩:=hx
 (repeat' first|refine b5W _ _ _ _ ⟨rfl,?_⟩ ⟨rfl,rfl⟩|(with_reducible first|rfl|exact True.intro|apply AL|apply And.intro|((first|apply AB|apply AJ|apply AC|apply AK)<;>intro _))|(apply Az<;>intro _)|apply AI|refine Ag () ?_ ?_|((first|apply AP|apply AO|apply AN|apply AM|apply AH|apply AG|apply AF|apply AE|apply AD)<;>try dsimp only)|apply Ag|(refine Prod.forall.2 ?_;intro _;try dsimp only)|(intro _;try dsimp only))
 all_goals(try(have hB:=b6b (show Gq _ _ _ by assumption)))
 all_goals(try(repeat(rename(_:List Int)[_]? =some _=>hq;revert hq;rename(_:List Int)[_]? =some _=>hr;intro hq;rw[hr] at hq;cases hq)))
 all_goals first
  |rfl
  |omega
  |exact()
  |exact h1
  |exact h4
  |exact h3 _ ‹_›
  |exact(a2S ‹_›).1
  |exact(a2S ‹_›).2
  |exact a2N ‹_›
  |exact a2O ‹_› ‹_›
  |exact a2P ‹_›
  |exact a2Q ‹_›
  |exact a2R ‹_›
  |exact OY (a2N ‹_›)
  |exact OY (a2O ‹_› ‹_›)
  |exact OY (a2P ‹_›)
  |exact OY (a2Q ‹_›)
  |exact OY (a2R ‹_›)
  |exact b6a (by omega) (VA ‹_› ‹_› ‹_› ‹_› ‹_› ‹_›)
  |exact b6e ‹_› ‹_›
  |exact b6f ‹_›
  |exact b6g h2
  |(have hq:=DY (show(undL _ _)[_]? =some _ by assumption);omega)
  |(have hm:=(show(Cj _&&_==_)=true by assumption);exact b6c ‹_› ‹_› ‹_› ‹_› hm rfl)
  |(have hm:=(show(Cj _&&_==_)=false by assumption);exact b6d ‹_› ‹_› ‹_› hm)
  |((try simp only[AR,Bb,List.length_cons,List.length_nil]);omega)
  |skip)
end Go.My
end
section
namespace Go.Proofs
open Go.Shelf
def Tryz.laysM246_ren:Go.Shelf.Ren:=⟨fun|246=>174|283=>190|284=>191|285=>192|286=>193|129=>156|317=>203|318=>204|319=>205|320=>206|337=>214|338=>215|n=>n,fun|2=>2|3=>3|9=>9|4=>4|171=>158|0=>0|53=>139|37=>22|5=>5|173=>160|212=>173|51=>137|20=>20|213=>174|46=>91|232=>180|233=>181|n=>n,fun|17=>0|18=>2|19=>3|n=>n⟩
def Tryz.laysM243_ren:Go.Shelf.Ren:=⟨fun|243=>145|246=>174|283=>190|284=>191|285=>192|286=>193|129=>156|317=>203|318=>204|319=>205|320=>206|337=>214|338=>215|n=>n,fun|3=>3|9=>9|2=>2|4=>4|171=>158|0=>0|53=>139|37=>22|5=>5|173=>160|212=>173|51=>137|20=>20|213=>174|46=>91|232=>180|233=>181|n=>n,fun|17=>0|18=>2|19=>3|n=>n⟩
def Tryz.laysM171_ren:Go.Shelf.Ren:=⟨fun|171=>121|243=>145|246=>174|283=>190|284=>191|285=>192|286=>193|129=>156|317=>203|318=>204|319=>205|320=>206|337=>214|338=>215|n=>n,fun|3=>3|9=>9|2=>2|4=>4|171=>158|0=>0|53=>139|37=>22|5=>5|173=>160|212=>173|51=>137|20=>20|213=>174|46=>91|232=>180|233=>181|n=>n,fun|17=>0|18=>2|19=>3|n=>n⟩
theorem Tryz.laysM171:Go.Proofs.LaysM.n171 Tryz.prog Tryz.laysM171_ren:= {
 mixed:=by kernel_rfl
 f129:=Tryz.func156.trans (congrArg some (by kernel_rfl))
 f171:=Tryz.func121.trans (congrArg some (by kernel_rfl))
 f243:=Tryz.func145.trans (congrArg some (by kernel_rfl))
 f246:=Tryz.func174.trans (congrArg some (by kernel_rfl))
 f283:=Tryz.func190.trans (congrArg some (by kernel_rfl))
 f284:=Tryz.func191.trans (congrArg some (by kernel_rfl))
 f285:=Tryz.func192.trans (congrArg some (by kernel_rfl))
 f286:=Tryz.func193.trans (congrArg some (by kernel_rfl))
 f317:=Tryz.func203.trans (congrArg some (by kernel_rfl))
 f318:=Tryz.func204.trans (congrArg some (by kernel_rfl))
 f319:=Tryz.func205.trans (congrArg some (by kernel_rfl))
 f320:=Tryz.func206.trans (congrArg some (by kernel_rfl))
 f337:=Tryz.func214.trans (congrArg some (by kernel_rfl))
 f338:=Tryz.func215.trans (congrArg some (by kernel_rfl))
 t0:=Tryz.underlying0
 a0:=Tryz.isAgg0
 z0:=Tryz.sizeOf0
 v0:=Tryz.zeroValue0
 t2:=Tryz.underlying2
 a2:=Tryz.isAgg2
 z2:=Tryz.sizeOf2
 v2:=Tryz.zeroValue2
 t3:=Tryz.underlying3
 a3:=Tryz.isAgg3
 z3:=Tryz.sizeOf3
 v3:=Tryz.zeroValue3
 t4:=Tryz.underlying4
 a4:=Tryz.isAgg4
 z4:=Tryz.sizeOf4
 v4:=Tryz.zeroValue4
 t5:=Tryz.underlying5
 a5:=Tryz.isAgg5
 z5:=Tryz.sizeOf5
 v5:=Tryz.zeroValue5
 t9:=Tryz.underlying9
 a9:=Tryz.isAgg9
 z9:=Tryz.sizeOf9
 v9:=Tryz.zeroValue9
 t20:=Tryz.underlying20
 a20:=Tryz.isAgg20
 z20:=Tryz.sizeOf20
 v20:=Tryz.zeroValue20
 t37:=Tryz.underlying22
 a37:=Tryz.isAgg22
 z37:=Tryz.sizeOf22
 v37:=Tryz.zeroValue22
 t46:=Tryz.underlying91
 a46:=Tryz.isAgg91
 z46:=Tryz.sizeOf91
 v46:=Tryz.zeroValue91
 t51:=Tryz.underlying137
 a51:=Tryz.isAgg137
 z51:=Tryz.sizeOf137
 v51:=Tryz.zeroValue137
 t53:=Tryz.underlying139
 a53:=Tryz.isAgg139
 z53:=Tryz.sizeOf139
 v53:=Tryz.zeroValue139
 t171:=Tryz.underlying158
 a171:=Tryz.isAgg158
 z171:=Tryz.sizeOf158
 v171:=Tryz.zeroValue158
 t173:=Tryz.underlying160
 a173:=Tryz.isAgg160
 z173:=Tryz.sizeOf160
 v173:=Tryz.zeroValue160
 t212:=Tryz.underlying173
 a212:=Tryz.isAgg173
 z212:=Tryz.sizeOf173
 v212:=Tryz.zeroValue173
 t213:=Tryz.underlying174
 a213:=Tryz.isAgg174
 z213:=Tryz.sizeOf174
 t232:=Tryz.underlying180
 a232:=Tryz.isAgg180
 z232:=Tryz.sizeOf180
 v232:=Tryz.zeroValue180
 t233:=Tryz.underlying181
 a233:=Tryz.isAgg181
 z233:=Tryz.sizeOf181
 v233:=Tryz.zeroValue181
 g17:=by kernel_rfl
 g18:=by kernel_rfl
 g19:=by kernel_rfl
 i0:=by kernel_rfl
 i2:=by kernel_rfl
 i3:=by kernel_rfl
 i4:=by kernel_rfl
 i5:=by kernel_rfl
 i9:=by kernel_rfl
 i20:=by kernel_rfl
 i37:=by kernel_rfl
 i46:=by kernel_rfl
 i51:=by kernel_rfl
 i53:=by kernel_rfl
 i171:=by kernel_rfl
 i173:=by kernel_rfl
 i212:=by kernel_rfl
 i232:=by kernel_rfl
 i233:=by kernel_rfl
 m17:=by kernel_rfl
 m18:=by kernel_rfl
 m19:=by kernel_rfl}
open Go.RowKit Go.Sort Go.Lib in
theorem Tryz.strconv_Itoa(n:Int)(h0: -9223372036854775808≤n)(h1:n≤9223372036854775807)(w:World)(htab:Lib.TabIs Tryz.prog w "internal/strconv.uint64pow10" .u64 Lib.pow10Tab):
 Calls Tryz.prog 121 #[.int .i64 n] w fun e w'=>e= .returned (.string ⟨(Lib.itoa n).toArray⟩)∧∃k os,w'=grow (w.drewN k) os:=Any.strconv_Itoa Tryz.laysM171 n h0 h1 w htab
end Go.Proofs
end
section
set_option linter.unusedVariables false
set_option linter.unusedSimpArgs false
namespace Go.My
open Go.Eng Go.Proofs
variable {G:GInv}
theorem a2U{P:Program}{w:World}{name:String}{k:IntKind}{zs:List Int}(h:Lib.TabIs P w name k zs):∃g cs e p,P.globalNamed name=some g∧w.heap[g]? =some (.cells cs e p)∧cs=(zs.map fun z=>Value.int k z).toArray:=by
 unfold Lib.TabIs World.var? at h
 cases hg:P.globalNamed name with
 |none=>rw[hg] at h;cases h
 |some g=>
  rw[hg] at h
  simp only[Option.bind_some] at h
  split at h
  ·rename_i cs e p hc
   exact⟨g,cs,e,p,rfl,hc,Option.some.inj h⟩
  ·cases h
def b6i(P:Program)(name:String)(k:IntKind)(zs:List Int):GInv:=⟨fun Z w=>Lib.TabIs P w name k zs∧∀g,P.globalNamed name=some g→¬Z g,by
 rintro Z Z' w w' hz ⟨h1,h2⟩
 obtain⟨g,cs,e,p,hg,hc,hcs⟩:=a2U h1
 have hlt:g<w.heap.size:=by
  rcases Nat.lt_or_ge g w.heap.size with hh|hh
  ·exact hh
  ·rw[Array.getElem?_eq_none hh] at hc;cases hc
 obtain⟨q1,q2⟩:=hz g (h2 g hg) hlt
 refine⟨?_,fun g' hg'=> ?_⟩
 ·unfold Lib.TabIs World.var?
  rw[hg]
  simp only[Option.bind_some]
  rw[q2,hc,hcs]
 ·have:g'=g:=by rw[hg] at hg';exact(Option.some.inj hg').symm
  rw[this];exact q1⟩
def VB:GInv:=b6i Go.Proofs.Tryz.prog "internal/strconv.uint64pow10" .u64 Lib.pow10Tab
def Pa(G:GInv):Prop:=∀Z w,G.p Z w→Lib.TabIs Go.Proofs.Tryz.prog w "internal/strconv.uint64pow10" .u64 Lib.pow10Tab
theorem b6j:Pa VB:=fun Z w h=>h.1
theorem b6k{W:World}(h:Lib.TabIs Go.Proofs.Tryz.prog W "internal/strconv.uint64pow10" .u64 Lib.pow10Tab):VB.p (Old W) W:=by
 refine⟨h,fun g hg hz=> ?_⟩
 obtain⟨g',cs,e,p,hg',hc,hcs⟩:=a2U h
 have:g'=g:=by rw[hg] at hg';exact(Option.some.inj hg').symm
 subst this
 have hz:W.heap.size≤g':=hz
 rw[Array.getElem?_eq_none hz] at hc;cases hc
def MT:Sig:= {X:=Int,args:=fun x=>[.int .i64 x],pre:=fun x=> -9223372036854775808≤x∧x≤9223372036854775807,Y:=Unit,post:=fun _ _=>True,res:=fun x _=> .str (FC x),outs:=fun _ _=>[.top],keep:=false}
theorem b6l(hT:Pa G):Al G Go.Proofs.Tryz.prog 121 MT:=by
 refine⟨⟨⟨_,Go.Proofs.Tryz.func121,by kernel_rfl,by kernel_rfl⟩,fun x y _ _=>⟨trivial,trivial,trivial⟩⟩,?_⟩
 rintro x ⟨h0,h1⟩ Z w vals A hG h hA _
 simp only[MT,AX,Aj] at h
 obtain⟨v,cs,A1,A2,rfl,_,⟨rfl,_⟩,rfl,_⟩:=h
 refine(Any.strconv_Itoa Go.Proofs.Tryz.laysM171 x h0 h1 w (hT Z w hG)).mono ?_
 rintro e w' ⟨rfl,k,os,rfl⟩
 refine⟨(),_,Z,(fun _=>False),trivial,rfl,?_,⟨rfl,rfl,rfl,?_,fun b hb _=>⟨?_,Iff.rfl⟩,fun _ h=>h.elim⟩⟩
 ·simp only[MT,AX,Aj]
  exact⟨_,_,_,_,rfl,BD _,⟨rfl,AQ⟩,_,_,_,_,rfl,BD _,AQ,rfl,AQ⟩
 ·show w.heap.size≤(w.heap++os).size
  rw[Array.size_append];omega
 ·show(w.heap++os)[b]? =w.heap[b]?
  rw[Array.getElem?_append_left hb]
def MU:Sig:= {X:=Int,args:=fun x=>[.int .i64 x],pre:=fun x=> -9223372036854775808≤x∧x≤9223372036854775807,Y:=Unit,post:=fun x y=>True,res:=fun x y=> .str (FC x),outs:=fun x y=>[.top],keep:=false}
theorem b6m(hT:Pa G):Al G Tryz.prog 84 MU:=
 vcFun_okP [(121,0,MT)] [] false (fun x=>[]) Tryz.func84 rfl (by decide) ⟨(b6l hT),trivial⟩ (fun(x:Int)=>(∀(y:Unit),True→True∧True∧True)∧cA MT [.int .i64 x] fun x_1 y=>rA MU x [.str (FC x_1),.top]) (fun x=>by kernel_rfl) fun(x:Int) (hx: -9223372036854775808≤x∧x≤9223372036854775807)=>(by
 dsimp only[cA,rA,MU,MT,Av,AA,mvL,lnL,mvE,lnE]
 obtain⟨h1,h2⟩:=hx
 (repeat' first|(with_reducible first|rfl|exact True.intro|apply AL|apply And.intro|((first|apply AB|apply AJ|apply AC|apply AK)<;>intro _))|(apply Az<;>intro _)|apply AI|refine Ag () ?_ ?_|((first|apply AP|apply AO|apply AN|apply AM|apply AH|apply AG|apply AF|apply AE|apply AD)<;>try dsimp only)|apply Ag|(refine Prod.forall.2 ?_;intro _;try dsimp only)|(intro _;try dsimp only))<;>(try dsimp only at*)<;>(try simp only[AR,List.length_cons,List.length_nil])<;>(try omega))
end Go.My
end
section
set_option linter.unusedVariables false
set_option linter.unusedSimpArgs false
namespace Go.My
open Go.Eng Go.Proofs
variable {G:GInv}
def Pb(s:List UInt8):AV:= .clo (.func 83) [.pf [.str s]]
def GZ(s:List UInt8):List Nd→Int→Int
 |[],_=> -1
 |x::l,i=>if(x.text==s)=true then i else GZ s l (i+1)
theorem a2V{s:List UInt8}:∀ {l:List Nd} {i:Int},0≤i→(GZ s l i≥0↔CF l s=true)
 |[],i,h=>by simp [GZ,CF]
 |x::l,i,h=>by
  rw[GZ,CF,List.any_cons]
  by_cases e:(x.text==s)=true
  ·simp [e,h]
  ·rw[if_neg e,a2V (by omega)]
   rw[Bool.not_eq_true] at e
   rw[e,Bool.false_or];rfl
def inI(x:List Nd×List UInt8)(i:Int):Prop:=(0≤i∧i≤x.1.length)∧GZ x.2 (x.1.drop i.toNat) i=GZ x.2 x.1 0
theorem b6n{x:List Nd×List UInt8}:inI x 0:=⟨by omega,by simp⟩
theorem b6o{x:List Nd×List UInt8}{i:Int}{e:Nd}(h:inI x i)(he:x.1[i.toNat]? =some e)(hq:(e.text==x.2)=true):i=GZ x.2 x.1 0:=by
 rw[←h.2,HM he,GZ,if_pos hq]
theorem b6p{x:List Nd×List UInt8}{i:Int}{e:Nd}(h:inI x i)(he:x.1[i.toNat]? =some e)(hq:(e.text==x.2)=false):inI x (i+1):=by
 have hl:=(List.getElem?_eq_some_iff.1 he).1
 refine⟨by have:=h.1;omega,?_⟩
 rw[←h.2,HM he,GZ,if_neg (by rw[hq];simp),Dv h.1.1]
theorem b6q{x:List Nd×List UInt8}{i:Int}(h:inI x i)(hl:¬i<(x.1.length:Int)): -1=GZ x.2 x.1 0:=by
 rw[←h.2,List.drop_eq_nil_of_le (by omega)];rfl
def MV:Sig:= {X:=Nd×List UInt8,args:=fun x=>[.agg (ndA false x.1),.pf [.str x.2]],pre:=fun x=>True,Y:=Unit,post:=fun x y=>True,res:=fun x y=> .bool (x.1.text==x.2),outs:=fun x y=>[.top,.top],keep:=false}
theorem b6r:Al G Tryz.prog 83 MV:=
 vcFun_okP [] [] false (fun x=>[]) Tryz.func83 rfl (by decide) trivial (fun(x:Nd×List UInt8)=>(∀(y:Unit),True→True∧True∧True∧True)∧rA MV x [.bool (x.1.text==x.2),.top,.top]) (fun x=>by kernel_rfl) fun(x:Nd×List UInt8) (hx:True)=>(by
 dsimp only[Bt,rA,MV,Av,AA]
 (repeat' first|(with_reducible first|rfl|exact True.intro|apply AL|apply And.intro|((first|apply AB|apply AJ|apply AC|apply AK)<;>intro _))|(apply Az<;>intro _)|apply AI|refine Ag () ?_ ?_|((first|apply AP|apply AO|apply AN|apply AM|apply AH|apply AG|apply AF|apply AE|apply AD)<;>try dsimp only)|apply Ag|(refine Prod.forall.2 ?_;intro _;try dsimp only)|(intro _;try dsimp only)))
def Lg:Sig:= {X:=List Nd×List UInt8,args:=fun x=>[nds x.1,Pb x.2],pre:=fun x=>x.1.length<2^62,Y:=Unit,post:=fun x y=>True,res:=fun x y=> .int .i64 (GZ x.2 x.1 0),outs:=fun x y=>[.top,.top],keep:=false}
def RQ(x:List Nd×List UInt8):LS:= {ι:=Int,inv:=fun i=>inI x i,regs:=fun i=>[(0,nds x.1),(1,Pb x.2),(7,.int .i64 x.1.length),(8,.int .i64 i)],als:=[],meas:=fun i=>x.1.length-i.toNat}
theorem b6s:Al G Tryz.prog 120 Lg:=
 vcFun_okP [(83,0,MV)] [] false (fun x=>[(2,RQ x)]) Tryz.func120 rfl (by decide) ⟨b6r,trivial⟩ (fun(x:List Nd×List UInt8)=>(∀(y:Unit),True→True∧True∧True∧True)∧eA (RQ x) [nds x.1,AV.clo (.func 83) [AV.pf [.str x.2]],.int .i64 (↑(List.length x.1):Int),.int .i64 (0:Int)]∧∀(i:Int),inI x i→Aa (decide (i<(↑(List.length x.1):Int))) (((0:Int)≤i∧i<(↑(List.length x.1):Int))∧∀(e:Nd),x.1[Int.toNat i]? =some e→cA MV [.agg [.int .i64 e.kind,.str e.text,An e.kids,.bool e.blank],AV.pf [.str x.2]] fun x_1 y=>Aa (x_1.1.text==x_1.2) (rA Lg x [.int .i64 i,.top,.top]) (inR IntKind.i64 (i+(1:Int))∧eN (RQ x) i [nds x.1,AV.clo (.func 83) [AV.pf [.str x.2]],.int .i64 (↑(List.length x.1):Int),.int .i64 (i+(1:Int))])) (rA Lg x [.int .i64 (-1:Int),.top,.top])) (fun x=>by kernel_rfl) fun(x:List Nd×List UInt8) (hx:x.1.length<2^62)=>(by
 dsimp only[cA,Pb,eA,eN,RQ,An,Bt,nds,rA,MV,Lg,Av,AA,mvL,lnL,mvE,lnE,Bi]
 have hx:x.1.length<2^62:=hx
 (repeat' first|(with_reducible first|rfl|exact True.intro|apply AL|apply And.intro|((first|apply AB|apply AJ|apply AC|apply AK)<;>intro _))|(apply Az<;>intro _)|apply AI|refine Ag () ?_ ?_|((first|apply AP|apply AO|apply AN|apply AM|apply AH|apply AG|apply AF|apply AE|apply AD)<;>try dsimp only)|apply Ag|(refine Prod.forall.2 ?_;intro _;try dsimp only)|(intro _;try dsimp only))
 all_goals first
  |rfl
  |exact b6n
  |exact b6o ‹_› ‹_› (beq_iff_eq.2 ‹_›)
  |exact b6p ‹_› ‹_› (beq_eq_false_iff_ne.2 ‹_›)
  |exact b6q ‹_› ‹_›
  |(have hq:=(show inI _ _ by assumption).1;(try simp only[AR]);omega)
  |skip)
def RR:Sig:= {X:=List Nd×List UInt8,args:=fun x=>[nds x.1,Pb x.2],pre:=fun x=>x.1.length<2^62,Y:=Unit,post:=fun x y=>True,res:=fun x y=> .bool (CF x.1 x.2),outs:=fun x y=>[.top,.top],keep:=false}
theorem b6t:Al G Tryz.prog 82 RR:=
 vcFun_okP [(120,83+1,Lg)] [] false (fun x=>[]) Tryz.func82 rfl (by decide) ⟨b6s,trivial⟩ (fun(x:List Nd×List UInt8)=>(∀(y:Unit),True→True∧True∧True∧True)∧cA Lg [nds x.1,AV.clo (.func 83) [AV.pf [.str x.2]]] fun x_1 y=>rA RR x [.bool (decide (GZ x_1.2 x_1.1 (0:Int)≥(0:Int))),.top,.top]) (fun x=>by kernel_rfl) fun(x:List Nd×List UInt8) (hx:x.1.length<2^62)=>(by
 dsimp only[cA,Pb,Bt,nds,rA,RR,Lg,Av,AA,mvL,lnL,mvE,lnE]
 have hx:x.1.length<2^62:=hx
 (repeat' first|(with_reducible first|rfl|exact True.intro|apply AL|apply And.intro|((first|apply AB|apply AJ|apply AC|apply AK)<;>intro _))|(apply Az<;>intro _)|apply AI|refine Ag () ?_ ?_|((first|apply AP|apply AO|apply AN|apply AM|apply AH|apply AG|apply AF|apply AE|apply AD)<;>try dsimp only)|apply Ag|(refine Prod.forall.2 ?_;intro _;try dsimp only)|(intro _;try dsimp only))
 all_goals first
  |exact hx
  |(rw[Bool.eq_iff_iff,decide_eq_true_iff];exact a2V (by omega))
  |skip)
def MW:Sig:= {X:=List Nd×List UInt8,args:=fun x=>[.str x.2,.pf [nds x.1]],pre:=fun x=>x.1.length<2^62,Y:=Unit,post:=fun x y=>True,res:=fun x y=> .bool (CF x.1 x.2),outs:=fun x y=>[.top,.top],keep:=false}
theorem b6u:Al G Tryz.prog 81 MW:=
 vcFun_okP [(82,83+1,RR)] [] false (fun x=>[]) Tryz.func81 rfl (by decide) ⟨b6t,trivial⟩ (fun(x:List Nd×List UInt8)=>(∀(y:Unit),True→True∧True∧True∧True)∧∃(x_1:List Nd×List UInt8),List.length x_1.1<(4611686018427387904:Nat)∧nds x.1=nds x_1.1∧AV.pf [.str x.2]=AV.pf [.str x_1.2]∧∀(y:Unit),True→rA MW x [.bool (CF x_1.1 x_1.2),.top,.top]) (fun x=>by kernel_rfl) fun(x:List Nd×List UInt8) (hx:x.1.length<2^62)=>(by
 dsimp only[Bt,nds,rA,MW,Av,AA]
 have hx:x.1.length<2^62:=hx
 (repeat' first|(with_reducible first|rfl|exact True.intro|apply AL|apply And.intro|((first|apply AB|apply AJ|apply AC|apply AK)<;>intro _))|(apply Az<;>intro _)|apply AI|refine Ag () ?_ ?_|((first|apply AP|apply AO|apply AN|apply AM|apply AH|apply AG|apply AF|apply AE|apply AD)<;>try dsimp only)|apply Ag|(refine Prod.forall.2 ?_;intro _;try dsimp only)|(intro _;try dsimp only))
 all_goals first
  |exact hx
  |skip)
def VC(ns:List Nd):AV:= .clo (.func 81) [.pf [nds ns]]
def fiJ(x:List Nd×List UInt8)(n:Int)(s:List UInt8):Prop:=(x.1.length≤2^20∧fsI x.1 x.2 (n-1))∧s=DE x.2 (n-1)
theorem b6v{x:List Nd×List UInt8}(h:x.1.length≤2^20)(h1:BK x.2=true)(h2:¬(x.2.length:Int)>20):fiJ x 2 x.2:=⟨⟨h,a0o h1 (by omega)⟩,rfl⟩
theorem a2W{x:List Nd×List UInt8}{n:Int}{s:List UInt8}(h:fiJ x n s):((2≤n∧n≤x.1.length+2)∧x.1.length≤2^20)∧s.length≤29∧x.2.length≤20:=by
 have h1:=Ox h.1.2;have h2:=h.1.2.1
 refine⟨⟨by omega,h.1.1⟩,?_,h2.1.2⟩
 rw[h.2];exact a9I h2.1.2 (by omega) (by have:=h.1.1;omega)
theorem a2X{x:List Nd×List UInt8}{n:Int}{s:List UInt8}(h:fiJ x n s)(hh:CF x.1 s=true):fiJ x (n+1) (x.2++FC n):=by
 have hp:=Ox h.1.2;have h2:=h.1.2.1
 rw[h.2] at hh
 have:=a0q h.1.2 hp hh
 rw[show n-1+1=n+1-1 by omega] at this
 exact⟨⟨h.1.1,this⟩,by rw[DE,if_neg (by omega),show n+1-1=n by omega]⟩
theorem b6w{x:List Nd×List UInt8}{n:Int}{s:List UInt8}(h:fiJ x n s)(hh:CF x.1 s=false):s=Ea x.1 x.2:=by
 have hp:=Ox h.1.2
 rw[h.2] at hh ⊢
 exact a0p h.1.2 hp hh
theorem b6x{n:Int}{b:List UInt8}(hb:b.length≤20)(h0:0≤n)(h1:n≤999999999):((b.length+(FC n).length:Nat):Int)≤IntKind.i64.max:=by have:=Us h0 h1;simp only[AR];omega
theorem b6y{x:List Nd×List UInt8}{n:Int}{s:List UInt8}(h:fiJ x n s)(hh:CF x.1 s=true):n≤x.1.length+1:=by
 have:=a2W (a2X h hh);omega
theorem b6z{x:List Nd×List UInt8}(h:BK x.2=false):([]:List UInt8)=Ea x.1 x.2:=a0r (by rw[h];simp)
theorem b6A{x:List Nd×List UInt8}(h:(x.2.length:Int)>20):([]:List UInt8)=Ea x.1 x.2:=a0r (by omega)
def fqI(x:List Nd×List UInt8)(n:Int):Prop:=x.1.length≤2^20∧fsI x.1 x.2 n
def fqJ(x:List Nd×List UInt8)(n i:Int)(s:List UInt8)(b:Bool):Prop:=((fqI x n∧n≤x.1.length+1)∧0≤i∧i≤x.1.length)∧s=DE x.2 n∧b=CF (x.1.take i.toNat) s
attribute [local irreducible] fiJ Ea DE CF fsI
def JO:Sig:= {X:=List Nd×List UInt8,args:=fun x=>[nds x.1,.str x.2],pre:=fun x=>x.1.length≤2^20∧x.2.length<2^62,Y:=Unit,post:=fun x y=>True,res:=fun x y=> .str (Ea x.1 x.2),outs:=fun x y=>[.top,.top],keep:=false}
def VD(x:List Nd×List UInt8):LS:= {ι:=Int×List UInt8,inv:=fun i=>fiJ x i.1 i.2,regs:=fun i=>[(1,.str x.2),(5,VC x.1),(6,.str i.2),(7,.int .i64 i.1)],als:=[],meas:=fun i=>x.1.length+3-i.1.toNat}
theorem b6B(hT:Pa G):Al G Tryz.prog 27 JO:=
 vcFun_okP [(80,0,Eo),(81,0,MW),(84,0,MU)] [] false (fun x=>[(6,VD x)]) Tryz.func27 rfl (by decide) ⟨TX,b6u,(b6m hT),trivial⟩ (fun(x:List Nd×List UInt8)=>(∀(y:Unit),True→True∧True∧True∧True)∧cA Eo [.str x.2] fun x_1 y=>Aa (!BK x_1) (rA JO x [.str #[].toList,.top,.top]) (Aa (decide ((↑(List.length x.2):Int)>(20:Int))) (rA JO x [.str #[].toList,.top,.top]) ((∃(i:Int×List UInt8),fiJ x i.1 i.2∧(x.2=x.2∧AV.pf [AV.sl false (0:Nat) (4:Nat) Nd (fun(x:Nd)=>fzL._f [.int .i64 x.kind,.str x.text,An x.kids,.bool x.blank] ⟨AV.rec (fun(k:IntKind) (n:Int)=>⟨fz._f (AV.int k n) PUnit.unit,PUnit.unit⟩) (fun(b:Bool)=>⟨fz._f (.bool b) PUnit.unit,PUnit.unit⟩) (fun(l:List UInt8)=>⟨fz._f (.str l) PUnit.unit,PUnit.unit⟩) (fun(v:Value)=>⟨fz._f (.val v) PUnit.unit,PUnit.unit⟩) ⟨fz._f AV.any PUnit.unit,PUnit.unit⟩ ⟨fz._f .top PUnit.unit,PUnit.unit⟩ ⟨fz._f .nil PUnit.unit,PUnit.unit⟩ (fun(id:Nat)=>⟨fz._f (AV.hole id) PUnit.unit,PUnit.unit⟩) (fun(id:Nat)=>⟨fz._f (AV.al id) PUnit.unit,PUnit.unit⟩) (fun(id k sz off:Nat)=>⟨fz._f (AV.po id k sz off) PUnit.unit,PUnit.unit⟩) (fun(fs:List AV) (fs_ih:List AV×' AV.below_1 fs)=>⟨fz._f (.agg fs) fs_ih,fs_ih⟩) (fun(vs:List AV) (vs_ih:List AV×' AV.below_1 vs)=>⟨fz._f (.tup vs) vs_ih,vs_ih⟩) (fun(id:Nat) (c:List AV) (c_ih:List AV×' AV.below_1 c)=>⟨fz._f (.box id c) c_ih,c_ih⟩) (fun(x:Value) (c:List AV) (c_ih:List AV×' AV.below_1 c)=>⟨fz._f (AV.bv x c) c_ih,c_ih⟩) (fun(x:Value)=>⟨fz._f (AV.hv x) PUnit.unit,PUnit.unit⟩) (fun(c:List AV) (c_ih:List AV×' AV.below_1 c)=>⟨fz._f (AV.pf c) c_ih,c_ih⟩) (fun(fn:Fn) (caps:List AV) (caps_ih:List AV×' AV.below_1 caps)=>⟨fz._f (AV.clo fn caps) caps_ih,caps_ih⟩) (fun(own:Bool) (id sz:Nat) (α:Type) (f:α→List AV) (xs:List α) (f_ih:(a:α)→List AV×' AV.below_1 (f a))=>⟨fz._f (AV.sl own id sz α f xs) f_ih,f_ih⟩) ⟨fzL._f [] PUnit.unit,PUnit.unit⟩ (fun(head:AV) (tail:List AV) (head_ih:AV×' AV.below head) (tail_ih:List AV×' AV.below_1 tail)=>⟨fzL._f (head::tail) ⟨head_ih,tail_ih⟩,head_ih,tail_ih⟩) (.int .i64 x.kind),AV.rec_1 (fun(k:IntKind) (n:Int)=>⟨fz._f (AV.int k n) PUnit.unit,PUnit.unit⟩) (fun(b:Bool)=>⟨fz._f (.bool b) PUnit.unit,PUnit.unit⟩) (fun(l:List UInt8)=>⟨fz._f (.str l) PUnit.unit,PUnit.unit⟩) (fun(v:Value)=>⟨fz._f (.val v) PUnit.unit,PUnit.unit⟩) ⟨fz._f AV.any PUnit.unit,PUnit.unit⟩ ⟨fz._f .top PUnit.unit,PUnit.unit⟩ ⟨fz._f .nil PUnit.unit,PUnit.unit⟩ (fun(id:Nat)=>⟨fz._f (AV.hole id) PUnit.unit,PUnit.unit⟩) (fun(id:Nat)=>⟨fz._f (AV.al id) PUnit.unit,PUnit.unit⟩) (fun(id k sz off:Nat)=>⟨fz._f (AV.po id k sz off) PUnit.unit,PUnit.unit⟩) (fun(fs:List AV) (fs_ih:List AV×' AV.below_1 fs)=>⟨fz._f (.agg fs) fs_ih,fs_ih⟩) (fun(vs:List AV) (vs_ih:List AV×' AV.below_1 vs)=>⟨fz._f (.tup vs) vs_ih,vs_ih⟩) (fun(id:Nat) (c:List AV) (c_ih:List AV×' AV.below_1 c)=>⟨fz._f (.box id c) c_ih,c_ih⟩) (fun(x:Value) (c:List AV) (c_ih:List AV×' AV.below_1 c)=>⟨fz._f (AV.bv x c) c_ih,c_ih⟩) (fun(x:Value)=>⟨fz._f (AV.hv x) PUnit.unit,PUnit.unit⟩) (fun(c:List AV) (c_ih:List AV×' AV.below_1 c)=>⟨fz._f (AV.pf c) c_ih,c_ih⟩) (fun(fn:Fn) (caps:List AV) (caps_ih:List AV×' AV.below_1 caps)=>⟨fz._f (AV.clo fn caps) caps_ih,caps_ih⟩) (fun(own:Bool) (id sz:Nat) (α:Type) (f:α→List AV) (xs:List α) (f_ih:(a:α)→List AV×' AV.below_1 (f a))=>⟨fz._f (AV.sl own id sz α f xs) f_ih,f_ih⟩) ⟨fzL._f [] PUnit.unit,PUnit.unit⟩ (fun(head:AV) (tail:List AV) (head_ih:AV×' AV.below head) (tail_ih:List AV×' AV.below_1 tail)=>⟨fzL._f (head::tail) ⟨head_ih,tail_ih⟩,head_ih,tail_ih⟩) [.str x.text,An x.kids,.bool x.blank]⟩) x.1]=AV.pf [nds x.1]∧x.2=i.2∧(2:Int)=i.1∧True)∧True)∧∀(i:Int×List UInt8),fiJ x i.1 i.2→cA MW [.str i.2,AV.pf [nds x.1]] fun x_2 y=>Aa (CF x_2.1 x_2.2) (cA MU [.int .i64 i.1] fun x_3 y=>(↑(List.length x.2+List.length (FC x_3)):Int)≤IntKind.max IntKind.i64∧inR IntKind.i64 (i.1+(1:Int))∧eN (VD x) i [.str x.2,AV.clo (.func 81) [AV.pf [nds x.1]],.str (x.2++FC x_3),.int .i64 (i.1+(1:Int))]) (rA JO x [.str i.2,.top,.top])))) (fun x=>by kernel_rfl) fun(x:List Nd×List UInt8) (hx:x.1.length≤2^20∧x.2.length<2^62)=>(by
 dsimp only[cA,VC,eN,VD,An,Bt,nds,rA,MW,MU,JO,Eo,Av,AA,mvL,lnL,mvE,lnE,Bi]
 obtain⟨h1,h2⟩:=hx
 (repeat' first|(with_reducible first|rfl|exact True.intro|apply AL|apply And.intro|((first|apply AB|apply AJ|apply AC|apply AK)<;>intro _))|(apply Az<;>intro _)|apply AI|refine Ag () ?_ ?_|((first|apply AP|apply AO|apply AN|apply AM|apply AH|apply AG|apply AF|apply AE|apply AD)<;>try dsimp only)|apply Ag|(refine Prod.forall.2 ?_;intro _;try dsimp only)|(intro _;try dsimp only))
 all_goals(try(have hB:=a2W (show fiJ _ _ _ by assumption)))
 all_goals first
  |rfl
  |omega
  |exact b6z ‹_›
  |exact b6A ‹_›
  |exact b6v h1 ‹_› ‹_›
  |exact a2X ‹_› ‹_›
  |exact b6w ‹_› ‹_›
  |(have hm:=b6y ‹_› ‹_›;(try simp only[AR]);omega)
  |((try simp only[AR,List.length_append]);omega)
  |exact b6x (by omega) (by omega) (by omega)
  |skip)
attribute [local irreducible] fqI fqJ
end Go.My
end
section
set_option linter.unusedVariables false
set_option linter.unusedSimpArgs false
namespace Go.My
open Go.Eng Go.Proofs
variable {G:GInv}
structure Sm (A L:List Nd):Prop where
 len:A.length=L.length
 kind:∀i,(Ab A i).kind=(Ab L i).kind
 kids:∀i,(Ab A i).kids=(Ab L i).kids
 blank:∀i,(Ab A i).blank=(Ab L i).blank
 text:∀i,Dr (Ab A i).kind (Ab A i).text=Dr (Ab L i).kind (Ab L i).text
theorem Sm.kindAt{A L:List Nd}(h:Sm A L)(i:Int):kindAt A i=kindAt L i:=h.kind i
theorem Sm.isNd{A L:List Nd}(h:Sm A L)(i:Int):isNd A i=isNd L i:=by unfold Go.My.isNd;rw[h.len]
theorem Sm.callOk{A L:List Nd}(h:Sm A L)(i:Int)(j:Nat)(c:Int):callOk A (Ab A i) j c=callOk L (Ab L i) j c:=by
 have e:Go.My.kindAt A=Go.My.kindAt L:=funext h.kindAt
 have e2:Go.My.isNd A=Go.My.isNd L:=funext h.isNd
 have e4:=h.kind c;have e5:=h.kids c;have e6:=h.kind i
 simp only[Go.My.callOk,e4,e5,e6,e,e2]
theorem Sm.nodeOk{A L:List Nd}(h:Sm A L)(i:Int):nodeOk A i=nodeOk L i:=by
 have e:Go.My.kindAt A=Go.My.kindAt L:=funext h.kindAt
 have e2:Go.My.isNd A=Go.My.isNd L:=funext h.isNd
 have e3:DW A (Ab A i)=DW L (Ab L i):=by
  unfold DW
  rw[h.kids i]
  congr 1
  funext p;exact h.callOk i p.2 p.1
 unfold Go.My.nodeOk Hk
 rw[e3,h.text i,h.kids i,h.kind i,h.blank i,e,e2]
theorem Sm.deeps{A L:List Nd}(h:Sm A L):∀n,deeps A n=deeps L n
 |0=>rfl
 |n+1=>by
  unfold Go.My.deeps
  rw[h.deeps n]
  cases Go.My.deeps L n with
  |none=>rfl
  |some ds=>simp only[h.nodeOk,h.kids]
theorem Sm.deepOf{A L:List Nd}(h:Sm A L)(k:Int):deepOf A k=deepOf L k:=by
 unfold Go.My.deepOf;rw[h.isNd,h.deeps]
theorem a2Y:∀ {A L:List Nd},A.length=L.length→(∀i:Nat,(A.getD i ⟨0,[],[],false⟩).kids=(L.getD i ⟨0,[],[],false⟩).kids)→BC A=BC L
 |[],[],_,_=>rfl
 |[],_::_,h,_=>by simp at h
 |_::_,[],h,_=>by simp at h
 |a::A,l::L,h,hk=>by
  have h0:=hk 0
  have ih:=a2Y (A:=A) (L:=L) (by simpa using h) fun i=>by simpa using hk (i+1)
  simp only[List.getD_cons_zero] at h0
  unfold BC at ih ⊢
  rw[List.flatMap_cons,List.flatMap_cons,h0,ih]
theorem Sm.treeOk{A L:List Nd}(h:Sm A L):treeOk A=treeOk L:=by
 have e:BC A=BC L:=a2Y h.len fun i=>h.kids i
 unfold Go.My.treeOk
 rw[e,h.len,h.kindAt,h.deepOf]
theorem Sm.und{A L:List Nd}(h:Sm A L)(k:Int):Und A k=Und L k:=by
 funext i
 apply propext
 constructor
 ·intro hu;induction hu with
  |base=>exact .base
  |step _ hc ih=>exact .step ih (by rw[←h.kids];exact hc)
 ·intro hu;induction hu with
  |base=>exact .base
  |step _ hc ih=>exact .step ih (by rw[h.kids];exact hc)
theorem Sm.undL{A L:List Nd}(h:Sm A L)(k:Int):undL A k=undL L k:=by
 unfold Go.My.undL;rw[h.deepOf,h.und,h.len]
theorem Sm.memL{A L:List Nd}(h:Sm A L):memL A=memL L:=by
 have e:HW A A.length=HW L L.length:=by
  funext j;unfold HW;rw[h.kindAt,h.len]
  apply propext
  constructor
  ·rintro⟨h1,p,h2,h3,h4⟩;exact⟨h1,p,h2,by rw[←h.kindAt];exact h3,by rw[←h.kids];exact h4⟩
  ·rintro⟨h1,p,h2,h3,h4⟩;exact⟨h1,p,h2,by rw[h.kindAt];exact h3,by rw[h.kids];exact h4⟩
 unfold Go.My.memL;rw[h.treeOk,e,h.len]
theorem Sm.isPar{A L:List Nd}(h:Sm A L)(U:List Int)(j:Int):isPar A U j=isPar L U j:=by
 have e:Go.My.kindAt A=Go.My.kindAt L:=funext h.kindAt
 unfold Go.My.isPar;rw[e];congr 1;funext p;rw[h.kids]
theorem VE{k:Int}{s:List UInt8}(h:Cj k=true):Dr k s=BK s:=by
 have:k=1∨k=12∨k=13:=by unfold Cj at h;simpa using h
 unfold Dr
 rw[if_pos (by omega)]
theorem a2Z{L:List Nd}{S:List Int}{a b:List UInt8}(i:Int)(h0:0≤i)(hl:i<L.length):Ab (rnF L S a b) i=if(S.elem i&&(Cj (Ab L i).kind&&(Ab L i).text==a))=true then {Ab L i with text:=b} else Ab L i:=by
 have hx:=HY h0 hl
 apply AZ
 rw[HZ,hx,Option.map_some,show((i.toNat:Nat):Int)=i by omega]
theorem b6C{L:List Nd}{S:List Int}{a b:List UInt8}(i:Int)(h:¬(i.toNat<L.length)):Ab (rnF L S a b) i=Ab L i:=by
 simp only[Ab,List.getD]
 rw[List.getElem?_eq_none (by rw[QM];omega),List.getElem?_eq_none (by omega)]
theorem a3a{L:List Nd}(i:Int):Ab L i=Ab L (i.toNat:Int):=by unfold Ab;rw[show((i.toNat:Nat):Int).toNat=i.toNat from Int.toNat_natCast _]
theorem VF{L:List Nd}{S:List Int}{a b:List UInt8}(ha:BK a=true)(hb:BK b=true):Sm (rnF L S a b) L:=by
 have key:∀i,(Ab (rnF L S a b) i).kind=(Ab L i).kind∧(Ab (rnF L S a b) i).kids=(Ab L i).kids∧(Ab (rnF L S a b) i).blank=(Ab L i).blank∧Dr (Ab (rnF L S a b) i).kind (Ab (rnF L S a b) i).text=Dr (Ab L i).kind (Ab L i).text:=by
  intro i
  by_cases hl:i.toNat<L.length
  ·rw[a3a (L:=rnF L S a b),a3a (L:=L),a2Z _ (by omega) (by omega)]
   split
   ·rename_i h
    simp only[Bool.and_eq_true,beq_iff_eq] at h
    refine⟨rfl,rfl,rfl,?_⟩
    show Dr _ b=_
    rw[VE h.2.1,VE h.2.1,h.2.2,ha,hb]
   ·exact⟨rfl,rfl,rfl,rfl⟩
  ·rw[b6C i hl];exact⟨rfl,rfl,rfl,rfl⟩
 exact⟨QM,fun i=>(key i).1,fun i=>(key i).2.1,fun i=>(key i).2.2.1,fun i=>(key i).2.2.2⟩
theorem a3b{L:List Nd}{b:List UInt8}:∀(f:Nat) (n:Int),fsI L b n→((L.length:Int)+2-n).toNat=f→∃m:Int,(1≤m∧m≤L.length+1)∧Ea L b=DE b m∧CF L (DE b m)=false
 |0,n,h,hf=>by have:=Ox h;omega
 |f+1,n,h,hf=>by
  have hp:=Ox h
  cases hh:CF L (DE b n) with
  |false=>exact⟨n,⟨h.1.2.1,hp⟩,(a0p h hp hh).symm,hh⟩
  |true=>exact a3b f (n+1) (a0q h hp hh) (by omega)
def fsh:List UInt8:=[102,114,101,115,104]
theorem a3c:∀(n m:Nat),m≤n→∀c∈dgt m,BB c=true
 |n,m,hm,c,hc=>by
  by_cases h0:0<m
  ·rw[KK h0] at hc
   rcases List.mem_append.1 hc with hc|hc
   ·cases n with
    |zero=>omega
    |succ n=>exact a3c n (m/10) (by omega) c hc
   ·simp only[List.mem_singleton] at hc
    subst hc
    have:(UInt8.ofNat (48+m % 10)).toNat=48+m % 10:=by simp;omega
    unfold BB Bn
    rw[this,decide_eq_true (by omega),decide_eq_true (by omega)];simp
  ·have:m=0:=by omega
   subst this;simp [dgt] at hc
theorem b6D(d:List UInt8):kw (fsh++d)=false:=by simp [kw,fsh]
theorem VG(d:List UInt8)(hd:∀c∈d,BB c=true)(hl:d.length≤25):BK (fsh++d)=true:=by
 refine NS.2 ⟨⟨?_,by rfl,b6D d⟩,?_⟩
 ·unfold inn;rw[List.length_append];simp [fsh];omega
 ·rw[List.all_append,Bool.and_eq_true];exact⟨by decide,List.all_eq_true.2 hd⟩
theorem b6E{m:Int}(h1:1≤m)(h2:m≤999999):BK (DE fsh m)=true:=by
 unfold DE
 split
 ·have:=VG [] (by simp) (by simp);simpa using this
 ·refine VG _ ?_ (by have:=Us (x:=m) (by omega) (by omega);omega)
  rw[Ow (by omega)];exact a3c _ _ (Nat.le_refl _)
theorem b6F{L:List Nd}(hl:L.length≤300):BK (Ea L fsh)=true∧CF L (Ea L fsh)=false:=by
 obtain⟨m,h1,h2,h3⟩:=a3b (L:=L) (b:=fsh) _ 1 (a0o (by have:=VG [] (by simp) (by simp);simpa using this) (by decide)) rfl
 rw[h2];exact⟨b6E h1.1 (by omega),h3⟩
theorem Pc{L:List Nd}{t:List UInt8}{i:Int}(h:CF L t=false)(hi:0≤i∧i<L.length):(Ab L i).text≠t:=by
 intro e
 have:CF L t=true:=by
  rw[CF,List.any_eq_true]
  exact⟨Ab L i,List.mem_of_getElem? (HY hi.1 hi.2),by simp [e]⟩
 rw[h] at this;cases this
theorem a3d(ns:List Nd)(s:List UInt8):∀(l:List Int) (n:Int),l.foldl (cnF ns s) n=n+(l.countP fun i=>Cj (kindAt ns i)&&(Ab ns i).text==s)
 |[],n=>by simp
 |e::l,n=>by
  rw[List.foldl_cons,a3d ns s l,List.countP_cons,cnF]
  split<;>simp_all<;>omega
theorem RS{ns:List Nd}{k:Int}{s:List UInt8}:BV ns k s=((undL ns k).countP fun i=>Cj (kindAt ns i)&&(Ab ns i).text==s:Nat):=by rw[BV,a3d];omega
theorem b6G{ns:List Nd}{k i:Int}{s:List UInt8}(hi:i∈undL ns k)(hn:Cj (kindAt ns i)=true)(ht:(Ab ns i).text=s):¬BV ns k s=0:=by
 rw[RS]
 have:0<(undL ns k).countP fun i=>Cj (kindAt ns i)&&(Ab ns i).text==s:=List.countP_pos_iff.2 ⟨i,hi,by simp [hn,ht]⟩
 omega
theorem a3e{ns:List Nd}{k:Int}{s:List UInt8}(h:∀i∈undL ns k,¬(Cj (kindAt ns i)=true∧(Ab ns i).text=s)):BV ns k s=0:=by
 rw[RS]
 have:(undL ns k).countP (fun i=>Cj (kindAt ns i)&&(Ab ns i).text==s)=0:=List.countP_eq_zero.2 fun i hi hc=>h i hi (by simpa using hc)
 omega
theorem a3f{ns:List Nd}{k i:Int}(h:isPar ns (undL ns k) i=true):kindAt ns i=1:=by
 unfold isPar at h
 rw[List.any_eq_true] at h
 obtain⟨p,hp,hq⟩:=h
 simp only[Bool.and_eq_true,Bool.or_eq_true,decide_eq_true_eq,List.elem_iff] at hq
 have hn:=(CS (Hs hp).2).2.2.2.2.2.1
 have hl:∃q,Fw q ((Ab ns p).kids.map (kindAt ns))=true:=by
  rcases hq.1 with hk|hk<;>(rw[kindAt] at hk;rw[hk] at hn)
  ·exact⟨BE,by simpa [Ds] using hn⟩
  ·exact⟨Dx,by simpa [Ds] using hn⟩
 obtain⟨q,hl⟩:=hl
 unfold Fw at hl
 split at hl
 ·simp only[Bool.and_eq_true,List.all_eq_true] at hl
  have:=hl.2 (kindAt ns i) (by rw[←List.map_dropLast];exact List.mem_map_of_mem hq.2)
  simpa [DV] using this
 ·cases hl
theorem VH{f:List (List UInt8)→Int→List (List UInt8)}{q:Int→List UInt8→Prop}(hf:∀o i s,s∈f o i→s∈o∨q i s):∀(l:List Int) (o:List (List UInt8)) (s:List UInt8),s∈l.foldl f o→s∈o∨∃i∈l,q i s
 |[],o,s,h=> .inl h
 |e::l,o,s,h=>by
  rw[List.foldl_cons] at h
  rcases VH hf l _ s h with h|⟨i,hi,hq⟩
  ·rcases hf _ _ _ h with h|h
   ·exact .inl h
   ·exact .inr ⟨e,by simp,h⟩
  ·exact .inr ⟨i,by simp [hi],hq⟩
theorem a3g{o:List (List UInt8)}{s t:List UInt8}(h:t∈Cu o s):t∈o∨t=s:=by
 unfold Cu at h;split at h
 ·exact .inl h
 ·rcases List.mem_append.1 h with h|h
  ·exact .inl h
  ·exact .inr (by simpa using h)
theorem b6H{ns:List Nd}{k:Int}{s:List UInt8}(h:s∈BH ns k):∃i∈undL ns k,kindAt ns i=1∧(Ab ns i).text=s:=by
 rcases VH (f:=nmF ns) (q:=fun i s=>kindAt ns i=1∧(Ab ns i).text=s) (fun o i s h=>by
  unfold nmF at h;split at h
  ·rcases a3g h with h|h
   ·exact .inl h
   ·exact .inr ⟨by assumption,h.symm⟩
  ·exact .inl h) _ _ s h with h|h
 ·cases h
 ·exact h
theorem b6I{ns:List Nd}{k:Int}{s:List UInt8}(h:s∈Bl ns k):∃i∈undL ns k,(kindAt ns i=12∨kindAt ns i=1)∧(Ab ns i).text=s:=by
 rcases VH (f:=ltF ns (undL ns k)) (q:=fun i s=>(kindAt ns i=12∨kindAt ns i=1)∧(Ab ns i).text=s) (fun o i s h=>by
  unfold ltF at h;split at h
  ·rename_i hk
   rcases a3g h with h|h
   ·exact .inl h
   ·exact .inr ⟨hk.imp id a3f,h.symm⟩
  ·exact .inl h) _ _ s h with h|h
 ·cases h
 ·exact h
theorem b6J{ns:List Nd}{k:Int}{s:List UInt8}(h:s∈Bl ns k++BH ns k):∃i∈undL ns k,Cj (kindAt ns i)=true∧(Ab ns i).text=s:=by
 rcases List.mem_append.1 h with h|h
 ·obtain⟨i,h1,h2,h3⟩:=b6I h
  exact⟨i,h1,by rcases h2 with h2|h2<;>simp [Cj,h2],h3⟩
 ·obtain⟨i,h1,h2,h3⟩:=b6H h
  exact⟨i,h1,by simp [Cj,h2],h3⟩
theorem a3h{ns:List Nd}{k:Int}{s:List UInt8}(h:s∈Bl ns k++BH ns k):¬BV ns k s=0∧BK s=true∧∃i:Int,(0≤i∧i<ns.length)∧(Ab ns i).text=s:=by
 obtain⟨i,h1,h2,h3⟩:=b6J h
 have hb:=Hs h1
 refine⟨b6G h1 h2 h3,?_,i,hb.1,h3⟩
 have:=(CS hb.2).2.2.1
 rw[kindAt] at h2
 rw[VE h2,h3] at this;exact this
theorem b6K{ns:List Nd}{k:Int}{s:List UInt8}(h:s∈CE ns k):¬BV ns k s=0:=(a3h (List.mem_append_right _ (List.mem_filter.1 h).1)).1
def FO(a b s:List UInt8):List UInt8:=if s=a then b else if s=b then a else s
theorem VI{a b s t:List UInt8}(h:FO a b s=FO a b t):s=t:=by
 unfold FO at h
 split at h<;>split at h<;>(try split at h)<;>(try split at h)<;>simp_all
theorem b6L{ρ:List UInt8→List UInt8}(hi:∀s t,ρ s=ρ t→s=t)(o:List (List UInt8))(s:List UInt8):Cu (o.map ρ) (ρ s)=(Cu o s).map ρ:=by
 have e:(o.map ρ).elem (ρ s)=o.elem s:=by
  rw[Bool.eq_iff_iff,List.elem_iff,List.elem_iff,List.mem_map]
  exact⟨fun⟨t,ht,he⟩=>hi _ _ he▸ht,fun h=>⟨s,h,rfl⟩⟩
 unfold Cu
 rw[e]
 cases o.elem s<;>simp
theorem VJ{f g:List (List UInt8)→Int→List (List UInt8)}{ρ:List UInt8→List UInt8}:∀(l:List Int) (o:List (List UInt8)),(∀i∈l,∀o,g (o.map ρ) i=(f o i).map ρ)→l.foldl g (o.map ρ)=(l.foldl f o).map ρ
 |[],o,_=>rfl
 |e::l,o,h=>by
  rw[List.foldl_cons,List.foldl_cons,h e (by simp),VJ l _ fun i hi=>h i (by simp [hi])]
theorem b6M{ρ:List UInt8→List UInt8}(hi:∀s t,ρ s=ρ t→s=t)(u l:List (List UInt8)):((l.map ρ).filter fun s=> !(u.map ρ).elem s).length=(l.filter fun s=> !u.elem s).length:=by
 have e:∀s,(u.map ρ).elem (ρ s)=u.elem s:=fun s=>by
  rw[Bool.eq_iff_iff,List.elem_iff,List.elem_iff,List.mem_map]
  exact⟨fun⟨t,ht,he⟩=>hi _ _ he▸ht,fun h=>⟨s,h,rfl⟩⟩
 generalize u.map ρ=v at e ⊢
 induction l with
 |nil=>rfl
 |cons s l ih=>
  rw[List.map_cons,List.filter_cons,List.filter_cons,e]
  cases u.elem s
  ·simp only[Bool.not_false,if_true,List.length_cons,ih]
  ·simp only[Bool.not_true,Bool.false_eq_true,if_false,ih]
theorem VK{L:List Nd}{k i:Int}{a b:List UInt8}(hu:i∈undL L k)(hn:Cj (kindAt L i)=true)(hb:CF L b=false):(Ab (rnF L (undL L k) a b) i).text=FO a b (Ab L i).text:=by
 have hi:=(Hs hu).1
 rw[a2Z i hi.1 hi.2,List.elem_iff.2 hu,Bool.true_and]
 rw[kindAt] at hn
 rw[hn,Bool.true_and]
 have hne:=Pc hb hi
 unfold FO
 by_cases e:(Ab L i).text=a
 ·rw[if_pos (by simpa using e),if_pos e]
 ·rw[if_neg (by simpa using e),if_neg e,if_neg hne]
theorem b6N{L:List Nd}{k:Int}{a b:List UInt8}(ha:BK a=true)(hb:BK b=true)(hf:CF L b=false):(DD (rnF L (undL L k) a b) k).length=(DD L k).length:=by
 have hs:=VF (L:=L) (S:=undL L k) ha hb
 have hU:=hs.undL k
 have e1:Bl (rnF L (undL L k) a b) k=(Bl L k).map (FO a b):=by
  unfold Bl;rw[hU]
  refine VJ (ρ:=FO a b) (undL L k) [] fun i hi o=> ?_
  unfold ltF
  rw[hs.kindAt,hs.isPar]
  split
  ·rename_i hk
   have hn:Cj (kindAt L i)=true:=by
    rcases hk with hk|hk
    ·simp [Cj,hk]
    ·simp [Cj,a3f hk]
   rw[VK hi hn hf,b6L fun _ _=>VI]
  ·rfl
 have e2:DC (rnF L (undL L k) a b) k=(DC L k).map (FO a b):=by
  unfold DC;rw[hU]
  refine VJ (ρ:=FO a b) (undL L k) [] fun i hi o=> ?_
  unfold usF
  rw[hs.kindAt,hs.isPar]
  split
  ·rename_i hk
   simp only[Bool.and_eq_true,decide_eq_true_eq] at hk
   rw[VK hi (by simp [Cj,hk.1]) hf];simp
  ·rfl
 unfold DD
 rw[e1,e2]
 exact b6M (fun _ _=>VI) _ _
theorem a3i{L:List Nd}{k:Int}{a b s:List UInt8}(ha:BK a=true)(hb:BK b=true)(hf:CF L b=false):BV (rnF L (undL L k) a b) k (FO a b s)=BV L k s:=by
 have hs:=VF (L:=L) (S:=undL L k) ha hb
 rw[RS,RS,hs.undL]
 congr 1
 apply List.countP_congr
 intro i hi
 rw[hs.kindAt]
 by_cases hn:Cj (kindAt L i)=true
 ·rw[hn,VK hi hn hf]
  simp only[Bool.true_and,beq_iff_eq]
  exact⟨fun h=>VI h,fun h=>by rw[h]⟩
 ·simp only[Bool.not_eq_true] at hn;rw[hn];simp
theorem b6O{L:List Nd}{U:List Int}{a b:List UInt8}(hf:CF L b=false):rnF (rnF L U a b) U b a=L:=by
 apply List.ext_getElem?
 intro j
 rw[HZ,HZ]
 cases hx:L[j]? with
 |none=>rfl
 |some x=>
  have hj:=(List.getElem?_eq_some_iff.1 hx).1
  have hne:x.text≠b:=by
   have:=Pc (i:=(j:Int)) hf (by omega)
   rwa [AZ (by simpa using hx)] at this
  simp only[Option.map_some]
  by_cases h:(U.elem (j:Int)&&(Cj x.kind&&x.text==a))=true
  ·simp only[h,if_true]
   simp only[Bool.and_eq_true,beq_iff_eq] at h
   rw[h.1,h.2.1]
   simp [←h.2.2]
  ·simp only[h,if_false,Bool.false_eq_true]
   rw[if_neg (by simp [hne])]
end Go.My
end
section
set_option linter.unusedVariables false
set_option linter.unusedSimpArgs false
namespace Go.My
open Go.Eng Go.Proofs
variable {G:GInv}
theorem VL{j:Int}:∀ {l:List Nd} {p q:Nat} {x y:Nd},p<q→l[p]? =some x→l[q]? =some y→j∈x.kids→j∈y.kids→2≤(BC l).count j
 |[],p,q,x,y,_,h,_,_,_=>by simp at h
 |z::l,p,q,x,y,hpq,hx,hy,h1,h2=>by
  unfold BC;rw[List.flatMap_cons,List.count_append]
  obtain⟨q',rfl⟩:∃q',q=q'+1:=⟨q-1,by omega⟩
  rw[List.getElem?_cons_succ] at hy
  cases p with
  |zero=>
   simp only[List.getElem?_cons_zero,Option.some.injEq] at hx
   subst hx
   have c1:=List.count_pos_iff.2 h1
   have c2:0<(l.flatMap (·.kids)).count j:=List.count_pos_iff.2 (List.mem_flatMap.2 ⟨y,List.mem_of_getElem? hy,h2⟩)
   omega
  |succ p=>
   rw[List.getElem?_cons_succ] at hx
   have:=VL (l:=l) (by omega) hx hy h1 h2
   unfold BC at this;omega
theorem VM{ns:List Nd}{p q j:Int}(h:treeOk ns=true)(hp:0≤p∧p<ns.length)(hq:0≤q∧q<ns.length)(h1:j∈(Ab ns p).kids)(h2:j∈(Ab ns q).kids):p=q:=by
 have t:=Dd h
 have hn:=t.1.1 p.toNat (by omega)
 rw[show((p.toNat:Nat):Int)=p by omega] at hn
 have hb:=(CS hn).2.2.2.1 j h1
 have hc:=t.1.2 j.toNat (by omega)
 rw[show((j.toNat:Nat):Int)=j by omega] at hc
 by_cases e:p=q
 ·exact e
 ·exfalso
  rcases Int.lt_or_gt_of_ne e with e|e
  ·have:=VL (j:=j) (p:=p.toNat) (q:=q.toNat) (by omega) (HY hp.1 hp.2) (HY hq.1 hq.2) h1 h2;omega
  ·have:=VL (j:=j) (p:=q.toNat) (q:=p.toNat) (by omega) (HY hq.1 hq.2) (HY hp.1 hp.2) h2 h1;omega
theorem Ih{ns:List Nd}{k:Int}(h:treeOk ns=true)(hk:0≤k∧k<ns.length):Dc ns k:=⟨Ci.2 hk,fun j hj=>(Dd h).1.1 j (by omega)⟩
theorem Ja{ns:List Nd}{k c:Int}(h:treeOk ns=true)(hk:0≤k∧k<ns.length)(hc:c∈(Ab ns k).kids):0≤c∧c<k:=
 (CS (Ui (Ih h hk))).2.2.2.1 c hc
theorem b6P{ns:List Nd}{k c d:Int}(h:treeOk ns=true)(hk:0≤k∧k<ns.length)(hc:c∈(Ab ns k).kids)(hd:d∈(Ab ns k).kids)(hcd:c≠d){j:Int}(h1:Und ns c j):¬Und ns d j:=by
 have bc:=Ja h hk hc;have bd:=Ja h hk hd
 have uc:=Ih h (k:=c) (by omega);have ud:=Ih h (k:=d) (by omega)
 induction h1 with
 |base=>
  intro h2
  rcases Qz h2 with e|⟨p,hp,hm⟩
  ·exact hcd e
  ·have b:=FB ud hp
   have:=VM h (by omega) hk hm hc;omega
 |step hp hm ih=>
  rename_i p j
  intro h2
  have b:=FB uc hp
  rcases Qz h2 with e|⟨q,hq,hm2⟩
  ·subst e
   have:=VM h (by omega) hk hm hd;omega
  ·have b2:=FB ud hq
   have:=VM h (by omega) (by omega) hm hm2
   subst this;exact ih hq
noncomputable def CQ (ns:List Nd) (k:Int):List Int:=DB (Iw ns.length (Und ns k))
theorem MX{ns:List Nd}{k j:Int}(h:Dc ns k):j∈CQ ns k↔Und ns k j:=by
 rw[CQ,Mh,(Mi (P:=Und ns k) (n:=ns.length) fun j hj=>by have:=FB h hj;have:=Ci.1 h.1;omega).2]
theorem a3j(ns:List Nd)(k:Int):(CQ ns k).length≤ns.length:=Nat.le_trans (Og _) (by simp [Iw])
theorem b6Q{ns:List Nd}{k:Int}(h:treeOk ns=true)(hk:0≤k∧k<ns.length):1+((Ab ns k).kids.map fun c=>(CQ ns c).length).sum=(CQ ns k).length:=by
 have hu:=Ih h hk
 have hkn:=(CS (Ui hu)).2.2.2.2.1
 have key:∀l:List Int,l.Nodup→(∀c∈l,c∈(Ab ns k).kids)→(l.flatMap (CQ ns)).Nodup∧(l.flatMap (CQ ns)).length=(l.map fun c=>(CQ ns c).length).sum:=by
  intro l
  induction l with
  |nil=>intro _ _;exact⟨List.Pairwise.nil,rfl⟩
  |cons c l ih=>
   intro hn hs
   rw[List.nodup_cons] at hn
   obtain⟨i1,i2⟩:=ih hn.2 fun d hd=>hs d (by simp [hd])
   rw[List.flatMap_cons,List.map_cons,List.sum_cons,List.length_append,i2]
   refine⟨List.nodup_append.2 ⟨Ut _,i1,fun a ha b hb e=> ?_⟩,rfl⟩
   subst e
   obtain⟨d,hd,hb⟩:=List.mem_flatMap.1 hb
   have bc:=Ja h hk (hs c (by simp));have bd:=Ja h hk (hs d (by simp [hd]))
   exact b6P h hk (hs c (by simp)) (hs d (by simp [hd])) (fun e=>hn.1 (e▸hd)) ((MX (Ih h (by omega))).1 ha) ((MX (Ih h (by omega))).1 hb)
 obtain⟨k1,k2⟩:=key _ hkn fun c hc=>hc
 rw[←k2]
 have hnd:(k::(Ab ns k).kids.flatMap (CQ ns)).Nodup:=by
  refine List.nodup_cons.2 ⟨fun hm=> ?_,k1⟩
  obtain⟨c,hc,hm⟩:=List.mem_flatMap.1 hm
  have bc:=Ja h hk hc
  have:=FB (Ih h (k:=c) (by omega)) ((MX (Ih h (by omega))).1 hm);omega
 have e1:∀j,j∈k::(Ab ns k).kids.flatMap (CQ ns)↔j∈CQ ns k:=by
  intro j
  rw[MX hu,List.mem_cons,List.mem_flatMap]
  constructor
  ·rintro(rfl|⟨c,hc,hm⟩)
   ·exact .base
   ·have bc:=Ja h hk hc
    exact YX (.step .base hc) ((MX (Ih h (by omega))).1 hm)
  ·intro hj
   rcases a7Z hj with e|⟨c,hc,hm⟩
   ·exact .inl e
   ·have bc:=Ja h hk hc
    exact .inr ⟨c,hc,(MX (Ih h (by omega))).2 hm⟩
 have l1:=QL hnd fun j hj=>(e1 j).1 hj
 have l2:=QL (l:=CQ ns k) (show(CQ ns k).Nodup from Ut _) fun j hj=>(e1 j).2 hj
 simp only[List.length_cons] at l1 l2;omega
theorem b6R{ns:List Nd}{k:Int}(h:treeOk ns=true)(hk:0≤k∧k<ns.length):deepOf ns k≠0:=by
 have t:=h
 simp only[treeOk,Bool.and_eq_true,decide_eq_true_eq,Bool.not_eq_true',decide_eq_false_iff_not] at t
 obtain⟨h1,⟨ds,h2⟩,_⟩:=PV t.2.2.1
 have:∃es,deeps ns (k.toNat+1)=some es:=by
  cases hh:deeps ns (k.toNat+1) with
  |some es=>exact⟨es,rfl⟩
  |none=>rw[TK hh (by omega)] at h2;cases h2
 obtain⟨es,h3⟩:=this
 exact a4Y (Ci.2 hk) h3
theorem b6S{ns:List Nd}{k:Int}(h:treeOk ns=true)(hk:0≤k∧k<ns.length):undL ns k=CQ ns k:=by rw[undL,if_neg (b6R h hk)];rfl
def szI(x:List Nd×Int)(i n:Int):Prop:=((treeOk x.1=true∧0≤x.2∧x.2<x.1.length)∧0≤i∧i≤(Ab x.1 x.2).kids.length)∧n=1+(((Ab x.1 x.2).kids.take i.toNat).map fun c=>(CQ x.1 c).length).sum
theorem b6T{x:List Nd×Int}(h:treeOk x.1=true)(hk:0≤x.2∧x.2<x.1.length):szI x 0 1:=⟨⟨⟨h,hk⟩,by omega,by omega⟩,by simp⟩
theorem a3k(ns:List Nd):∀l:List Int,(l.map fun c=>(CQ ns c).length).sum≤ns.length*l.length
 |[]=>by simp
 |c::l=>by have:=a3k ns l;have:=a3j ns c;rw[List.map_cons,List.sum_cons,List.length_cons,Nat.mul_succ];omega
theorem b6U{x:List Nd×Int}{i n:Int}(h:szI x i n):(((0≤x.2∧x.2<x.1.length)∧x.1.length≤300)∧(0≤i∧i≤(Ab x.1 x.2).kids.length)∧(Ab x.1 x.2).kids.length≤12)∧1≤n∧n≤3700:=by
 have t:=(Dd h.1.1.1).2.2.1
 have h12:=QN h.1.1.1 h.1.1.2
 refine⟨⟨⟨h.1.1.2,t⟩,h.1.2,h12⟩,?_⟩
 have hs:=a3k x.1 ((Ab x.1 x.2).kids.take i.toNat)
 have hl:((Ab x.1 x.2).kids.take i.toNat).length≤12:=by rw[List.length_take];omega
 have:x.1.length*((Ab x.1 x.2).kids.take i.toNat).length≤300*12:=Nat.mul_le_mul t hl
 rw[h.2];omega
theorem b6V{x:List Nd×Int}{i n c:Int}{e:Nd}(h:szI x i n)(he:x.1[x.2.toNat]? =some e)(hc:e.kids[i.toNat]? =some c):(0≤c∧c<x.2)∧(CQ x.1 c).length≤300:=
 ⟨Ja h.1.1.1 h.1.1.2 (by rw[AZ he];exact List.mem_of_getElem? hc),Nat.le_trans (a3j _ _) (Dd h.1.1.1).2.2.1⟩
theorem b6W{x:List Nd×Int}{i n c:Int}{e:Nd}(h:szI x i n)(he:x.1[x.2.toNat]? =some e)(hc:e.kids[i.toNat]? =some c):szI x (i+1) (n+(CQ x.1 c).length):=by
 have hl:=(List.getElem?_eq_some_iff.1 hc).1
 obtain⟨⟨h1,h2⟩,h3⟩:=h
 rw[AZ he] at h2 h3
 refine⟨⟨h1,by omega,by rw[AZ he];omega⟩,?_⟩
 rw[AZ he,show(i+1).toNat=i.toNat+1 by omega,List.take_add_one,hc,h3];simp;omega
theorem b6X{x:List Nd×Int}{i n:Int}{e:Nd}(h:szI x i n)(he:x.1[x.2.toNat]? =some e)(hl:¬i<(e.kids.length:Int)):n=(CQ x.1 x.2).length:=by
 have:=b6Q h.1.1.1 h.1.1.2
 rw[h.2,List.take_of_length_le (by rw[AZ he];omega)];omega
noncomputable def Jb (n:Nat):Sig:= {X:=List Nd×Int,args:=fun x=>[nds x.1,.int .i64 x.2],pre:=fun x=>(treeOk x.1=true∧0≤x.2∧x.2<x.1.length)∧x.2<n,Y:=Unit,post:=fun _ _=>True,res:=fun x _=> .int .i64 (CQ x.1 x.2).length,outs:=fun _ _=>[.top,.top],keep:=false}
attribute [local irreducible] szI treeOk CQ
noncomputable def VN (n:Nat):Sig:= {X:=List Nd×Int,args:=fun x=>[nds x.1,.int .i64 x.2],pre:=fun x=>(treeOk x.1=true∧0≤x.2∧x.2<x.1.length)∧x.2<(n+1:Nat),Y:=Unit,post:=fun x y=>True,res:=fun x y=> .int .i64 (CQ x.1 x.2).length,outs:=fun x y=>[.top,.top],keep:=false}
noncomputable def RT (n:Nat) (x:List Nd×Int):LS:= {ι:=Int×Int,inv:=fun i=>szI x i.1 i.2,regs:=fun i=>[(0,nds x.1),(1,.int .i64 x.2),(5,.int .i64 i.2),(6,.int .i64 i.1)],als:=[],meas:=fun i=>(Ab x.1 x.2).kids.length-i.1.toNat}
theorem b6Y(n:Nat)(hc:Al G Go.Proofs.Tryz.prog 32 (Jb n)):Al G Tryz.prog 32 (VN n):=
 vcFun_okP [(32,0,(Jb n))] [] false (fun x=>[(3,RT n x)]) Tryz.func32 rfl (by decide) ⟨hc,trivial⟩ (fun(x:List Nd×Int)=>(∀(y:Unit),True→True∧True∧True∧True)∧eA (RT n x) [nds x.1,.int .i64 x.2,.int .i64 (1:Int),.int .i64 (0:Int)]∧∀(i:Int×Int),szI x i.1 i.2→((0:Int)≤x.2∧x.2<(↑(List.length x.1):Int))∧∀(e:Nd),x.1[Int.toNat x.2]? =some e→Aa (decide (i.1<(↑(List.length e.kids):Int))) (((0:Int)≤x.2∧x.2<(↑(List.length x.1):Int))∧∀(e:Nd),x.1[Int.toNat x.2]? =some e→((0:Int)≤i.1∧i.1<(↑(List.length e.kids):Int))∧∀(e_1:Int),e.kids[Int.toNat i.1]? =some e_1→cA (Jb n) [nds x.1,.int .i64 e_1] fun x_1 y=>inR IntKind.i64 (i.2+(↑(List.length (CQ x_1.1 x_1.2)):Int))∧inR IntKind.i64 (i.1+(1:Int))∧eN (RT n x) i [nds x.1,.int .i64 x.2,.int .i64 (i.2+(↑(List.length (CQ x_1.1 x_1.2)):Int)),.int .i64 (i.1+(1:Int))]) (rA (VN n) x [.int .i64 i.2,.top,.top])) (fun x=>by kernel_rfl) fun(x:List Nd×Int) (hx:(treeOk x.1=true∧0≤x.2∧x.2<x.1.length)∧x.2<(n+1:Nat))=>(by
 dsimp only[cA,eA,eN,RT,Bt,nds,rA,Jb,VN,Av,AA,mvL,lnL,mvE,lnE,Bi]
 obtain⟨⟨h1,h2⟩,h3⟩:=hx
 (repeat' first|(with_reducible first|rfl|exact True.intro|apply AL|apply And.intro|((first|apply AB|apply AJ|apply AC|apply AK)<;>intro _))|(apply Az<;>intro _)|apply AI|refine Ag () ?_ ?_|((first|apply AP|apply AO|apply AN|apply AM|apply AH|apply AG|apply AF|apply AE|apply AD)<;>try dsimp only)|apply Ag|(refine Prod.forall.2 ?_;intro _;try dsimp only)|(intro _;try dsimp only))
 all_goals(try((repeat(rename(_:List Nd)[Int.toNat _]? =some _=>hq;have hqe:=AZ hq;subst hqe;revert hq));intros))
 all_goals(try(have hB:=b6U (show szI _ _ _ by assumption)))
 all_goals(try(have hC:=b6V (show szI _ _ _ by assumption) ‹_› ‹_›))
 all_goals first
  |rfl
  |exact h1
  |omega
  |exact b6T h1 h2
  |exact b6W ‹_› ‹_› ‹_›
  |exact b6X ‹_› ‹_› ‹_›
  |((try simp only[AR]);omega)
  |skip)
theorem b6Z:Al G Go.Proofs.Tryz.prog 32 (Jb 0):=
 ⟨⟨⟨_,Go.Proofs.Tryz.func32,by kernel_rfl,by kernel_rfl⟩,fun x y _ _=>⟨trivial,trivial,trivial,trivial⟩⟩,fun x hx=>by
   exfalso
   have hx:(treeOk x.1=true∧0≤x.2∧x.2<x.1.length)∧x.2<((0:Nat):Int):=hx
   omega⟩
theorem a3l:∀n,Al G Go.Proofs.Tryz.prog 32 (Jb n)
 |0=>b6Z
 |n+1=>b6Y n (a3l n)
end Go.My
end
section
set_option linter.unusedVariables false
set_option linter.unusedSimpArgs false
namespace Go.My
open Go.Eng Go.Proofs
variable {G:GInv}
def Lh(L:List Nd)(nm:List UInt8)(c:Int):Bool:=decide (kindAt L c=20)&&(Ab L c).text==nm
def Ha(L:List Nd)(nm:List UInt8):Int:=if treeOk L=true then((Ab L ((L.length:Int)-1)).kids.find? (Lh L nm)).getD (-1) else-1
def EY(x:List Nd×List UInt8)(i:Int):Prop:=((treeOk x.1=true∧x.1.length≤300)∧0≤i∧i≤(Ab x.1 ((x.1.length:Int)-1)).kids.length)∧((Ab x.1 ((x.1.length:Int)-1)).kids.take i.toNat).find? (Lh x.1 x.2)=none
theorem Pd{x:List Nd×List UInt8}(h:treeOk x.1=true):1≤x.1.length∧x.1.length≤300:=⟨(Dd h).2.1,(Dd h).2.2.1⟩
theorem b7a{x:List Nd×List UInt8}(h:treeOk x.1=true):EY x 0:=⟨⟨⟨h,(Pd h).2⟩,by omega,by omega⟩,by simp⟩
theorem b7b{x:List Nd×List UInt8}{i:Int}(h:EY x i):((0≤i∧i≤(Ab x.1 ((x.1.length:Int)-1)).kids.length)∧(Ab x.1 ((x.1.length:Int)-1)).kids.length≤12)∧1≤x.1.length∧x.1.length≤300:=
 ⟨⟨h.1.2,QN h.1.1.1 (by have:=Pd h.1.1.1;omega)⟩,Pd h.1.1.1⟩
theorem b7c{x:List Nd×List UInt8}{i c:Int}(h:EY x i)(hc:(Ab x.1 ((x.1.length:Int)-1)).kids[i.toNat]? =some c):0≤c∧c<x.1.length:=by
 have:=Pd h.1.1.1
 have:=Ja h.1.1.1 (k:=(x.1.length:Int)-1) (by omega) (List.mem_of_getElem? hc);omega
theorem a3m{x:List Nd×List UInt8}{i c:Int}(h:EY x i)(hc:(Ab x.1 ((x.1.length:Int)-1)).kids[i.toNat]? =some c)(hp:Lh x.1 x.2 c=false):EY x (i+1):=by
 have hl:=(List.getElem?_eq_some_iff.1 hc).1
 obtain⟨⟨h1,h2⟩,h3⟩:=h
 refine⟨⟨h1,by omega,by omega⟩,?_⟩
 rw[show(i+1).toNat=i.toNat+1 by omega,List.take_add_one,hc,List.find?_append,h3];simp [hp]
theorem b7d{x:List Nd×List UInt8}{i c:Int}{e:Nd}(h:EY x i)(hc:(Ab x.1 ((x.1.length:Int)-1)).kids[i.toNat]? =some c)(he:x.1[c.toNat]? =some e)(hp:¬e.kind=20):EY x (i+1):=
 a3m h hc (by rw[Lh,kindAt,AZ he,decide_eq_false hp];rfl)
theorem a3n{x:List Nd×List UInt8}{i c:Int}{e:Nd}(h:EY x i)(hc:(Ab x.1 ((x.1.length:Int)-1)).kids[i.toNat]? =some c)(he:x.1[c.toNat]? =some e)(hp:(e.text==x.2)=false):EY x (i+1):=
 a3m h hc (by rw[Lh,AZ he,hp];simp)
theorem a3o{x:List Nd×List UInt8}{i c:Int}{e:Nd}(h:EY x i)(hc:(Ab x.1 ((x.1.length:Int)-1)).kids[i.toNat]? =some c)(he:x.1[c.toNat]? =some e)(hk:e.kind=20)(ht:(e.text==x.2)=true):c=Ha x.1 x.2:=by
 have hp:Lh x.1 x.2 c=true:=by rw[Lh,kindAt,AZ he,decide_eq_true hk,ht];rfl
 have hl:=(List.getElem?_eq_some_iff.1 hc)
 obtain⟨hl1,hl2⟩:=hl
 obtain⟨⟨h1,h2⟩,h3⟩:=h
 rw[Ha,if_pos h1.1]
 have e1:(Ab x.1 ((x.1.length:Int)-1)).kids=(Ab x.1 ((x.1.length:Int)-1)).kids.take i.toNat++c::(Ab x.1 ((x.1.length:Int)-1)).kids.drop (i.toNat+1):=by
  rw[←hl2,←List.drop_eq_getElem_cons hl1,List.take_append_drop]
 rw[e1,List.find?_append,h3];simp [hp]
theorem b7e{x:List Nd×List UInt8}{i:Int}(h:EY x i)(hl:¬i<((Ab x.1 ((x.1.length:Int)-1)).kids.length:Int)): -1=Ha x.1 x.2:=by
 have:=h.2;rw[List.take_of_length_le (by omega)] at this
 rw[Ha,if_pos h.1.1.1,this];rfl
theorem b7f{x:List Nd×List UInt8}(h:treeOk x.1=false): -1=Ha x.1 x.2:=by rw[Ha,if_neg (by rw[h];simp)]
def a3p(L:List Nd):Bool:=decide (Ha L [109,97,105,110]=8)&&(decide (kindAt L 8=20)&&(Gd (kindAt L 9)&&((Ab L 9).kids.elem 8&&decide (L.length=10))))
theorem b7g:(CU [109,97,105,110,40,41,32,123,32,97,40,98,44,32,99,32,43,32,100,41,59,32,125]).map a3p=some true:=by decide+kernel
def mbP(L:List Nd)(k:Int):Prop:=(treeOk L=true∧Bc L)∧k∈memL L∧¬kindAt L k=21
theorem a3q{L:List Nd}(h:L=(CU [109,97,105,110,40,41,32,123,32,97,40,98,44,32,99,32,43,32,100,41,59,32,125]).getD []∧Bc L):mbP L (Ha L [109,97,105,110]):=by
 have hf:=b7g
 cases hr:CU [109,97,105,110,40,41,32,123,32,97,40,98,44,32,99,32,43,32,100,41,59,32,125] with
 |none=>rw[hr] at hf;cases hf
 |some M=>
  rw[hr] at hf h
  obtain⟨rfl,hok⟩:=h
  simp only[Option.getD_some,Option.map_some,Option.some.injEq] at hf hok ⊢
  have ht:=a2H hr
  simp only[a3p,Bool.and_eq_true,decide_eq_true_eq,List.elem_iff] at hf
  obtain⟨h1,h2,h3,h4,h5⟩:=hf
  rw[h1]
  refine⟨⟨ht,hok⟩,a0h.2 ⟨ht,by rw[h2];decide,9,by omega,h3,h4⟩,by rw[h2];decide⟩
theorem b7h{L:List Nd}{i k:Int}{e:Nd}(h:treeOk L=true∧Bc L)(hk:(memL L)[i.toNat]? =some k)(he:L[k.toNat]? =some e)(hq:¬e.kind=21):mbP L k:=⟨h,List.mem_of_getElem? hk,by rw[kindAt,AZ he];exact hq⟩
theorem a3r{L:List Nd}(h:treeOk L=true∧Bc L):(L.length≤300∧1≤L.length)∧(memL L).length≤300:=by
 have:=(Dd h.1).2;have:= @a0i L;omega
theorem a3s{L:List Nd}{i k:Int}(hk:(memL L)[i.toNat]? =some k):0≤k∧k<L.length:=QK (List.mem_of_getElem? hk)
def JP(x:List UInt8)(L:List Nd)(i c:Int):Prop:=((treeOk L=true∧Bc L)∧0≤i∧i≤(memL L).length)∧Af x c
theorem b7i{x:List UInt8}{L:List Nd}{i c:Int}(h:JP x L i c):((treeOk L=true∧Bc L)∧0≤i∧i≤(memL L).length)∧Af x c:=h
theorem b7j{x:List UInt8}{k c:Int}{P:Prop}(h:(((0:Int)<5→0≤k∧k<5)∧P)∧Af x c):(0≤k∧k<5)∧Af x c:=⟨h.1.1 (by decide),h.2⟩
theorem b7k{i k:Int}{n:Nat}(h:0≤i∧i≤n)(hl:i<n)(hk:0≤k∧k<5):(0≤(i+k).tmod n∧(i+k).tmod n<n)∧((i+k).tmod n).toNat<n:=by
 have:= @Oz (i+k) n (by omega) (by omega);omega
theorem b7l{x:List UInt8}{L:List Nd}{c:Int}(h:treeOk L=true∧Bc L)(hc:Af x c):JP x L 0 c:=⟨⟨h,by omega,by omega⟩,hc⟩
theorem b7m{x:List UInt8}{L:List Nd}{i c d:Int}(h:JP x L i c)(hl:i<(memL L).length)(hd:Af x d):JP x L (i+1) d:=⟨⟨h.1.1,by have:=h.1.2;omega,by omega⟩,hd⟩
theorem a3t{L:List Nd}(h:L=(CU [109,97,105,110,40,41,32,123,32,97,40,98,44,32,99,32,43,32,100,41,59,32,125]).getD []∧Bc L):Bc L∧L.length≤2^30:=by
 have h1:=(a3q h).1.1
 exact⟨h.2,by have:=(Dd h1).2.2.1;omega⟩
attribute [local irreducible] EY treeOk Ha memL CU mbP Af
noncomputable def JQ:Sig:= {X:=List Nd×List UInt8,args:=fun x=>[nds x.1,.str x.2],pre:=fun x=>Bc x.1∧x.1.length≤2^30,Y:=Unit,post:=fun x y=>True,res:=fun x y=> .int .i64 (Ha x.1 x.2),outs:=fun x y=>[.top,.top],keep:=false}
noncomputable def Pe (x:List Nd×List UInt8):LS:= {ι:=Int,inv:=fun i=>EY x i,regs:=fun i=>[(0,nds x.1),(1,.str x.2),(5,An (Ab x.1 ((x.1.length:Int)-1)).kids),(6,.int .i64 i)],als:=[],meas:=fun i=>(Ab x.1 ((x.1.length:Int)-1)).kids.length-i.toNat}
theorem b7n:Al G Tryz.prog 74 JQ:=
 vcFun_okP [(17,0,DN)] [] false (fun x=>[(5,Pe x)]) Tryz.func74 rfl (by decide) ⟨Qx,trivial⟩ (fun(x:List Nd×List UInt8)=>(∀(y:Unit),True→True∧True∧True∧True)∧cA DN [nds x.1] fun x_1 y=>Aa (!treeOk x_1) (rA JQ x [.int .i64 (-1:Int),.top,.top]) (inR IntKind.i64 ((↑(List.length x.1):Int)-(1:Int))∧((0:Int)≤(↑(List.length x.1):Int)-(1:Int)∧(↑(List.length x.1):Int)-(1:Int)<(↑(List.length x.1):Int))∧∀(e:Nd),x.1[Int.toNat ((↑(List.length x.1):Int)-(1:Int))]? =some e→eA (Pe x) [nds x.1,.str x.2,An e.kids,.int .i64 (0:Int)]∧∀(i:Int),EY x i→Aa (decide (i<(↑(List.length (Ab x.1 ((↑(List.length x.1):Int)-(1:Int))).kids):Int))) (((0:Int)≤i∧i<(↑(List.length (Ab x.1 ((↑(List.length x.1):Int)-(1:Int))).kids):Int))∧∀(e:Int),(Ab x.1 ((↑(List.length x.1):Int)-(1:Int))).kids[Int.toNat i]? =some e→((0:Int)≤e∧e<(↑(List.length x.1):Int))∧∀(e_1:Nd),x.1[Int.toNat e]? =some e_1→Aa (e_1.kind==(20:Int)) (((0:Int)≤i∧i<(↑(List.length (Ab x.1 ((↑(List.length x.1):Int)-(1:Int))).kids):Int))∧∀(e:Int),(Ab x.1 ((↑(List.length x.1):Int)-(1:Int))).kids[Int.toNat i]? =some e→((0:Int)≤e∧e<(↑(List.length x.1):Int))∧∀(e_2:Nd),x.1[Int.toNat e]? =some e_2→Aa (e_2.text==x.2) (((0:Int)≤i∧i<(↑(List.length (Ab x.1 ((↑(List.length x.1):Int)-(1:Int))).kids):Int))∧∀(e:Int),(Ab x.1 ((↑(List.length x.1):Int)-(1:Int))).kids[Int.toNat i]? =some e→rA JQ x [.int .i64 e,.top,.top]) (inR IntKind.i64 (i+(1:Int))∧eN (Pe x) i [nds x.1,.str x.2,An (Ab x.1 ((↑(List.length x.1):Int)-(1:Int))).kids,.int .i64 (i+(1:Int))])) (inR IntKind.i64 (i+(1:Int))∧eN (Pe x) i [nds x.1,.str x.2,An (Ab x.1 ((↑(List.length x.1):Int)-(1:Int))).kids,.int .i64 (i+(1:Int))])) (rA JQ x [.int .i64 (-1:Int),.top,.top]))) (fun x=>by kernel_rfl) fun(x:List Nd×List UInt8) (hx:Bc x.1∧x.1.length≤2^30)=>(by
 dsimp only[cA,eA,eN,Pe,An,Bt,nds,rA,JQ,DN,Av,AA,mvL,lnL,mvE,lnE,Bi]
 obtain⟨h1,h2⟩:=hx
 (repeat' first|(with_reducible first|rfl|exact True.intro|apply AL|apply And.intro|((first|apply AB|apply AJ|apply AC|apply AK)<;>intro _))|(apply Az<;>intro _)|apply AI|refine Ag () ?_ ?_|((first|apply AP|apply AO|apply AN|apply AM|apply AH|apply AG|apply AF|apply AE|apply AD)<;>try dsimp only)|apply Ag|(refine Prod.forall.2 ?_;intro _;try dsimp only)|(intro _;try dsimp only))
 all_goals(try(repeat(rename(_:List Int)[_]? =some _=>hq;revert hq;rename(_:List Int)[_]? =some _=>hr;intro hq;rw[hr] at hq;cases hq)))
 all_goals(try((repeat(rename(_:List Nd)[Int.toNat _]? =some _=>hq;have hqe:=AZ hq;subst hqe;revert hq));intros))
 all_goals(try(have hT:=Pd (show treeOk _=true by assumption)))
 all_goals(try(have hB:=b7b (show EY _ _ by assumption)))
 all_goals(try(have hC:=b7c (show EY _ _ by assumption) ‹_›))
 all_goals first
  |rfl
  |omega
  |exact h1
  |exact h2
  |exact b7f ‹_›
  |exact b7a ‹_›
  |exact a3o ‹_› ‹_› ‹_› ‹_› ‹_›
  |exact b7d ‹_› ‹_› ‹_› ‹_›
  |exact a3n ‹_› ‹_› ‹_› ‹_›
  |exact a3n ‹_› ‹_› ‹_› (beq_eq_false_iff_ne.2 ‹_›)
  |exact a3o ‹_› ‹_› ‹_› ‹_› (beq_iff_eq.2 ‹_›)
  |exact b7e ‹_› ‹_›
  |((try simp only[AR]);omega)
  |skip)
noncomputable def Li:Sig:= {X:=List UInt8,args:=fun x=>[.sl false 0 1 UInt8 byA x],pre:=fun x=>x.length≤2^21,Y:=List Nd×Int,post:=fun x y=>mbP y.1 y.2,res:=fun x y=> .tup [nds y.1,.int .i64 y.2],outs:=fun x y=>[.top],keep:=true}
noncomputable def VO (x:List UInt8):LS:= {ι:=Int×Int×Int×List Nd,inv:=fun i=>JP x i.2.2.2 i.1 i.2.1,regs:=fun i=>[(4,.box 0 (cur x i.2.1 i.2.2.1)),(5,nds i.2.2.2),(6,Ae (memL i.2.2.2)),(7,.int .i64 i.1)],als:=[],meas:=fun i=>(memL i.2.2.2).length-i.1.toNat}
theorem b7o:Al G Tryz.prog 20 Li:=
 vcFun_okP [(49,0,RN),(48,0,a2K),(47,0,KM),(51,0,De),(73,0,Ev),(74,0,JQ)] [] false (fun x=>[(5,VO x)]) Tryz.func20 rfl (by decide) ⟨b5R,b5P,b0l,Hv,a2A,b7n,trivial⟩ (fun(x:List UInt8)=>True∧cA RN [byL x] fun x_1 y=>∃(x_2:Value×List UInt8×Int×Int),Af x_2.2.1 x_2.2.2.1∧(y.2=y.2∧y.2=x_2.1)∧byL x_1=byL x_2.2.1∧(0:Int)=x_2.2.2.1∧y.1=x_2.2.2.2∧∀(y_1:List Nd×Int×Int),(treeOk y_1.1=true∧Bc y_1.1)∧Af x_2.2.1 y_1.2.1→y.2=y.2∧cA KM [nds y_1.1] fun x_3 y_2=>(∃(i:Int×Int×Int×List Nd),JP x i.2.2.2 i.1 i.2.1∧(y.2=y.2∧byL x_2.2.1=byL x∧y_1.2.1=i.2.1∧y_1.2.2=i.2.2.1∧nds y_1.1=nds i.2.2.2∧Ae (memL x_3.1)=Ae (memL i.2.2.2)∧(0:Int)=i.1∧True)∧True)∧∀(i:Int×Int×Int×List Nd),JP x i.2.2.2 i.1 i.2.1→Aa (decide (i.1<(↑(List.length (memL i.2.2.2)):Int))) (cA De [.box 0 (cur x i.2.1 i.2.2.1),.int .i64 (5:Int)] fun x_4 y=>inR IntKind.i64 (i.1+y.1)∧(↑(List.length (memL i.2.2.2)):Int)≠(0:Int)∧((0:Int)≤Int.tmod (i.1+y.1) (↑(List.length (memL i.2.2.2)):Int)∧Int.tmod (i.1+y.1) (↑(List.length (memL i.2.2.2)):Int)<(↑(List.length (memL i.2.2.2)):Int))∧Int.toNat (Int.tmod (i.1+y.1) (↑(List.length (memL i.2.2.2)):Int))<List.length (memL i.2.2.2)∧∀(x_5:Int),(memL i.2.2.2)[Int.toNat (Int.tmod (i.1+y.1) (↑(List.length (memL i.2.2.2)):Int))]? =some x_5→((0:Int)≤x_5∧x_5<(↑(List.length i.2.2.2):Int))∧∀(e:Nd),i.2.2.2[Int.toNat x_5]? =some e→Aa (e.kind != (21:Int)) (rA Li x [.tup [nds i.2.2.2,.int .i64 x_5],.top]) (inR IntKind.i64 (i.1+(1:Int))∧eN (VO x) i [.box 0 (cur x_4.1 y.2.1 y.2.2),nds i.2.2.2,Ae (memL i.2.2.2),.int .i64 (i.1+(1:Int))])) (cA Ev [.str #[(109:UInt8),(97:UInt8),(105:UInt8),(110:UInt8),(40:UInt8),(41:UInt8),(32:UInt8),(123:UInt8),(32:UInt8),(97:UInt8),(40:UInt8),(98:UInt8),(44:UInt8),(32:UInt8),(99:UInt8),(32:UInt8),(43:UInt8),(32:UInt8),(100:UInt8),(41:UInt8),(59:UInt8),(32:UInt8),(125:UInt8)].toList] fun x_4 y=>cA JQ [nds y.1,.str #[(109:UInt8),(97:UInt8),(105:UInt8),(110:UInt8)].toList] fun x_5 y_3=>rA Li x [.tup [nds y.1,.int .i64 (Ha x_5.1 x_5.2)],.top])) (fun x=>by kernel_rfl) fun(x:List UInt8) (hx:x.length≤2^21)=>(by
 dsimp only[BX,Eb,byL,cA,cur,eN,VO,An,Bt,nds,Ae,AY,rA,De,Li,RN,KM,JQ,Ev,CG,sgs,srd,Av,AA,mvL,lnL,mvE,lnE,Bi]
 have hx:x.length≤2^21:=hx
 (repeat' first|(with_reducible first|rfl|exact True.intro|apply AL|apply And.intro|((first|apply AB|apply AJ|apply AC|apply AK)<;>intro _))|(apply Az<;>intro _)|apply AI|refine Ag () ?_ ?_|((first|apply AP|apply AO|apply AN|apply AM|apply AH|apply AG|apply AF|apply AE|apply AD)<;>try dsimp only)|apply Ag|(refine Prod.forall.2 ?_;intro _;try dsimp only)|(intro _;try dsimp only))
 all_goals(repeat(rename(treeOk _=true∧Bc _)∧Af _ _=>hq;obtain⟨_,_⟩:=hq))
 all_goals(repeat(rename((0:Int)<5→_)∧_=>hq;obtain⟨_,_⟩:=hq))
 all_goals(try(have hI:=b7i (show JP _ _ _ _ by assumption)))
 all_goals(try(have hM:=a3r hI.1.1))
 all_goals(try(have hr:=b7j (show(((0:Int)<5→_)∧_)∧Af _ _ by assumption)))
 all_goals(try(have ht:= @b7k _ _ _ hI.1.2 ‹_› hr.1))
 all_goals first
  |rfl
  |exact hx
  |exact a2M hx
  |exact()
  |omega
  |(with_reducible assumption)
  |exact b7l ‹_› ‹_›
  |exact hI.2
  |exact And.left (show _∧Bc _ by assumption)
  |exact And.right (show(treeOk _=true)∧Bc _ by assumption)
  |exact And.right (show _∧Bc _ by assumption)
  |exact a3q ‹_›
  |exact(a3s ‹_›).1
  |exact(a3s ‹_›).2
  |exact b7h hI.1.1 ‹_› ‹_› ‹_›
  |exact b7m ‹_› ‹_› hr.2
  |exact(a3t ‹_›).1
  |exact(a3t ‹_›).2
  |(have hM:=a3r (show treeOk _=true∧Bc _ by assumption);omega)
  |(simp;done)
  |((try simp only[AR]);omega)
  |skip)
end Go.My
end
section
set_option linter.unusedVariables false
set_option linter.unusedSimpArgs false
namespace Go.My
open Go.Eng Go.Proofs
variable {G:GInv}
attribute [local irreducible] undL BH Bl DC CE DD Cu fdl ltI fiI cnI usI ujI MK ER frP unP BV usP
noncomputable def Hb:Sig:= {X:=List Nd×Int,args:=fun x=>[nds x.1,.int .i64 x.2],pre:=fun x=>Bc x.1∧x.1.length≤2^30,Y:=Unit,post:=fun x y=>True,res:=fun x y=>Cv (Bl x.1 x.2),outs:=fun x y=>[.top,.top],keep:=false}
noncomputable def MY (x:List Nd×Int):LS:= {ι:=List Bool×Int×List (List UInt8),inv:=fun i=>ltI x i.1 i.2.1 i.2.2,regs:=fun i=>[(0,nds x.1),(6,BX i.1),(7,Cv i.2.2),(16,Ae (undL x.1 x.2)),(17,.int .i64 (undL x.1 x.2).length),(18,.int .i64 i.2.1)],als:=[],meas:=fun i=>(undL x.1 x.2).length-i.2.1.toNat}
theorem VP:Al G Tryz.prog 21 Hb:=
 vcFun_okP [(31,0,Dt),(75,0,IA),(76,0,Ht)] [(38,⟨List UInt8,Ai⟩),(26,⟨Int,Bh⟩)] false (fun x=>[(5,MY x)]) Tryz.func21 rfl (by decide) ⟨Mk,ZJ,Zt,trivial⟩ (fun(x:List Nd×Int)=>(∀(y:Unit),True→(∀(x:List UInt8),True∧True)∧True∧True∧True)∧cA Dt [nds x.1,.int .i64 x.2] fun x_1 y=>cA IA [nds x.1,Ae (undL x_1.1 x_1.2)] fun x_2 y=>eA (MY x) [nds x.1,AV.sl true (0:Nat) (1:Nat) Bool Bq y.1,.nil,Ae (undL x_1.1 x_1.2),.int .i64 (↑(List.length (undL x_1.1 x_1.2)):Int),.int .i64 (0:Int)]∧∀(i:List Bool×Int×List (List UInt8)),ltI x i.1 i.2.1 i.2.2→Aa (decide (i.2.1<(↑(List.length (undL x.1 x.2)):Int))) (((0:Int)≤i.2.1∧i.2.1<(↑(List.length (undL x.1 x.2)):Int))∧Int.toNat i.2.1<List.length (undL x.1 x.2)∧∀(x_3:Int),(undL x.1 x.2)[Int.toNat i.2.1]? =some x_3→((0:Int)≤x_3∧x_3<(↑(List.length x.1):Int))∧∀(e:Nd),x.1[Int.toNat x_3]? =some e→Aa (e.kind==(12:Int)) (((0:Int)≤x_3∧x_3<(↑(List.length x.1):Int))∧∀(e:Nd),x.1[Int.toNat x_3]? =some e→cA Ht [AV.sl true (0:Nat) (1:Nat) (List UInt8) Ai i.2.2,.str e.text] fun x_4 y=>inR IntKind.i64 (i.2.1+(1:Int))∧eN (MY x) i [nds x.1,AV.sl true (0:Nat) (1:Nat) Bool Bq i.1,AV.sl true (0:Nat) (1:Nat) (List UInt8) Ai (Cu x_4.1 x_4.2),Ae (undL x.1 x.2),.int .i64 (↑(List.length (undL x.1 x.2)):Int),.int .i64 (i.2.1+(1:Int))]) (((0:Int)≤x_3∧x_3<(↑(List.length i.1):Int))∧Int.toNat x_3<List.length i.1∧∀(x_4:Bool),i.1[Int.toNat x_3]? =some x_4→Aa x_4 (((0:Int)≤x_3∧x_3<(↑(List.length x.1):Int))∧∀(e:Nd),x.1[Int.toNat x_3]? =some e→cA Ht [AV.sl true (0:Nat) (1:Nat) (List UInt8) Ai i.2.2,.str e.text] fun x_5 y=>inR IntKind.i64 (i.2.1+(1:Int))∧eN (MY x) i [nds x.1,AV.sl true (0:Nat) (1:Nat) Bool Bq i.1,AV.sl true (0:Nat) (1:Nat) (List UInt8) Ai (Cu x_5.1 x_5.2),Ae (undL x.1 x.2),.int .i64 (↑(List.length (undL x.1 x.2)):Int),.int .i64 (i.2.1+(1:Int))]) (inR IntKind.i64 (i.2.1+(1:Int))∧eN (MY x) i [nds x.1,AV.sl true (0:Nat) (1:Nat) Bool Bq i.1,AV.sl true (0:Nat) (1:Nat) (List UInt8) Ai i.2.2,Ae (undL x.1 x.2),.int .i64 (↑(List.length (undL x.1 x.2)):Int),.int .i64 (i.2.1+(1:Int))]))) (rA Hb x [AV.sl true (0:Nat) (1:Nat) (List UInt8) Ai i.2.2,.top,.top])) (fun x=>by kernel_rfl) fun(x:List Nd×Int) (hx:Bc x.1∧x.1.length≤2^30)=>(by
 dsimp only[BX,cA,eA,eN,MY,An,Bt,nds,Cv,Ae,rA,Ht,IA,Hb,Dt,Av,AA,mvL,lnL,mvE,lnE,Bi]
 obtain⟨h1,h2⟩:=hx
 (repeat' first|(with_reducible first|rfl|exact True.intro|apply AL|apply And.intro|((first|apply AB|apply AJ|apply AC|apply AK)<;>intro _))|(apply Az<;>intro _)|apply AI|refine Ag () ?_ ?_|((first|apply AP|apply AO|apply AN|apply AM|apply AH|apply AG|apply AF|apply AE|apply AD)<;>try dsimp only)|apply Ag|(refine Prod.forall.2 ?_;intro _;try dsimp only)|(intro _;try dsimp only))
 all_goals(try(repeat(rename(_:List Int)[_]? =some _=>hq;revert hq;rename(_:List Int)[_]? =some _=>hr;intro hq;rw[hr] at hq;cases hq)))
 all_goals(try(repeat(rename(_:List Nd)[_]? =some _=>hq;revert hq;rename(_:List Nd)[_]? =some _=>hr;intro hq;rw[hr] at hq;cases hq)))
 all_goals(try(repeat(rename(_:List Bool)[_]? =some _=>hq;revert hq;rename(_:List Bool)[_]? =some _=>hr;intro hq;rw[hr] at hq;cases hq)))
 all_goals(try(repeat(rename(_:List (List UInt8))[_]? =some _=>hq;revert hq;rename(_:List (List UInt8))[_]? =some _=>hr;intro hq;rw[hr] at hq;cases hq)))
 all_goals(try(have hB:=ZL (show ltI _ _ _ _ by assumption)))
 all_goals first
  |rfl
  |omega
  |exact()
  |exact h1
  |exact Ou h2
  |exact⟨h1,h2⟩
  |exact(DY ‹_›).1
  |exact(DY ‹_›).2
  |(have hq:=DY (show(undL _ _)[_]? =some _ by assumption);omega)
  |exact ZK ‹_› h2
  |exact ZN ‹_› ‹_› ‹_› ‹_›
  |exact ZO ‹_› ‹_› ‹_› ‹_› ‹_›
  |exact ZP ‹_› ‹_› ‹_› ‹_› ‹_› ‹_›
  |exact ZQ ‹_› ‹_›
  |((try simp only[AR,Bb,List.length_cons,List.length_nil]);omega)
  |skip)
noncomputable def MZ:Sig:= {X:=List Nd×Int,args:=fun x=>[nds x.1,.int .i64 x.2],pre:=fun x=>Bc x.1∧x.1.length≤2^30,Y:=Unit,post:=fun x y=>True,res:=fun x y=>Cv (Bl x.1 x.2),outs:=fun x y=>[.top,.top],keep:=false}
noncomputable def Na (x:List Nd×Int):LS:= {ι:=List Bool×Int×List (List UInt8),inv:=fun i=>ltI x i.1 i.2.1 i.2.2,regs:=fun i=>[(0,nds x.1),(5,Cv i.2.2),(6,Ae (undL x.1 x.2)),(7,BX i.1),(8,.int .i64 i.2.1)],als:=[],meas:=fun i=>(undL x.1 x.2).length-i.2.1.toNat}
theorem b7p:Al G Tryz.prog 23 MZ:=
 vcFun_okP [(40,0,HV),(77,0,Mo),(78,0,Hu)] [(38,⟨List UInt8,Ai⟩),(26,⟨Int,Bh⟩)] false (fun x=>[(5,Na x)]) Tryz.func23 rfl (by decide) ⟨Zo,a9a,Zu,trivial⟩ (fun(x:List Nd×Int)=>(∀(y:Unit),True→(∀(x:List UInt8),True∧True)∧True∧True∧True)∧cA HV [nds x.1,.int .i64 x.2] fun x_1 y=>cA Mo [nds x.1,Ae (undL x_1.1 x_1.2)] fun x_2 y=>eA (Na x) [nds x.1,AV.sl true (0:Nat) (1:Nat) (List UInt8) Ai [],Ae (undL x_1.1 x_1.2),AV.sl true (0:Nat) (1:Nat) Bool Bq y.1,.int .i64 (0:Int)]∧∀(i:List Bool×Int×List (List UInt8)),ltI x i.1 i.2.1 i.2.2→Aa (decide (i.2.1<(↑(List.length (undL x.1 x.2)):Int))) (((0:Int)≤i.2.1∧i.2.1<(↑(List.length (undL x.1 x.2)):Int))∧Int.toNat i.2.1<List.length (undL x.1 x.2)∧∀(x_3:Int),(undL x.1 x.2)[Int.toNat i.2.1]? =some x_3→((0:Int)≤x_3∧x_3<(↑(List.length x.1):Int))∧∀(e:Nd),x.1[Int.toNat x_3]? =some e→Aa (e.kind==(12:Int)) (((0:Int)≤i.2.1∧i.2.1<(↑(List.length (undL x.1 x.2)):Int))∧Int.toNat i.2.1<List.length (undL x.1 x.2)∧∀(x_4:Int),(undL x.1 x.2)[Int.toNat i.2.1]? =some x_4→((0:Int)≤x_4∧x_4<(↑(List.length x.1):Int))∧∀(e:Nd),x.1[Int.toNat x_4]? =some e→cA Hu [AV.sl true (0:Nat) (1:Nat) (List UInt8) Ai i.2.2,.str e.text] fun x_5 y=>inR IntKind.i64 (i.2.1+(1:Int))∧eN (Na x) i [nds x.1,AV.sl true (0:Nat) (1:Nat) (List UInt8) Ai (Cu x_5.1 x_5.2),Ae (undL x.1 x.2),AV.sl true (0:Nat) (1:Nat) Bool Bq i.1,.int .i64 (i.2.1+(1:Int))]) (((0:Int)≤i.2.1∧i.2.1<(↑(List.length (undL x.1 x.2)):Int))∧Int.toNat i.2.1<List.length (undL x.1 x.2)∧∀(x_4:Int),(undL x.1 x.2)[Int.toNat i.2.1]? =some x_4→((0:Int)≤x_4∧x_4<(↑(List.length i.1):Int))∧Int.toNat x_4<List.length i.1∧∀(x_5:Bool),i.1[Int.toNat x_4]? =some x_5→Aa x_5 (((0:Int)≤i.2.1∧i.2.1<(↑(List.length (undL x.1 x.2)):Int))∧Int.toNat i.2.1<List.length (undL x.1 x.2)∧∀(x_6:Int),(undL x.1 x.2)[Int.toNat i.2.1]? =some x_6→((0:Int)≤x_6∧x_6<(↑(List.length x.1):Int))∧∀(e:Nd),x.1[Int.toNat x_6]? =some e→cA Hu [AV.sl true (0:Nat) (1:Nat) (List UInt8) Ai i.2.2,.str e.text] fun x_7 y=>inR IntKind.i64 (i.2.1+(1:Int))∧eN (Na x) i [nds x.1,AV.sl true (0:Nat) (1:Nat) (List UInt8) Ai (Cu x_7.1 x_7.2),Ae (undL x.1 x.2),AV.sl true (0:Nat) (1:Nat) Bool Bq i.1,.int .i64 (i.2.1+(1:Int))]) (inR IntKind.i64 (i.2.1+(1:Int))∧eN (Na x) i [nds x.1,AV.sl true (0:Nat) (1:Nat) (List UInt8) Ai i.2.2,Ae (undL x.1 x.2),AV.sl true (0:Nat) (1:Nat) Bool Bq i.1,.int .i64 (i.2.1+(1:Int))]))) (rA MZ x [AV.sl true (0:Nat) (1:Nat) (List UInt8) Ai i.2.2,.top,.top])) (fun x=>by kernel_rfl) fun(x:List Nd×Int) (hx:Bc x.1∧x.1.length≤2^30)=>(by
 dsimp only[BX,cA,eA,eN,Na,An,Bt,nds,Cv,Ae,rA,Hu,MZ,Mo,HV,Av,AA,mvL,lnL,mvE,lnE,Bi]
 obtain⟨h1,h2⟩:=hx
 (repeat' first|(with_reducible first|rfl|exact True.intro|apply AL|apply And.intro|((first|apply AB|apply AJ|apply AC|apply AK)<;>intro _))|(apply Az<;>intro _)|apply AI|refine Ag () ?_ ?_|((first|apply AP|apply AO|apply AN|apply AM|apply AH|apply AG|apply AF|apply AE|apply AD)<;>try dsimp only)|apply Ag|(refine Prod.forall.2 ?_;intro _;try dsimp only)|(intro _;try dsimp only))
 all_goals(try(repeat(rename(_:List Int)[_]? =some _=>hq;revert hq;rename(_:List Int)[_]? =some _=>hr;intro hq;rw[hr] at hq;cases hq)))
 all_goals(try(repeat(rename(_:List Nd)[_]? =some _=>hq;revert hq;rename(_:List Nd)[_]? =some _=>hr;intro hq;rw[hr] at hq;cases hq)))
 all_goals(try(repeat(rename(_:List Bool)[_]? =some _=>hq;revert hq;rename(_:List Bool)[_]? =some _=>hr;intro hq;rw[hr] at hq;cases hq)))
 all_goals(try(repeat(rename(_:List (List UInt8))[_]? =some _=>hq;revert hq;rename(_:List (List UInt8))[_]? =some _=>hr;intro hq;rw[hr] at hq;cases hq)))
 all_goals(try(have hB:=ZL (show ltI _ _ _ _ by assumption)))
 all_goals first
  |rfl
  |omega
  |exact()
  |exact h1
  |exact Ou h2
  |exact⟨h1,h2⟩
  |exact(DY ‹_›).1
  |exact(DY ‹_›).2
  |(have hq:=DY (show(undL _ _)[_]? =some _ by assumption);omega)
  |exact ZK ‹_› h2
  |exact ZN ‹_› ‹_› ‹_› ‹_›
  |exact ZO ‹_› ‹_› ‹_› ‹_› ‹_›
  |exact ZP ‹_› ‹_› ‹_› ‹_› ‹_› ‹_›
  |exact ZQ ‹_› ‹_›
  |((try simp only[AR,Bb,List.length_cons,List.length_nil]);omega)
  |skip)
end Go.My
end
section
set_option linter.unusedVariables false
set_option linter.unusedSimpArgs false
namespace Go.My
open Go.Eng Go.Proofs
variable {G:GInv}
attribute [local irreducible] undL BH Bl DC CE DD Cu fdl ltI fiI cnI usI ujI MK ER frP unP BV usP
noncomputable def Lj:Sig:= {X:=List Nd×Int,args:=fun x=>[nds x.1,.int .i64 x.2],pre:=fun x=>Bc x.1∧x.1.length≤2^30,Y:=Unit,post:=fun x y=>True,res:=fun x y=>Cv (CE x.1 x.2),outs:=fun x y=>[.top,.top],keep:=false}
noncomputable def Pf (x:List Nd×Int):LS:= {ι:=Int×List (List UInt8),inv:=fun i=>fiI (frP x) (BH x.1 x.2) i.1 i.2,regs:=fun i=>[(5,Cv (Bl x.1 x.2)),(6,Cv i.2),(14,Cv (BH x.1 x.2)),(15,.int .i64 (BH x.1 x.2).length),(16,.int .i64 i.1)],als:=[],meas:=fun i=>(BH x.1 x.2).length-i.1.toNat}
theorem b7q:Al G Tryz.prog 25 Lj:=
 vcFun_okP [(21,0,Hb),(22,0,Iz),(79,0,GM)] [(38,⟨List UInt8,Ai⟩)] false (fun x=>[(4,Pf x)]) Tryz.func25 rfl (by decide) ⟨VP,ZA,Un,trivial⟩ (fun(x:List Nd×Int)=>(∀(y:Unit),True→(∀(x:List UInt8),True∧True)∧True∧True∧True)∧cA Hb [nds x.1,.int .i64 x.2] fun x_1 y=>cA Iz [nds x.1,.int .i64 x.2] fun x_2 y=>eA (Pf x) [AV.sl true (0:Nat) (1:Nat) (List UInt8) Ai (Bl x_1.1 x_1.2),.nil,AV.sl true (0:Nat) (1:Nat) (List UInt8) Ai (BH x_2.1 x_2.2),.int .i64 (↑(List.length (BH x_2.1 x_2.2)):Int),.int .i64 (0:Int)]∧∀(i:Int×List (List UInt8)),fiI (frP x) (BH x.1 x.2) i.1 i.2→Aa (decide (i.1<(↑(List.length (BH x.1 x.2)):Int))) (((0:Int)≤i.1∧i.1<(↑(List.length (BH x.1 x.2)):Int))∧Int.toNat i.1<List.length (BH x.1 x.2)∧∀(x_3:List UInt8),(BH x.1 x.2)[Int.toNat i.1]? =some x_3→cA GM [AV.sl true (0:Nat) (1:Nat) (List UInt8) Ai (Bl x.1 x.2),.str x_3] fun x_4 y=>Aa (!List.elem x_4.2 x_4.1) (∃(x_5:List UInt8),x_3=x_5∧∃(zs:List (List UInt8)),AV.sl true (0:Nat) (1:Nat) (List UInt8) Ai [x_5]=AV.sl true (0:Nat) (1:Nat) (List UInt8) Ai zs∧BG Ai∧Bb (List.length i.2+List.length zs) (16:Nat)∧inR IntKind.i64 (i.1+(1:Int))∧eN (Pf x) i [AV.sl true (0:Nat) (1:Nat) (List UInt8) Ai (Bl x.1 x.2),AV.sl true (0:Nat) (1:Nat) (List UInt8) Ai (i.2++zs),AV.sl true (0:Nat) (1:Nat) (List UInt8) Ai (BH x.1 x.2),.int .i64 (↑(List.length (BH x.1 x.2)):Int),.int .i64 (i.1+(1:Int))]) (inR IntKind.i64 (i.1+(1:Int))∧eN (Pf x) i [AV.sl true (0:Nat) (1:Nat) (List UInt8) Ai (Bl x.1 x.2),AV.sl true (0:Nat) (1:Nat) (List UInt8) Ai i.2,AV.sl true (0:Nat) (1:Nat) (List UInt8) Ai (BH x.1 x.2),.int .i64 (↑(List.length (BH x.1 x.2)):Int),.int .i64 (i.1+(1:Int))])) (rA Lj x [AV.sl true (0:Nat) (1:Nat) (List UInt8) Ai i.2,.top,.top])) (fun x=>by kernel_rfl) fun(x:List Nd×Int) (hx:Bc x.1∧x.1.length≤2^30)=>(by
 dsimp only[BX,cA,eA,eN,Pf,Bt,nds,Cv,GK,Ae,rA,GM,Lj,Hb,Iz,Av,AA,mvL,lnL,mvE,lnE,Bi]
 obtain⟨h1,h2⟩:=hx
 (repeat' first|(with_reducible first|rfl|exact True.intro|apply AL|apply And.intro|((first|apply AB|apply AJ|apply AC|apply AK)<;>intro _))|(apply Az<;>intro _)|apply AI|refine Ag () ?_ ?_|((first|apply AP|apply AO|apply AN|apply AM|apply AH|apply AG|apply AF|apply AE|apply AD)<;>try dsimp only)|apply Ag|(refine Prod.forall.2 ?_;intro _;try dsimp only)|(intro _;try dsimp only))
 all_goals(try(repeat(rename(_:List Int)[_]? =some _=>hq;revert hq;rename(_:List Int)[_]? =some _=>hr;intro hq;rw[hr] at hq;cases hq)))
 all_goals(try(repeat(rename(_:List Nd)[_]? =some _=>hq;revert hq;rename(_:List Nd)[_]? =some _=>hr;intro hq;rw[hr] at hq;cases hq)))
 all_goals(try(repeat(rename(_:List Bool)[_]? =some _=>hq;revert hq;rename(_:List Bool)[_]? =some _=>hr;intro hq;rw[hr] at hq;cases hq)))
 all_goals(try(repeat(rename(_:List (List UInt8))[_]? =some _=>hq;revert hq;rename(_:List (List UInt8))[_]? =some _=>hr;intro hq;rw[hr] at hq;cases hq)))
 all_goals(try(have hB:=ZS (show fiI _ _ _ _ by assumption)))
 all_goals first
  |rfl
  |omega
  |exact()
  |exact h1
  |exact Ou h2
  |exact⟨h1,h2⟩
  |exact(DY ‹_›).1
  |exact(DY ‹_›).2
  |(have hq:=DY (show(undL _ _)[_]? =some _ by assumption);omega)
  |exact ZR (a9s h2)
  |exact ZT ‹_› ‹_› (a9b ‹_›)
  |exact ZU ‹_› ‹_› (a9c ‹_›)
  |exact a9f ‹_› ‹_›
  |(have hq:=Ur (k:=x.2) h2;omega)
  |((try simp only[AR,Bb,List.length_cons,List.length_nil]);omega)
  |skip)
end Go.My
end
section
set_option linter.unusedVariables false
set_option linter.unusedSimpArgs false
namespace Go.My
open Go.Eng Go.Proofs
variable {G:GInv}
attribute [local irreducible] undL BH Bl DC CE DD Cu fdl ltI fiI cnI usI ujI MK ER frP unP BV usP
noncomputable def JR:Sig:= {X:=List Nd×Int,args:=fun x=>[nds x.1,.int .i64 x.2],pre:=fun x=>Bc x.1∧x.1.length≤2^30,Y:=Unit,post:=fun x y=>True,res:=fun x y=>Cv (DD x.1 x.2),outs:=fun x y=>[.top,.top],keep:=false}
noncomputable def Nb (x:List Nd×Int):LS:= {ι:=List Bool×Int×List (List UInt8),inv:=fun i=>usI x i.1 i.2.1 i.2.2,regs:=fun i=>[(0,nds x.1),(1,.int .i64 x.2),(6,BX i.1),(7,Cv i.2.2),(19,Ae (undL x.1 x.2)),(20,.int .i64 (undL x.1 x.2).length),(21,.int .i64 i.2.1)],als:=[],meas:=fun i=>(undL x.1 x.2).length-i.2.1.toNat}
noncomputable def Pg (x:List Nd×Int):LS:= {ι:=Int×List (List UInt8),inv:=fun i=>fiI (unP x) (Bl x.1 x.2) i.1 i.2,regs:=fun i=>[(7,Cv (DC x.1 x.2)),(10,Cv i.2),(49,Cv (Bl x.1 x.2)),(50,.int .i64 (Bl x.1 x.2).length),(51,.int .i64 i.1)],als:=[],meas:=fun i=>(Bl x.1 x.2).length-i.1.toNat}
theorem b7r:Al G Tryz.prog 26 JR:=
 vcFun_okP [(31,0,Dt),(75,0,IA),(21,0,Hb),(79,0,GM)] [(38,⟨List UInt8,Ai⟩),(26,⟨Int,Bh⟩),(76,⟨Bool,Bq⟩)] false (fun x=>[(5,Nb x),(12,Pg x)]) Tryz.func26 rfl (by decide) ⟨Mk,ZJ,VP,Un,trivial⟩ (fun(x:List Nd×Int)=>(∀(y:Unit),True→(∀(x:List UInt8),True∧True)∧True∧True∧True)∧cA Dt [nds x.1,.int .i64 x.2] fun x_1 y=>cA IA [nds x.1,Ae (undL x_1.1 x_1.2)] fun x_2 y=>eA (Nb x) [nds x.1,.int .i64 x.2,AV.sl true (0:Nat) (1:Nat) Bool Bq y.1,.nil,Ae (undL x_1.1 x_1.2),.int .i64 (↑(List.length (undL x_1.1 x_1.2)):Int),.int .i64 (0:Int)]∧∀(i:List Bool×Int×List (List UInt8)),usI x i.1 i.2.1 i.2.2→Aa (decide (i.2.1<(↑(List.length (undL x.1 x.2)):Int))) (((0:Int)≤i.2.1∧i.2.1<(↑(List.length (undL x.1 x.2)):Int))∧Int.toNat i.2.1<List.length (undL x.1 x.2)∧∀(x_3:Int),(undL x.1 x.2)[Int.toNat i.2.1]? =some x_3→((0:Int)≤x_3∧x_3<(↑(List.length x.1):Int))∧∀(e:Nd),x.1[Int.toNat x_3]? =some e→Aa (e.kind==(1:Int)) (((0:Int)≤x_3∧x_3<(↑(List.length i.1):Int))∧Int.toNat x_3<List.length i.1∧∀(x_4:Bool),i.1[Int.toNat x_3]? =some x_4→Aa (!x_4) (((0:Int)≤x_3∧x_3<(↑(List.length x.1):Int))∧∀(e:Nd),x.1[Int.toNat x_3]? =some e→∃(x_5:List UInt8),e.text=x_5∧∃(zs:List (List UInt8)),AV.sl true (0:Nat) (1:Nat) (List UInt8) Ai [x_5]=AV.sl true (0:Nat) (1:Nat) (List UInt8) Ai zs∧BG Ai∧Bb (List.length i.2.2+List.length zs) (16:Nat)∧inR IntKind.i64 (i.2.1+(1:Int))∧eN (Nb x) i [nds x.1,.int .i64 x.2,AV.sl true (0:Nat) (1:Nat) Bool Bq i.1,AV.sl true (0:Nat) (1:Nat) (List UInt8) Ai (i.2.2++zs),Ae (undL x.1 x.2),.int .i64 (↑(List.length (undL x.1 x.2)):Int),.int .i64 (i.2.1+(1:Int))]) (inR IntKind.i64 (i.2.1+(1:Int))∧eN (Nb x) i [nds x.1,.int .i64 x.2,AV.sl true (0:Nat) (1:Nat) Bool Bq i.1,AV.sl true (0:Nat) (1:Nat) (List UInt8) Ai i.2.2,Ae (undL x.1 x.2),.int .i64 (↑(List.length (undL x.1 x.2)):Int),.int .i64 (i.2.1+(1:Int))])) (inR IntKind.i64 (i.2.1+(1:Int))∧eN (Nb x) i [nds x.1,.int .i64 x.2,AV.sl true (0:Nat) (1:Nat) Bool Bq i.1,AV.sl true (0:Nat) (1:Nat) (List UInt8) Ai i.2.2,Ae (undL x.1 x.2),.int .i64 (↑(List.length (undL x.1 x.2)):Int),.int .i64 (i.2.1+(1:Int))])) (cA Hb [nds x.1,.int .i64 x.2] fun x_3 y=>eA (Pg x) [AV.sl true (0:Nat) (1:Nat) (List UInt8) Ai i.2.2,.nil,AV.sl true (0:Nat) (1:Nat) (List UInt8) Ai (Bl x_3.1 x_3.2),.int .i64 (↑(List.length (Bl x_3.1 x_3.2)):Int),.int .i64 (0:Int)]∧∀(i:Int×List (List UInt8)),fiI (unP x) (Bl x.1 x.2) i.1 i.2→Aa (decide (i.1<(↑(List.length (Bl x.1 x.2)):Int))) (((0:Int)≤i.1∧i.1<(↑(List.length (Bl x.1 x.2)):Int))∧Int.toNat i.1<List.length (Bl x.1 x.2)∧∀(x_4:List UInt8),(Bl x.1 x.2)[Int.toNat i.1]? =some x_4→cA GM [AV.sl true (0:Nat) (1:Nat) (List UInt8) Ai (DC x.1 x.2),.str x_4] fun x_5 y=>Aa (!List.elem x_5.2 x_5.1) (∃(x_6:List UInt8),x_4=x_6∧∃(zs:List (List UInt8)),AV.sl true (0:Nat) (1:Nat) (List UInt8) Ai [x_6]=AV.sl true (0:Nat) (1:Nat) (List UInt8) Ai zs∧BG Ai∧Bb (List.length i.2+List.length zs) (16:Nat)∧inR IntKind.i64 (i.1+(1:Int))∧eN (Pg x) i [AV.sl true (0:Nat) (1:Nat) (List UInt8) Ai (DC x.1 x.2),AV.sl true (0:Nat) (1:Nat) (List UInt8) Ai (i.2++zs),AV.sl true (0:Nat) (1:Nat) (List UInt8) Ai (Bl x.1 x.2),.int .i64 (↑(List.length (Bl x.1 x.2)):Int),.int .i64 (i.1+(1:Int))]) (inR IntKind.i64 (i.1+(1:Int))∧eN (Pg x) i [AV.sl true (0:Nat) (1:Nat) (List UInt8) Ai (DC x.1 x.2),AV.sl true (0:Nat) (1:Nat) (List UInt8) Ai i.2,AV.sl true (0:Nat) (1:Nat) (List UInt8) Ai (Bl x.1 x.2),.int .i64 (↑(List.length (Bl x.1 x.2)):Int),.int .i64 (i.1+(1:Int))])) (rA JR x [AV.sl true (0:Nat) (1:Nat) (List UInt8) Ai i.2,.top,.top]))) (fun x=>by kernel_rfl) fun(x:List Nd×Int) (hx:Bc x.1∧x.1.length≤2^30)=>(by
 dsimp only[BX,cA,eA,eN,Pg,Nb,An,Bt,nds,Cv,GK,Ae,rA,GM,IA,Hb,Dt,JR,Av,AA,mvL,lnL,mvE,lnE,Bi]
 obtain⟨h1,h2⟩:=hx
 (repeat' first|(with_reducible first|rfl|exact True.intro|apply AL|apply And.intro|((first|apply AB|apply AJ|apply AC|apply AK)<;>intro _))|(apply Az<;>intro _)|apply AI|refine Ag () ?_ ?_|((first|apply AP|apply AO|apply AN|apply AM|apply AH|apply AG|apply AF|apply AE|apply AD)<;>try dsimp only)|apply Ag|(refine Prod.forall.2 ?_;intro _;try dsimp only)|(intro _;try dsimp only))
 all_goals(try(repeat(rename(_:List Int)[_]? =some _=>hq;revert hq;rename(_:List Int)[_]? =some _=>hr;intro hq;rw[hr] at hq;cases hq)))
 all_goals(try(repeat(rename(_:List Nd)[_]? =some _=>hq;revert hq;rename(_:List Nd)[_]? =some _=>hr;intro hq;rw[hr] at hq;cases hq)))
 all_goals(try(repeat(rename(_:List Bool)[_]? =some _=>hq;revert hq;rename(_:List Bool)[_]? =some _=>hr;intro hq;rw[hr] at hq;cases hq)))
 all_goals(try(repeat(rename(_:List (List UInt8))[_]? =some _=>hq;revert hq;rename(_:List (List UInt8))[_]? =some _=>hr;intro hq;rw[hr] at hq;cases hq)))
 all_goals(try(have hB:=a9n (show usI _ _ _ _ by assumption)))
 all_goals(try(have hB:=ZS (show fiI _ _ _ _ by assumption)))
 all_goals first
  |rfl
  |omega
  |exact()
  |exact h1
  |exact Ou h2
  |exact⟨h1,h2⟩
  |exact(DY ‹_›).1
  |exact(DY ‹_›).2
  |(have hq:=DY (show(undL _ _)[_]? =some _ by assumption);omega)
  |exact a9m ‹_› h2
  |exact a9o ‹_› ‹_› ‹_› ‹_› ‹_› ‹_›
  |exact a9p ‹_› ‹_› ‹_› ‹_›
  |exact a9q ‹_› ‹_› ‹_› ‹_› ‹_›
  |exact a9r ‹_› ‹_›
  |exact ZR (Ur h2)
  |exact ZT ‹_› ‹_› (a9d ‹_›)
  |exact ZU ‹_› ‹_› (a9e ‹_›)
  |exact a9g ‹_› ‹_›
  |(have hq:=a9t (k:=x.2) h2;omega)
  |(have hq:=Ur (k:=x.2) h2;omega)
  |((try simp only[AR,Bb,List.length_cons,List.length_nil]);omega)
  |skip)
end Go.My
end
section
set_option linter.unusedVariables false
set_option linter.unusedSimpArgs false
namespace Go.My
open Go.Eng Go.Proofs
variable {G:GInv}
attribute [local irreducible] undL BH Bl DC CE DD Cu fdl ltI fiI cnI usI ujI MK ER frP unP BV usP
end Go.My
end
section
set_option linter.unusedVariables false
set_option linter.unusedSimpArgs false
namespace Go.My
open Go.Eng Go.Proofs
variable {G:GInv}
def eqF{α:Type}(p:α→α→Bool):List α→List α→Bool
 |[],[]=>true
 |x::a,y::b=>p x y&&eqF p a b
 |_,_=>false
def eqW{α:Type}(p:α→α→Bool)(a b:List α)(i:Int):Prop:=((0≤i∧i≤a.length)∧a.length=b.length)∧eqF p a b=eqF p (a.drop i.toNat) (b.drop i.toNat)
attribute [local irreducible] eqW
end Go.My
end
section
set_option linter.unusedVariables false
set_option linter.unusedSimpArgs false
namespace Go.My
open Go.Eng Go.Proofs
variable {G:GInv}
def Nc:Sig:= {X:=List UInt8,args:=fun x=>[.sl false 0 1 UInt8 byA x],pre:=fun x=>True,Y:=Unit,post:=fun x y=>True,res:=fun x y=> .bool (decide ((x.length:Int)>1048576)),outs:=fun x y=>[.top],keep:=false}
theorem b7s:Al G Tryz.prog 6 Nc:=
 vcFun_okP [] [] false (fun x=>[]) Tryz.func6 rfl (by decide) trivial (fun(x:List UInt8)=>(∀(y:Unit),True→True∧True∧True)∧rA Nc x [.bool (decide ((↑(List.length x):Int)>(1048576:Int))),.top]) (fun x=>by kernel_rfl) fun(x:List UInt8) (hx:True)=>(by
 dsimp only[Eb,rA,Nc,Av,AA]
 (repeat' first|(with_reducible first|rfl|exact True.intro|apply AL|apply And.intro|((first|apply AB|apply AJ|apply AC|apply AK)<;>intro _))|(apply Az<;>intro _)|apply AI|refine Ag () ?_ ?_|((first|apply AP|apply AO|apply AN|apply AM|apply AH|apply AG|apply AF|apply AE|apply AD)<;>try dsimp only)|apply Ag|(refine Prod.forall.2 ?_;intro _;try dsimp only)|(intro _;try dsimp only))<;>(try dsimp only at*)<;>(try simp only[AR,List.length_cons,List.length_nil])<;>(try omega))
end Go.My
end
section
set_option linter.unusedVariables false
set_option linter.unusedSimpArgs false
namespace Go.My
open Go.Eng Go.Proofs
variable {G:GInv}
attribute [local irreducible] spB memL undL BH Bl CE DD BV Ea CW BZ
noncomputable def Nf:Sig:= {X:=List Int×Unit,args:=fun x=>[An x.1,An x.1],pre:=fun x=>x.1.length<2^62,Y:=Unit,post:=fun x y=>True,res:=fun x y=> .bool true,outs:=fun x y=>[.top,.top],keep:=false}
noncomputable def RU (x:List Int×Unit):LS:= {ι:=Int,inv:=fun i=>0≤i∧i≤x.1.length,regs:=fun i=>[(0,An x.1),(1,An x.1),(5,.int .i64 i)],als:=[],meas:=fun i=>x.1.length-i.toNat}
theorem b7t:Al G Tryz.prog 39 Nf:=
 vcFun_okP [] [] false (fun x=>[(4,RU x)]) Tryz.func39 rfl (by decide) trivial (fun(x:List Int×Unit)=>(∀(y:Unit),True→True∧True∧True∧True)∧Aa ((↑(List.length x.1):Int) != (↑(List.length x.1):Int)) (rA Nf x [.bool false,.top,.top]) (eA (RU x) [An x.1,An x.1,.int .i64 (0:Int)]∧∀(i:Int),(0:Int)≤i∧i≤(↑(List.length x.1):Int)→Aa (decide (i<(↑(List.length x.1):Int))) (true=true∧true=true∧((0:Int)≤i∧i<(↑(List.length x.1):Int))∧∀(e:Int),x.1[Int.toNat i]? =some e→((0:Int)≤i∧i<(↑(List.length x.1):Int))∧∀(e_1:Int),x.1[Int.toNat i]? =some e_1→Aa (e != e_1) (rA Nf x [.bool false,.top,.top]) (inR IntKind.i64 (i+(1:Int))∧eN (RU x) i [An x.1,An x.1,.int .i64 (i+(1:Int))])) (rA Nf x [.bool true,.top,.top]))) (fun x=>by kernel_rfl) fun(x:List Int×Unit) (hx:x.1.length<2^62)=>(by
 dsimp only[eA,eN,RU,An,rA,Nf,Av,AA,Bi]
 obtain⟨x,_⟩:=x;dsimp only at hx ⊢
 have hx:x.length<2^62:=hx
 (repeat' first|(with_reducible first|rfl|exact True.intro|apply AL|apply And.intro|((first|apply AB|apply AJ|apply AC|apply AK)<;>intro _))|(apply Az<;>intro _)|apply AI|refine Ag () ?_ ?_|((first|apply AP|apply AO|apply AN|apply AM|apply AH|apply AG|apply AF|apply AE|apply AD)<;>try dsimp only)|apply Ag|(refine Prod.forall.2 ?_;intro _;try dsimp only)|(intro _;try dsimp only))
 all_goals(try(repeat(rename(_:List Int)[_]? =some _=>hq;revert hq;rename(_:List Int)[_]? =some _=>hr;intro hq;rw[hr] at hq;cases hq)))
 all_goals first
  |rfl
  |omega
  |(exfalso;rename _≠_=>hq;exact hq rfl)
  |(exfalso;rename(_==_)=false=>hq;rw[beq_self_eq_true] at hq;cases hq;done)
  |((try simp only[AR]);omega)
  |skip)
noncomputable def Ii:Sig:= {X:=List Nd×Unit,args:=fun x=>[nds x.1,nds x.1],pre:=fun x=>Bc x.1,Y:=Unit,post:=fun x y=>True,res:=fun x y=> .bool true,outs:=fun x y=>[.top,.top],keep:=false}
noncomputable def RV (x:List Nd×Unit):LS:= {ι:=Int,inv:=fun i=>0≤i∧i≤x.1.length,regs:=fun i=>[(0,nds x.1),(1,nds x.1),(5,.int .i64 i)],als:=[],meas:=fun i=>x.1.length-i.toNat}
theorem b7u:Al G Tryz.prog 30 Ii:=
 vcFun_okP [(39,0,Nf)] [] false (fun x=>[(4,RV x)]) Tryz.func30 rfl (by decide) ⟨b7t,trivial⟩ (fun(x:List Nd×Unit)=>(∀(y:Unit),True→True∧True∧True∧True)∧Aa ((↑(List.length x.1):Int) != (↑(List.length x.1):Int)) (rA Ii x [.bool false,.top,.top]) (eA (RV x) [nds x.1,nds x.1,.int .i64 (0:Int)]∧∀(i:Int),(0:Int)≤i∧i≤(↑(List.length x.1):Int)→Aa (decide (i<(↑(List.length x.1):Int))) (true=true∧true=true∧((0:Int)≤i∧i<(↑(List.length x.1):Int))∧∀(e:Nd),x.1[Int.toNat i]? =some e→((0:Int)≤i∧i<(↑(List.length x.1):Int))∧∀(e_1:Nd),x.1[Int.toNat i]? =some e_1→Aa (e.kind != e_1.kind) (rA Ii x [.bool false,.top,.top]) (((0:Int)≤i∧i<(↑(List.length x.1):Int))∧∀(e:Nd),x.1[Int.toNat i]? =some e→((0:Int)≤i∧i<(↑(List.length x.1):Int))∧∀(e_2:Nd),x.1[Int.toNat i]? =some e_2→Aa (!e.text==e_2.text) (rA Ii x [.bool false,.top,.top]) (((0:Int)≤i∧i<(↑(List.length x.1):Int))∧∀(e:Nd),x.1[Int.toNat i]? =some e→((0:Int)≤i∧i<(↑(List.length x.1):Int))∧∀(e_3:Nd),x.1[Int.toNat i]? =some e_3→Aa (!e.blank==e_3.blank) (rA Ii x [.bool false,.top,.top]) (((0:Int)≤i∧i<(↑(List.length x.1):Int))∧∀(e:Nd),x.1[Int.toNat i]? =some e→((0:Int)≤i∧i<(↑(List.length x.1):Int))∧∀(e_4:Nd),x.1[Int.toNat i]? =some e_4→∃(x_1:List Int×Unit),List.length x_1.1<(4611686018427387904:Nat)∧An e.kids=An x_1.1∧An e_4.kids=An x_1.1∧∃(y0:Unit),(∀(y:Unit),True→AV.bool true=AV.bool true)∧true=true∧inR IntKind.i64 (i+(1:Int))∧eN (RV x) i [nds x.1,nds x.1,.int .i64 (i+(1:Int))])))) (rA Ii x [.bool true,.top,.top]))) (fun x=>by kernel_rfl) fun(x:List Nd×Unit) (hx:Bc x.1)=>(by
 dsimp only[eA,eN,RV,An,Bt,nds,rA,Ii,Av,AA,Bi]
 obtain⟨x,_⟩:=x;dsimp only at hx ⊢
 have h1:=hx.1
 (repeat' first|(with_reducible first|rfl|exact True.intro|apply AL|apply And.intro|((first|apply AB|apply AJ|apply AC|apply AK)<;>intro _))|(apply Az<;>intro _)|apply AI|refine Ag () ?_ ?_|((first|apply AP|apply AO|apply AN|apply AM|apply AH|apply AG|apply AF|apply AE|apply AD)<;>try dsimp only)|apply Ag|(refine Prod.forall.2 ?_;intro _;try dsimp only)|(intro _;try dsimp only))
 all_goals(try((repeat(rename(_:List Nd)[Int.toNat _]? =some _=>hq;have hqe:=AZ hq;subst hqe;revert hq));intros))
 all_goals first
  |rfl
  |omega
  |exact()
  |(exfalso;rename _≠_=>hq;exact hq rfl)
  |(exfalso;rename(_==_)=false=>hq;rw[beq_self_eq_true] at hq;cases hq;done)
  |exact(hx.2 _ (CZ ‹_›)).2
  |((try simp only[AR]);omega)
  |skip)
end Go.My
end
