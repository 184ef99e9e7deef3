/- A part of the proof: the engine and the contracts, joined. -/
import Derived.Test.YtplklcfglbkfhaaGreatDoorQH
section
set_option linter.unusedVariables false
set_option linter.unusedSimpArgs false
namespace Go.My
open Go.Eng Go.Proofs
variable {G:GInv}
structure Md where
 cv:Value
 b:List UInt8
 i:Int
 h:Int
 t:List UInt8
def mad(m:Md):AV:= .box 0 [.bv m.cv (cur m.b m.i m.h),.str m.t]
def DF(m:Md)(i h:Int)(t:List UInt8):AV:= .box 0 [.bv m.cv (cur m.b i h),.str t]
def mdP(m:Md):Prop:=Af m.b m.i
theorem Mr{p q:Md→Prop}(a:Value)(b:List UInt8)(c d:Int)(e:List UInt8)(h2:q ⟨a,b,c,d,e⟩)(h1:p ⟨a,b,c,d,e⟩):∃x,p x∧q x:=⟨_,h1,h2⟩
theorem Ms{T:Type}{p q:Md×T→Prop}(a:Value)(b:List UInt8)(c d:Int)(e:List UInt8)(v:T)(h2:q (⟨a,b,c,d,e⟩,v))(h1:p (⟨a,b,c,d,e⟩,v)):∃x,p x∧q x:=⟨_,h1,h2⟩
def vB:Nat→Nat
 |0=>200
 |n+1=>4*vB n
theorem Ux:∀n,n≤3→200≤vB n∧vB n≤12800
 |0,_=>by simp [vB]
 |1,_=>by simp [vB]
 |2,_=>by simp [vB]
 |3,_=>by simp [vB]
theorem b0m(n:Nat):vB (n+1)=4*vB n:=rfl
def sB:Nat→Nat
 |0=>39000
 |n+1=>7*sB n
theorem b0n:∀n,n≤2→39000≤sB n∧sB n≤1911000
 |0,_=>by simp [sB]
 |1,_=>by simp [sB]
 |2,_=>by simp [sB]
theorem b0o(n:Nat):sB (n+1)=7*sB n:=rfl
theorem Mt{l:List (List UInt8)}{y:List UInt8}{n:Nat}(h:y∈l)(hl:l.all (fun s=>decide (s.length≤n))=true):y.length≤n:=by
 rw[List.all_eq_true] at hl
 exact of_decide_eq_true (hl y h)
def Bd:Sig:= {X:=Md,args:=fun x=>[mad x],pre:=fun x=>mdP x,Y:=List UInt8×Int×Int,post:=fun x y=>y.1.length≤23∧Af x.b y.2.1,res:=fun x y=> .str y.1,outs:=fun x y=>[DF x y.2.1 y.2.2 x.t],keep:=true}
theorem OA:Al G Tryz.prog 157 Bd:=
 vcFun_okP [(123,0,IE)] [(38,⟨List UInt8,Ai⟩)] false (fun x=>[]) Tryz.func157 rfl (by decide) ⟨Mq,trivial⟩ (fun(x:Md)=>True∧∃(x_1:List UInt8),#[(97:UInt8)].toList=x_1∧∃(x_2:List UInt8),#[(98:UInt8)].toList=x_2∧∃(x_3:List UInt8),#[(118:UInt8),(97:UInt8),(108:UInt8),(117:UInt8),(101:UInt8)].toList=x_3∧∃(x_4:List UInt8),#[(116:UInt8),(111:UInt8),(116:UInt8),(97:UInt8),(108:UInt8)].toList=x_4∧∃(x_5:List UInt8),#[(115:UInt8),(111:UInt8),(109:UInt8),(101:UInt8),(76:UInt8),(111:UInt8),(110:UInt8),(103:UInt8),(101:UInt8),(114:UInt8),(78:UInt8),(97:UInt8),(109:UInt8),(101:UInt8)].toList=x_5∧∃(x_6:List UInt8),#[(120:UInt8),(49:UInt8)].toList=x_6∧∃(x_7:List UInt8),#[(116:UInt8),(104:UInt8),(101:UInt8),(86:UInt8),(101:UInt8),(114:UInt8),(121:UInt8),(76:UInt8),(111:UInt8),(110:UInt8),(103:UInt8),(101:UInt8),(115:UInt8),(116:UInt8),(78:UInt8),(97:UInt8),(109:UInt8),(101:UInt8),(79:UInt8),(102:UInt8),(65:UInt8),(108:UInt8),(108:UInt8)].toList=x_7∧∃(x_8:List UInt8×Int×Int×List (List UInt8)),(Af x_8.1 x_8.2.1∧x_8.2.2.2≠[]∧List.length x_8.2.2.2<(1073741824:Nat))∧x.cv=x.cv∧byL x.b=byL x_8.1∧x.i=x_8.2.1∧x.h=x_8.2.2.1∧AV.sl false 0 1 (List UInt8) (fun(x:List UInt8)=>fzL (Ai x)) [x_1,x_2,x_3,x_4,x_5,x_6,x_7]=AV.sl false 0 1 (List UInt8) Ai x_8.2.2.2∧∀(y:List UInt8×Int×Int),y.1∈x_8.2.2.2∧Af x_8.1 y.2.1→x.cv=x.cv∧rA Bd x [.str y.1,.box 0 [AV.bv x.cv (cur x_8.1 y.2.1 y.2.2),.str x.t]]) (fun x=>by kernel_rfl) fun(x:Md) (hx:mdP x)=>(by
 dsimp only[Eb,byL,cur,mad,DF,rA,Bd,Av,AA]
 obtain⟨cv,b,i,h,t⟩:=x;dsimp only at hx ⊢
 have hx:Af b i:=hx
 (repeat' first|(with_reducible first|rfl|exact True.intro|apply AL|apply And.intro|((first|apply AB|apply AJ|apply AC|apply AK)<;>intro _))|(apply Az<;>intro _)|apply AI|refine Ag () ?_ ?_|((first|apply AP|apply AO|apply AN|apply AM|apply AH|apply AG|apply AF|apply AE|apply AD)<;>try dsimp only)|apply Ag|(refine Prod.forall.2 ?_;intro _;try dsimp only)|(intro _;try dsimp only))
 all_goals first
  |rfl
  |exact hx
  |(simp;done)
  |(rename _=[]=>hq;cases hq;done)
  |exact Mt (And.left ‹_›) (by decide)
  |exact And.right (show _∈_∧Af _ _ by assumption)
  |skip)
def Bo(n:Nat):Sig:= {X:=Md×Int,args:=fun x=>[mad x.1,.int .i64 x.2],pre:=fun x=>(mdP x.1∧n≤3)∧x.2≤n∧ -5≤x.2,Y:=List UInt8×Int×Int,post:=fun x y=>y.1.length≤vB n∧Af x.1.b y.2.1,res:=fun x y=> .str y.1,outs:=fun x y=>[DF x.1 y.2.1 y.2.2 x.1.t,.top],keep:=true}
def liB(v:Nat)(i:Int)(l:Nat):Prop:=(i=0∧l=0)∨(i=1∧l≤v)∨(i=2∧l≤2*v+2)∨(i=3∧l≤3*v+4)
theorem b0p{v:Nat}:liB v 0 ([]:List UInt8).length:= .inl ⟨rfl,rfl⟩
theorem b0q{v:Nat}{i:Int}{l:Nat}(h:liB v i l):(0≤i∧i≤3)∧l≤3*v+4:=by unfold liB at h;omega
theorem b0r{v:Nat}{b:List UInt8}{i m c e:Int}{s y:List UInt8}(h:(liB v i s.length∧m≤3)∧Af b c)(hm:i<m)(hi:¬i>0)(hy:y.length≤v∧Af b e):liB v (i+1) (s++y).length:=by obtain⟨⟨h,_⟩,_⟩:=h;obtain⟨hy,_⟩:=hy;unfold liB at h ⊢;rw[List.length_append];omega
theorem b0s{v:Nat}{b:List UInt8}{i m c e:Int}{s y:List UInt8}(h:(liB v i s.length∧m≤3)∧Af b c)(hm:i<m)(hp:i>0)(hy:y.length≤v∧Af b e):liB v (i+1) (s++[44,32]++y).length:=by obtain⟨⟨h,_⟩,_⟩:=h;obtain⟨hy,_⟩:=hy;unfold liB at h ⊢;simp only[List.length_append,List.length_cons,List.length_nil];omega
def lmL(n:Nat)(x:Md×Int):LS:= {
 ι:=Int×Int×Int×Int×List UInt8,inv:=fun i=>(liB (vB n) i.1 i.2.2.2.2.length∧i.2.2.2.1≤3)∧Af x.1.b i.2.1,regs:=fun i=>[(0,DF x.1 i.2.1 i.2.2.1 x.1.t),(1,.int .i64 x.2),(5,.str i.2.2.2.2),(6,.int .i64 i.2.2.2.1),(7,.int .i64 i.1)],als:=[],meas:=fun i=>4-i.1.toNat}
def Ec(n:Nat):Sig:= {X:=Md×Int,args:=fun x=>[mad x.1,.int .i64 x.2],pre:=fun x=>(mdP x.1∧n≤3)∧x.2≤n+1∧ -4≤x.2,Y:=List UInt8×Int×Int,post:=fun x y=>y.1.length≤3*vB n+7∧Af x.1.b y.2.1,res:=fun x y=> .str y.1,outs:=fun x y=>[DF x.1 y.2.1 y.2.2 x.1.t,.top],keep:=true}
theorem b0t(n:Nat)(hc:Al G Go.Proofs.Tryz.prog 181 (Bo n)):Al G Tryz.prog 195 (Ec n):=
 vcFun_okP [(51,0,De),(181,0,(Bo n)),(55,0,KN)] [] false (fun x=>[(4,lmL n x)]) Tryz.func195 rfl (by decide) ⟨Hv,hc,QP,trivial⟩ (fun(x:Md×Int)=>True∧∃(x_1:List UInt8×Int×Int×Int),Af x_1.1 x_1.2.1∧x.1.cv=x.1.cv∧byL x.1.b=byL x_1.1∧x.1.i=x_1.2.1∧x.1.h=x_1.2.2.1∧(4:Int)=x_1.2.2.2∧∀(y:Int×Int×Int),(((0:Int)<x_1.2.2.2→(0:Int)≤y.1∧y.1<x_1.2.2.2)∧(x_1.2.2.2≤(0:Int)→y.1=(0:Int)))∧Af x_1.1 y.2.1→x.1.cv=x.1.cv∧eA (lmL n x) [.box 0 [AV.bv x.1.cv (cur x_1.1 y.2.1 y.2.2),.str x.1.t],.int .i64 x.2,.str #[].toList,.int .i64 y.1,.int .i64 (0:Int)]∧∀(i:Int×Int×Int×Int×List UInt8),(liB (vB n) i.1 (List.length i.2.2.2.2)∧i.2.2.2.1≤(3:Int))∧Af x.1.b i.2.1→Aa (decide (i.1<i.2.2.2.1)) (Aa (decide (i.1>(0:Int))) ((↑(List.length i.2.2.2.2+(2:Nat)):Int)≤IntKind.max IntKind.i64∧inR IntKind.i64 (x.2-(1:Int))∧cA (Bo n) [.box 0 [AV.bv x.1.cv (cur x.1.b i.2.1 i.2.2.1),.str x.1.t],.int .i64 (x.2-(1:Int))] fun x_2 y=>(↑(List.length (i.2.2.2.2++ #[(44:UInt8),(32:UInt8)].toList)+List.length y.1):Int)≤IntKind.max IntKind.i64∧inR IntKind.i64 (i.1+(1:Int))∧eN (lmL n x) i [.box 0 [AV.bv x_2.1.cv (cur x_2.1.b y.2.1 y.2.2),.str x_2.1.t],.int .i64 x.2,.str (i.2.2.2.2++ #[(44:UInt8),(32:UInt8)].toList++y.1),.int .i64 i.2.2.2.1,.int .i64 (i.1+(1:Int))]) (inR IntKind.i64 (x.2-(1:Int))∧cA (Bo n) [.box 0 [AV.bv x.1.cv (cur x.1.b i.2.1 i.2.2.1),.str x.1.t],.int .i64 (x.2-(1:Int))] fun x_2 y=>(↑(List.length i.2.2.2.2+List.length y.1):Int)≤IntKind.max IntKind.i64∧inR IntKind.i64 (i.1+(1:Int))∧eN (lmL n x) i [.box 0 [AV.bv x_2.1.cv (cur x_2.1.b y.2.1 y.2.2),.str x_2.1.t],.int .i64 x.2,.str (i.2.2.2.2++y.1),.int .i64 i.2.2.2.1,.int .i64 (i.1+(1:Int))])) (Aa (decide (i.2.2.2.1>(0:Int))) (∃(x_2:List UInt8×Int×Int×Int),Af x_2.1 x_2.2.1∧x.1.cv=x.1.cv∧byL x.1.b=byL x_2.1∧i.2.1=x_2.2.1∧i.2.2.1=x_2.2.2.1∧(5:Int)=x_2.2.2.2∧∀(y:Bool×Int×Int),Af x_2.1 y.2.1→x.1.cv=x.1.cv∧Aa y.1 ((↑(List.length i.2.2.2.2+(1:Nat)):Int)≤IntKind.max IntKind.i64∧rA (Ec n) x [.str (i.2.2.2.2++ #[(44:UInt8)].toList),.box 0 [AV.bv x.1.cv (cur x_2.1 y.2.1 y.2.2),.str x.1.t],.top]) (rA (Ec n) x [.str i.2.2.2.2,.box 0 [AV.bv x.1.cv (cur x_2.1 y.2.1 y.2.2),.str x.1.t],.top])) (rA (Ec n) x [.str i.2.2.2.2,.box 0 [AV.bv x.1.cv (cur x.1.b i.2.1 i.2.2.1),.str x.1.t],.top]))) (fun x=>by kernel_rfl) fun(x:Md×Int) (hx:(mdP x.1∧n≤3)∧x.2≤n+1∧ -4≤x.2)=>(by
 dsimp only[Eb,byL,cA,cur,eA,eN,lmL,mad,DF,rA,Ec,Bo,Av,AA,mvL,lnL,mvE,lnE,Bi]
 obtain⟨⟨cv,b,i,h,t⟩,d⟩:=x;dsimp only at hx ⊢
 obtain⟨⟨hx,hn⟩,hd,hd2⟩:=hx
 have hx:Af b i:=hx
 have hv:=Ux n hn
 (repeat' first|(apply Ms<;>try dsimp only)|(with_reducible first|rfl|exact True.intro|apply AL|apply And.intro|((first|apply AB|apply AJ|apply AC|apply AK)<;>intro _))|(apply Az<;>intro _)|apply AI|refine Ag () ?_ ?_|((first|apply AP|apply AO|apply AN|apply AM|apply AH|apply AG|apply AF|apply AE|apply AD)<;>try dsimp only)|apply Ag|(refine Prod.forall.2 ?_;intro _;try dsimp only)|(intro _;try dsimp only))
 all_goals(repeat(rename((_→_)∧(_→_))∧Af _ _=>hq;obtain⟨⟨_,_⟩,_⟩:=hq))
 all_goals first
  |rfl
  |(with_reducible assumption)
  |exact b0p
  |omega
  |exact hx
  |exact And.right (show(_∧_)∧Af _ _ by assumption)
  |exact And.right (show _≤_∧Af _ _ by assumption)
  |exact b0s ‹_› ‹_› ‹_› ‹_›
  |exact b0r ‹_› ‹_› ‹_› ‹_›
  |(have hq:=b0q (And.left (And.left (show(liB _ _ _∧_)∧_ by assumption)));(try simp only[AR,List.length_append,List.length_cons,List.length_nil]);omega)
  |skip)
theorem a0z{k:Int}(h:((0:Int)<16→0≤k∧k<16)∧((16:Int)≤0→k=0)):0≤k∧k<16:=h.1 (by decide)
theorem tm5{k:Int}(h:0≤k):0≤k.tmod 5∧k.tmod 5<5:=Oz h (by decide)
def Cl(n:Nat):Sig:= {X:=Md×Int,args:=fun x=>[mad x.1,.int .i64 x.2],pre:=fun x=>(mdP x.1∧n+1≤3)∧x.2≤(n+1:Nat)∧ -5≤x.2,Y:=List UInt8×Int×Int,post:=fun x y=>y.1.length≤vB (n+1)∧Af x.1.b y.2.1,res:=fun x y=> .str y.1,outs:=fun x y=>[DF x.1 y.2.1 y.2.2 x.1.t,.top],keep:=true}
set_option maxHeartbeats 8000000 in
theorem b0u(n:Nat)(hc:Al G Go.Proofs.Tryz.prog 181 (Bo n)):Al G Tryz.prog 181 (Cl n):=
 vcFun_okP [(51,0,De),(157,0,Bd),(123,0,IE),(195,0,(Ec n)),(181,0,(Bo n))] [(38,⟨List UInt8,Ai⟩)] false (fun x=>[]) Tryz.func181 rfl (by decide) ⟨Hv,OA,Mq,(b0t n hc),hc,trivial⟩ (fun(x:Md×Int)=>True∧∃(x_1:List UInt8×Int×Int×Int),Af x_1.1 x_1.2.1∧x.1.cv=x.1.cv∧byL x.1.b=byL x_1.1∧x.1.i=x_1.2.1∧x.1.h=x_1.2.2.1∧(16:Int)=x_1.2.2.2∧∀(y:Int×Int×Int),(((0:Int)<x_1.2.2.2→(0:Int)≤y.1∧y.1<x_1.2.2.2)∧(x_1.2.2.2≤(0:Int)→y.1=(0:Int)))∧Af x_1.1 y.2.1→x.1.cv=x.1.cv∧Aa (decide (x.2≤(0:Int))) ((5:Int)≠(0:Int)∧Aa (Int.tmod y.1 (5:Int)==(0:Int)) (cA Bd [.box 0 [AV.bv x.1.cv (cur x_1.1 y.2.1 y.2.2),.str x.1.t]] fun x_2 y=>rA (Cl n) x [.str y.1,.box 0 [AV.bv x_2.cv (cur x_2.b y.2.1 y.2.2),.str x_2.t],.top]) (Aa (Int.tmod y.1 (5:Int)==(1:Int)) (cA Bd [.box 0 [AV.bv x.1.cv (cur x_1.1 y.2.1 y.2.2),.str x.1.t]] fun x_2 y=>rA (Cl n) x [.str y.1,.box 0 [AV.bv x_2.cv (cur x_2.b y.2.1 y.2.2),.str x_2.t],.top]) (Aa (Int.tmod y.1 (5:Int)==(2:Int)) (cA Bd [.box 0 [AV.bv x.1.cv (cur x_1.1 y.2.1 y.2.2),.str x.1.t]] fun x_2 y=>rA (Cl n) x [.str y.1,.box 0 [AV.bv x_2.cv (cur x_2.b y.2.1 y.2.2),.str x_2.t],.top]) (Aa (Int.tmod y.1 (5:Int)==(3:Int)) (∃(x_2:List UInt8),#[(48:UInt8)].toList=x_2∧∃(x_3:List UInt8),#[(49:UInt8),(50:UInt8)].toList=x_3∧∃(x_4:List UInt8),#[(49:UInt8),(50:UInt8),(51:UInt8),(52:UInt8),(53:UInt8),(54:UInt8),(55:UInt8)].toList=x_4∧∃(x_5:List UInt8×Int×Int×List (List UInt8)),(Af x_5.1 x_5.2.1∧x_5.2.2.2≠[]∧List.length x_5.2.2.2<(1073741824:Nat))∧x.1.cv=x.1.cv∧byL x_1.1=byL x_5.1∧y.2.1=x_5.2.1∧y.2.2=x_5.2.2.1∧AV.sl false 0 1 (List UInt8) (fun(x:List UInt8)=>fzL (Ai x)) [x_2,x_3,x_4]=AV.sl false 0 1 (List UInt8) Ai x_5.2.2.2∧∀(y:List UInt8×Int×Int),y.1∈x_5.2.2.2∧Af x_5.1 y.2.1→x.1.cv=x.1.cv∧rA (Cl n) x [.str y.1,.box 0 [AV.bv x.1.cv (cur x_5.1 y.2.1 y.2.2),.str x.1.t],.top]) (Aa (Int.tmod y.1 (5:Int)==(4:Int)) (∃(x_2:List UInt8),#[(39:UInt8),(115:UInt8),(97:UInt8),(105:UInt8),(100:UInt8),(39:UInt8)].toList=x_2∧∃(x_3:List UInt8),#[(39:UInt8),(39:UInt8)].toList=x_3∧∃(x_4:List UInt8),#[(39:UInt8),(97:UInt8),(32:UInt8),(108:UInt8),(111:UInt8),(110:UInt8),(103:UInt8),(101:UInt8),(114:UInt8),(32:UInt8),(116:UInt8),(101:UInt8),(120:UInt8),(116:UInt8),(32:UInt8),(104:UInt8),(101:UInt8),(114:UInt8),(101:UInt8),(39:UInt8)].toList=x_4∧∃(x_5:List UInt8×Int×Int×List (List UInt8)),(Af x_5.1 x_5.2.1∧x_5.2.2.2≠[]∧List.length x_5.2.2.2<(1073741824:Nat))∧x.1.cv=x.1.cv∧byL x_1.1=byL x_5.1∧y.2.1=x_5.2.1∧y.2.2=x_5.2.2.1∧AV.sl false 0 1 (List UInt8) (fun(x:List UInt8)=>fzL (Ai x)) [x_2,x_3,x_4]=AV.sl false 0 1 (List UInt8) Ai x_5.2.2.2∧∀(y:List UInt8×Int×Int),y.1∈x_5.2.2.2∧Af x_5.1 y.2.1→x.1.cv=x.1.cv∧rA (Cl n) x [.str y.1,.box 0 [AV.bv x.1.cv (cur x_5.1 y.2.1 y.2.2),.str x.1.t],.top]) (Aa (Int.tmod y.1 (5:Int)==(5:Int)) (cA Bd [.box 0 [AV.bv x.1.cv (cur x_1.1 y.2.1 y.2.2),.str x.1.t]] fun x_2 y=>(↑(List.length y.1+(1:Nat)):Int)≤IntKind.max IntKind.i64∧cA (Ec n) [.box 0 [AV.bv x_2.cv (cur x_2.b y.2.1 y.2.2),.str x_2.t],.int .i64 x.2] fun x_3 y_1=>(↑(List.length (y.1++ #[(40:UInt8)].toList)+List.length y_1.1):Int)≤IntKind.max IntKind.i64∧(↑(List.length (y.1++ #[(40:UInt8)].toList++y_1.1)+(1:Nat)):Int)≤IntKind.max IntKind.i64∧rA (Cl n) x [.str (y.1++ #[(40:UInt8)].toList++y_1.1++ #[(41:UInt8)].toList),.box 0 [AV.bv x_3.1.cv (cur x_3.1.b y_1.2.1 y_1.2.2),.str x_3.1.t],.top]) (Aa (Int.tmod y.1 (5:Int)==(6:Int)) (cA Bd [.box 0 [AV.bv x.1.cv (cur x_1.1 y.2.1 y.2.2),.str x.1.t]] fun x_2 y=>(↑(List.length y.1+(1:Nat)):Int)≤IntKind.max IntKind.i64∧cA (Ec n) [.box 0 [AV.bv x_2.cv (cur x_2.b y.2.1 y.2.2),.str x_2.t],.int .i64 x.2] fun x_3 y_1=>(↑(List.length (y.1++ #[(40:UInt8)].toList)+List.length y_1.1):Int)≤IntKind.max IntKind.i64∧(↑(List.length (y.1++ #[(40:UInt8)].toList++y_1.1)+(1:Nat)):Int)≤IntKind.max IntKind.i64∧rA (Cl n) x [.str (y.1++ #[(40:UInt8)].toList++y_1.1++ #[(41:UInt8)].toList),.box 0 [AV.bv x_3.1.cv (cur x_3.1.b y_1.2.1 y_1.2.2),.str x_3.1.t],.top]) (Aa (Int.tmod y.1 (5:Int)==(7:Int)) (cA Bd [.box 0 [AV.bv x.1.cv (cur x_1.1 y.2.1 y.2.2),.str x.1.t]] fun x_2 y=>(↑(List.length y.1+(1:Nat)):Int)≤IntKind.max IntKind.i64∧cA (Ec n) [.box 0 [AV.bv x_2.cv (cur x_2.b y.2.1 y.2.2),.str x_2.t],.int .i64 x.2] fun x_3 y_1=>(↑(List.length (y.1++ #[(40:UInt8)].toList)+List.length y_1.1):Int)≤IntKind.max IntKind.i64∧(↑(List.length (y.1++ #[(40:UInt8)].toList++y_1.1)+(1:Nat)):Int)≤IntKind.max IntKind.i64∧rA (Cl n) x [.str (y.1++ #[(40:UInt8)].toList++y_1.1++ #[(41:UInt8)].toList),.box 0 [AV.bv x_3.1.cv (cur x_3.1.b y_1.2.1 y_1.2.2),.str x_3.1.t],.top]) (Aa (Int.tmod y.1 (5:Int)==(8:Int)) (cA (Ec n) [.box 0 [AV.bv x.1.cv (cur x_1.1 y.2.1 y.2.2),.str x.1.t],.int .i64 x.2] fun x_2 y=>(↑((1:Nat)+List.length y.1):Int)≤IntKind.max IntKind.i64∧(↑(List.length (#[(91:UInt8)].toList++y.1)+(1:Nat)):Int)≤IntKind.max IntKind.i64∧rA (Cl n) x [.str (#[(91:UInt8)].toList++y.1++ #[(93:UInt8)].toList),.box 0 [AV.bv x_2.1.cv (cur x_2.1.b y.2.1 y.2.2),.str x_2.1.t],.top]) (Aa (Int.tmod y.1 (5:Int)==(9:Int)) (cA Bd [.box 0 [AV.bv x.1.cv (cur x_1.1 y.2.1 y.2.2),.str x.1.t]] fun x_2 y=>(↑(List.length y.1+(1:Nat)):Int)≤IntKind.max IntKind.i64∧cA Bd [.box 0 [AV.bv x_2.cv (cur x_2.b y.2.1 y.2.2),.str x_2.t]] fun x_3 y_1=>(↑(List.length (y.1++ #[(46:UInt8)].toList)+List.length y_1.1):Int)≤IntKind.max IntKind.i64∧(↑(List.length (y.1++ #[(46:UInt8)].toList++y_1.1)+(1:Nat)):Int)≤IntKind.max IntKind.i64∧cA (Ec n) [.box 0 [AV.bv x_3.cv (cur x_3.b y_1.2.1 y_1.2.2),.str x_3.t],.int .i64 x.2] fun x_4 y_2=>(↑(List.length (y.1++ #[(46:UInt8)].toList++y_1.1++ #[(40:UInt8)].toList)+List.length y_2.1):Int)≤IntKind.max IntKind.i64∧(↑(List.length (y.1++ #[(46:UInt8)].toList++y_1.1++ #[(40:UInt8)].toList++y_2.1)+(1:Nat)):Int)≤IntKind.max IntKind.i64∧rA (Cl n) x [.str (y.1++ #[(46:UInt8)].toList++y_1.1++ #[(40:UInt8)].toList++y_2.1++ #[(41:UInt8)].toList),.box 0 [AV.bv x_4.1.cv (cur x_4.1.b y_2.2.1 y_2.2.2),.str x_4.1.t],.top]) (Aa (Int.tmod y.1 (5:Int)==(10:Int)) (∃(x_2:List UInt8),#[(43:UInt8)].toList=x_2∧∃(x_3:List UInt8),#[(45:UInt8)].toList=x_3∧∃(x_4:List UInt8),#[(42:UInt8)].toList=x_4∧∃(x_5:List UInt8),#[(38:UInt8),(38:UInt8)].toList=x_5∧∃(x_6:List UInt8),#[(124:UInt8),(124:UInt8)].toList=x_6∧∃(x_7:List UInt8),#[(61:UInt8),(61:UInt8)].toList=x_7∧∃(x_8:List UInt8),#[(60:UInt8)].toList=x_8∧∃(x_9:List UInt8×Int×Int×List (List UInt8)),(Af x_9.1 x_9.2.1∧x_9.2.2.2≠[]∧List.length x_9.2.2.2<(1073741824:Nat))∧x.1.cv=x.1.cv∧byL x_1.1=byL x_9.1∧y.2.1=x_9.2.1∧y.2.2=x_9.2.2.1∧AV.sl false 0 1 (List UInt8) (fun(x:List UInt8)=>fzL (Ai x)) [x_2,x_3,x_4,x_5,x_6,x_7,x_8]=AV.sl false 0 1 (List UInt8) Ai x_9.2.2.2∧∀(y:List UInt8×Int×Int),y.1∈x_9.2.2.2∧Af x_9.1 y.2.1→x.1.cv=x.1.cv∧inR IntKind.i64 (x.2-(1:Int))∧cA (Bo n) [.box 0 [AV.bv x.1.cv (cur x_9.1 y.2.1 y.2.2),.str x.1.t],.int .i64 (x.2-(1:Int))] fun x_10 y_1=>(↑(List.length y_1.1+(1:Nat)):Int)≤IntKind.max IntKind.i64∧(↑(List.length (y_1.1++ #[(32:UInt8)].toList)+List.length y.1):Int)≤IntKind.max IntKind.i64∧(↑(List.length (y_1.1++ #[(32:UInt8)].toList++y.1)+(1:Nat)):Int)≤IntKind.max IntKind.i64∧inR IntKind.i64 (x.2-(1:Int))∧cA (Bo n) [.box 0 [AV.bv x_10.1.cv (cur x_10.1.b y_1.2.1 y_1.2.2),.str x_10.1.t],.int .i64 (x.2-(1:Int))] fun x_11 y_2=>(↑(List.length (y_1.1++ #[(32:UInt8)].toList++y.1++ #[(32:UInt8)].toList)+List.length y_2.1):Int)≤IntKind.max IntKind.i64∧(↑(List.length (y_1.1++ #[(32:UInt8)].toList++y.1++ #[(32:UInt8)].toList++y_2.1)+(1:Nat)):Int)≤IntKind.max IntKind.i64∧(↑(List.length (y_1.1++ #[(32:UInt8)].toList++y.1++ #[(32:UInt8)].toList++y_2.1++ #[(32:UInt8)].toList)+List.length y.1):Int)≤IntKind.max IntKind.i64∧(↑(List.length (y_1.1++ #[(32:UInt8)].toList++y.1++ #[(32:UInt8)].toList++y_2.1++ #[(32:UInt8)].toList++y.1)+(1:Nat)):Int)≤IntKind.max IntKind.i64∧cA Bd [.box 0 [AV.bv x_11.1.cv (cur x_11.1.b y_2.2.1 y_2.2.2),.str x_11.1.t]] fun x_12 y_3=>(↑(List.length (y_1.1++ #[(32:UInt8)].toList++y.1++ #[(32:UInt8)].toList++y_2.1++ #[(32:UInt8)].toList++y.1++ #[(32:UInt8)].toList)+List.length y_3.1):Int)≤IntKind.max IntKind.i64∧rA (Cl n) x [.str (y_1.1++ #[(32:UInt8)].toList++y.1++ #[(32:UInt8)].toList++y_2.1++ #[(32:UInt8)].toList++y.1++ #[(32:UInt8)].toList++y_3.1),.box 0 [AV.bv x_12.cv (cur x_12.b y_3.2.1 y_3.2.2),.str x_12.t],.top]) (Aa (Int.tmod y.1 (5:Int)==(11:Int)) (∃(x_2:List UInt8),#[(43:UInt8)].toList=x_2∧∃(x_3:List UInt8),#[(45:UInt8)].toList=x_3∧∃(x_4:List UInt8),#[(42:UInt8)].toList=x_4∧∃(x_5:List UInt8),#[(38:UInt8),(38:UInt8)].toList=x_5∧∃(x_6:List UInt8),#[(124:UInt8),(124:UInt8)].toList=x_6∧∃(x_7:List UInt8),#[(61:UInt8),(61:UInt8)].toList=x_7∧∃(x_8:List UInt8),#[(60:UInt8)].toList=x_8∧∃(x_9:List UInt8×Int×Int×List (List UInt8)),(Af x_9.1 x_9.2.1∧x_9.2.2.2≠[]∧List.length x_9.2.2.2<(1073741824:Nat))∧x.1.cv=x.1.cv∧byL x_1.1=byL x_9.1∧y.2.1=x_9.2.1∧y.2.2=x_9.2.2.1∧AV.sl false 0 1 (List UInt8) (fun(x:List UInt8)=>fzL (Ai x)) [x_2,x_3,x_4,x_5,x_6,x_7,x_8]=AV.sl false 0 1 (List UInt8) Ai x_9.2.2.2∧∀(y:List UInt8×Int×Int),y.1∈x_9.2.2.2∧Af x_9.1 y.2.1→x.1.cv=x.1.cv∧inR IntKind.i64 (x.2-(1:Int))∧cA (Bo n) [.box 0 [AV.bv x.1.cv (cur x_9.1 y.2.1 y.2.2),.str x.1.t],.int .i64 (x.2-(1:Int))] fun x_10 y_1=>(↑(List.length y_1.1+(1:Nat)):Int)≤IntKind.max IntKind.i64∧(↑(List.length (y_1.1++ #[(32:UInt8)].toList)+List.length y.1):Int)≤IntKind.max IntKind.i64∧(↑(List.length (y_1.1++ #[(32:UInt8)].toList++y.1)+(1:Nat)):Int)≤IntKind.max IntKind.i64∧inR IntKind.i64 (x.2-(1:Int))∧cA (Bo n) [.box 0 [AV.bv x_10.1.cv (cur x_10.1.b y_1.2.1 y_1.2.2),.str x_10.1.t],.int .i64 (x.2-(1:Int))] fun x_11 y_2=>(↑(List.length (y_1.1++ #[(32:UInt8)].toList++y.1++ #[(32:UInt8)].toList)+List.length y_2.1):Int)≤IntKind.max IntKind.i64∧(↑(List.length (y_1.1++ #[(32:UInt8)].toList++y.1++ #[(32:UInt8)].toList++y_2.1)+(1:Nat)):Int)≤IntKind.max IntKind.i64∧(↑(List.length (y_1.1++ #[(32:UInt8)].toList++y.1++ #[(32:UInt8)].toList++y_2.1++ #[(32:UInt8)].toList)+List.length y.1):Int)≤IntKind.max IntKind.i64∧(↑(List.length (y_1.1++ #[(32:UInt8)].toList++y.1++ #[(32:UInt8)].toList++y_2.1++ #[(32:UInt8)].toList++y.1)+(1:Nat)):Int)≤IntKind.max IntKind.i64∧cA Bd [.box 0 [AV.bv x_11.1.cv (cur x_11.1.b y_2.2.1 y_2.2.2),.str x_11.1.t]] fun x_12 y_3=>(↑(List.length (y_1.1++ #[(32:UInt8)].toList++y.1++ #[(32:UInt8)].toList++y_2.1++ #[(32:UInt8)].toList++y.1++ #[(32:UInt8)].toList)+List.length y_3.1):Int)≤IntKind.max IntKind.i64∧rA (Cl n) x [.str (y_1.1++ #[(32:UInt8)].toList++y.1++ #[(32:UInt8)].toList++y_2.1++ #[(32:UInt8)].toList++y.1++ #[(32:UInt8)].toList++y_3.1),.box 0 [AV.bv x_12.cv (cur x_12.b y_3.2.1 y_3.2.2),.str x_12.t],.top]) (Aa (Int.tmod y.1 (5:Int)==(12:Int)) (inR IntKind.i64 (x.2-(1:Int))∧cA (Bo n) [.box 0 [AV.bv x.1.cv (cur x_1.1 y.2.1 y.2.2),.str x.1.t],.int .i64 (x.2-(1:Int))] fun x_2 y=>(↑((1:Nat)+List.length y.1):Int)≤IntKind.max IntKind.i64∧(↑(List.length (#[(40:UInt8)].toList++y.1)+(1:Nat)):Int)≤IntKind.max IntKind.i64∧rA (Cl n) x [.str (#[(40:UInt8)].toList++y.1++ #[(41:UInt8)].toList),.box 0 [AV.bv x_2.1.cv (cur x_2.1.b y.2.1 y.2.2),.str x_2.1.t],.top]) (Aa (Int.tmod y.1 (5:Int)==(13:Int)) (cA Bd [.box 0 [AV.bv x.1.cv (cur x_1.1 y.2.1 y.2.2),.str x.1.t]] fun x_2 y=>(↑(List.length y.1+(3:Nat)):Int)≤IntKind.max IntKind.i64∧cA Bd [.box 0 [AV.bv x_2.cv (cur x_2.b y.2.1 y.2.2),.str x_2.t]] fun x_3 y_1=>(↑(List.length (y.1++ #[(32:UInt8),(60:UInt8),(32:UInt8)].toList)+List.length y_1.1):Int)≤IntKind.max IntKind.i64∧(↑(List.length (y.1++ #[(32:UInt8),(60:UInt8),(32:UInt8)].toList++y_1.1)+(3:Nat)):Int)≤IntKind.max IntKind.i64∧inR IntKind.i64 (x.2-(1:Int))∧cA (Bo n) [.box 0 [AV.bv x_3.cv (cur x_3.b y_1.2.1 y_1.2.2),.str x_3.t],.int .i64 (x.2-(1:Int))] fun x_4 y_2=>(↑(List.length (y.1++ #[(32:UInt8),(60:UInt8),(32:UInt8)].toList++y_1.1++ #[(32:UInt8),(63:UInt8),(32:UInt8)].toList)+List.length y_2.1):Int)≤IntKind.max IntKind.i64∧(↑(List.length (y.1++ #[(32:UInt8),(60:UInt8),(32:UInt8)].toList++y_1.1++ #[(32:UInt8),(63:UInt8),(32:UInt8)].toList++y_2.1)+(3:Nat)):Int)≤IntKind.max IntKind.i64∧inR IntKind.i64 (x.2-(1:Int))∧cA (Bo n) [.box 0 [AV.bv x_4.1.cv (cur x_4.1.b y_2.2.1 y_2.2.2),.str x_4.1.t],.int .i64 (x.2-(1:Int))] fun x_5 y_3=>(↑(List.length (y.1++ #[(32:UInt8),(60:UInt8),(32:UInt8)].toList++y_1.1++ #[(32:UInt8),(63:UInt8),(32:UInt8)].toList++y_2.1++ #[(32:UInt8),(58:UInt8),(32:UInt8)].toList)+List.length y_3.1):Int)≤IntKind.max IntKind.i64∧rA (Cl n) x [.str (y.1++ #[(32:UInt8),(60:UInt8),(32:UInt8)].toList++y_1.1++ #[(32:UInt8),(63:UInt8),(32:UInt8)].toList++y_2.1++ #[(32:UInt8),(58:UInt8),(32:UInt8)].toList++y_3.1),.box 0 [AV.bv x_5.1.cv (cur x_5.1.b y_3.2.1 y_3.2.2),.str x_5.1.t],.top]) (Aa (Int.tmod y.1 (5:Int)==(14:Int)) (∃(x_2:List UInt8),#[].toList=x_2∧∃(x_3:List UInt8),#[(97:UInt8)].toList=x_3∧∃(x_4:List UInt8),#[(97:UInt8),(44:UInt8),(32:UInt8),(98:UInt8)].toList=x_4∧∃(x_5:List UInt8×Int×Int×List (List UInt8)),(Af x_5.1 x_5.2.1∧x_5.2.2.2≠[]∧List.length x_5.2.2.2<(1073741824:Nat))∧x.1.cv=x.1.cv∧byL x_1.1=byL x_5.1∧y.2.1=x_5.2.1∧y.2.2=x_5.2.2.1∧AV.sl false 0 1 (List UInt8) (fun(x:List UInt8)=>fzL (Ai x)) [x_2,x_3,x_4]=AV.sl false 0 1 (List UInt8) Ai x_5.2.2.2∧∀(y:List UInt8×Int×Int),y.1∈x_5.2.2.2∧Af x_5.1 y.2.1→x.1.cv=x.1.cv∧(↑((1:Nat)+List.length y.1):Int)≤IntKind.max IntKind.i64∧(↑(List.length (#[(40:UInt8)].toList++y.1)+(5:Nat)):Int)≤IntKind.max IntKind.i64∧inR IntKind.i64 (x.2-(1:Int))∧cA (Bo n) [.box 0 [AV.bv x.1.cv (cur x_5.1 y.2.1 y.2.2),.str x.1.t],.int .i64 (x.2-(1:Int))] fun x_6 y_1=>(↑(List.length (#[(40:UInt8)].toList++y.1++ #[(41:UInt8),(32:UInt8),(61:UInt8),(62:UInt8),(32:UInt8)].toList)+List.length y_1.1):Int)≤IntKind.max IntKind.i64∧rA (Cl n) x [.str (#[(40:UInt8)].toList++y.1++ #[(41:UInt8),(32:UInt8),(61:UInt8),(62:UInt8),(32:UInt8)].toList++y_1.1),.box 0 [AV.bv x_6.1.cv (cur x_6.1.b y_1.2.1 y_1.2.2),.str x_6.1.t],.top]) (cA Bd [.box 0 [AV.bv x.1.cv (cur x_1.1 y.2.1 y.2.2),.str x.1.t]] fun x_2 y=>(↑(List.length y.1+(6:Nat)):Int)≤IntKind.max IntKind.i64∧cA (Ec n) [.box 0 [AV.bv x_2.cv (cur x_2.b y.2.1 y.2.2),.str x_2.t],.int .i64 x.2] fun x_3 y_1=>(↑(List.length (y.1++ #[(46:UInt8),(46:UInt8),(97:UInt8),(100:UInt8),(100:UInt8),(40:UInt8)].toList)+List.length y_1.1):Int)≤IntKind.max IntKind.i64∧(↑(List.length (y.1++ #[(46:UInt8),(46:UInt8),(97:UInt8),(100:UInt8),(100:UInt8),(40:UInt8)].toList++y_1.1)+(10:Nat)):Int)≤IntKind.max IntKind.i64∧rA (Cl n) x [.str (y.1++ #[(46:UInt8),(46:UInt8),(97:UInt8),(100:UInt8),(100:UInt8),(40:UInt8)].toList++y_1.1++ #[(41:UInt8),(46:UInt8),(46:UInt8),(99:UInt8),(108:UInt8),(111:UInt8),(115:UInt8),(101:UInt8),(40:UInt8),(41:UInt8)].toList),.box 0 [AV.bv x_3.1.cv (cur x_3.1.b y_1.2.1 y_1.2.2),.str x_3.1.t],.top])))))))))))))))) (Aa (y.1==(0:Int)) (cA Bd [.box 0 [AV.bv x.1.cv (cur x_1.1 y.2.1 y.2.2),.str x.1.t]] fun x_2 y=>rA (Cl n) x [.str y.1,.box 0 [AV.bv x_2.cv (cur x_2.b y.2.1 y.2.2),.str x_2.t],.top]) (Aa (y.1==(1:Int)) (cA Bd [.box 0 [AV.bv x.1.cv (cur x_1.1 y.2.1 y.2.2),.str x.1.t]] fun x_2 y=>rA (Cl n) x [.str y.1,.box 0 [AV.bv x_2.cv (cur x_2.b y.2.1 y.2.2),.str x_2.t],.top]) (Aa (y.1==(2:Int)) (cA Bd [.box 0 [AV.bv x.1.cv (cur x_1.1 y.2.1 y.2.2),.str x.1.t]] fun x_2 y=>rA (Cl n) x [.str y.1,.box 0 [AV.bv x_2.cv (cur x_2.b y.2.1 y.2.2),.str x_2.t],.top]) (Aa (y.1==(3:Int)) (∃(x_2:List UInt8),#[(48:UInt8)].toList=x_2∧∃(x_3:List UInt8),#[(49:UInt8),(50:UInt8)].toList=x_3∧∃(x_4:List UInt8),#[(49:UInt8),(50:UInt8),(51:UInt8),(52:UInt8),(53:UInt8),(54:UInt8),(55:UInt8)].toList=x_4∧∃(x_5:List UInt8×Int×Int×List (List UInt8)),(Af x_5.1 x_5.2.1∧x_5.2.2.2≠[]∧List.length x_5.2.2.2<(1073741824:Nat))∧x.1.cv=x.1.cv∧byL x_1.1=byL x_5.1∧y.2.1=x_5.2.1∧y.2.2=x_5.2.2.1∧AV.sl false 0 1 (List UInt8) (fun(x:List UInt8)=>fzL (Ai x)) [x_2,x_3,x_4]=AV.sl false 0 1 (List UInt8) Ai x_5.2.2.2∧∀(y:List UInt8×Int×Int),y.1∈x_5.2.2.2∧Af x_5.1 y.2.1→x.1.cv=x.1.cv∧rA (Cl n) x [.str y.1,.box 0 [AV.bv x.1.cv (cur x_5.1 y.2.1 y.2.2),.str x.1.t],.top]) (Aa (y.1==(4:Int)) (∃(x_2:List UInt8),#[(39:UInt8),(115:UInt8),(97:UInt8),(105:UInt8),(100:UInt8),(39:UInt8)].toList=x_2∧∃(x_3:List UInt8),#[(39:UInt8),(39:UInt8)].toList=x_3∧∃(x_4:List UInt8),#[(39:UInt8),(97:UInt8),(32:UInt8),(108:UInt8),(111:UInt8),(110:UInt8),(103:UInt8),(101:UInt8),(114:UInt8),(32:UInt8),(116:UInt8),(101:UInt8),(120:UInt8),(116:UInt8),(32:UInt8),(104:UInt8),(101:UInt8),(114:UInt8),(101:UInt8),(39:UInt8)].toList=x_4∧∃(x_5:List UInt8×Int×Int×List (List UInt8)),(Af x_5.1 x_5.2.1∧x_5.2.2.2≠[]∧List.length x_5.2.2.2<(1073741824:Nat))∧x.1.cv=x.1.cv∧byL x_1.1=byL x_5.1∧y.2.1=x_5.2.1∧y.2.2=x_5.2.2.1∧AV.sl false 0 1 (List UInt8) (fun(x:List UInt8)=>fzL (Ai x)) [x_2,x_3,x_4]=AV.sl false 0 1 (List UInt8) Ai x_5.2.2.2∧∀(y:List UInt8×Int×Int),y.1∈x_5.2.2.2∧Af x_5.1 y.2.1→x.1.cv=x.1.cv∧rA (Cl n) x [.str y.1,.box 0 [AV.bv x.1.cv (cur x_5.1 y.2.1 y.2.2),.str x.1.t],.top]) (Aa (y.1==(5:Int)) (cA Bd [.box 0 [AV.bv x.1.cv (cur x_1.1 y.2.1 y.2.2),.str x.1.t]] fun x_2 y=>(↑(List.length y.1+(1:Nat)):Int)≤IntKind.max IntKind.i64∧cA (Ec n) [.box 0 [AV.bv x_2.cv (cur x_2.b y.2.1 y.2.2),.str x_2.t],.int .i64 x.2] fun x_3 y_1=>(↑(List.length (y.1++ #[(40:UInt8)].toList)+List.length y_1.1):Int)≤IntKind.max IntKind.i64∧(↑(List.length (y.1++ #[(40:UInt8)].toList++y_1.1)+(1:Nat)):Int)≤IntKind.max IntKind.i64∧rA (Cl n) x [.str (y.1++ #[(40:UInt8)].toList++y_1.1++ #[(41:UInt8)].toList),.box 0 [AV.bv x_3.1.cv (cur x_3.1.b y_1.2.1 y_1.2.2),.str x_3.1.t],.top]) (Aa (y.1==(6:Int)) (cA Bd [.box 0 [AV.bv x.1.cv (cur x_1.1 y.2.1 y.2.2),.str x.1.t]] fun x_2 y=>(↑(List.length y.1+(1:Nat)):Int)≤IntKind.max IntKind.i64∧cA (Ec n) [.box 0 [AV.bv x_2.cv (cur x_2.b y.2.1 y.2.2),.str x_2.t],.int .i64 x.2] fun x_3 y_1=>(↑(List.length (y.1++ #[(40:UInt8)].toList)+List.length y_1.1):Int)≤IntKind.max IntKind.i64∧(↑(List.length (y.1++ #[(40:UInt8)].toList++y_1.1)+(1:Nat)):Int)≤IntKind.max IntKind.i64∧rA (Cl n) x [.str (y.1++ #[(40:UInt8)].toList++y_1.1++ #[(41:UInt8)].toList),.box 0 [AV.bv x_3.1.cv (cur x_3.1.b y_1.2.1 y_1.2.2),.str x_3.1.t],.top]) (Aa (y.1==(7:Int)) (cA Bd [.box 0 [AV.bv x.1.cv (cur x_1.1 y.2.1 y.2.2),.str x.1.t]] fun x_2 y=>(↑(List.length y.1+(1:Nat)):Int)≤IntKind.max IntKind.i64∧cA (Ec n) [.box 0 [AV.bv x_2.cv (cur x_2.b y.2.1 y.2.2),.str x_2.t],.int .i64 x.2] fun x_3 y_1=>(↑(List.length (y.1++ #[(40:UInt8)].toList)+List.length y_1.1):Int)≤IntKind.max IntKind.i64∧(↑(List.length (y.1++ #[(40:UInt8)].toList++y_1.1)+(1:Nat)):Int)≤IntKind.max IntKind.i64∧rA (Cl n) x [.str (y.1++ #[(40:UInt8)].toList++y_1.1++ #[(41:UInt8)].toList),.box 0 [AV.bv x_3.1.cv (cur x_3.1.b y_1.2.1 y_1.2.2),.str x_3.1.t],.top]) (Aa (y.1==(8:Int)) (cA (Ec n) [.box 0 [AV.bv x.1.cv (cur x_1.1 y.2.1 y.2.2),.str x.1.t],.int .i64 x.2] fun x_2 y=>(↑((1:Nat)+List.length y.1):Int)≤IntKind.max IntKind.i64∧(↑(List.length (#[(91:UInt8)].toList++y.1)+(1:Nat)):Int)≤IntKind.max IntKind.i64∧rA (Cl n) x [.str (#[(91:UInt8)].toList++y.1++ #[(93:UInt8)].toList),.box 0 [AV.bv x_2.1.cv (cur x_2.1.b y.2.1 y.2.2),.str x_2.1.t],.top]) (Aa (y.1==(9:Int)) (cA Bd [.box 0 [AV.bv x.1.cv (cur x_1.1 y.2.1 y.2.2),.str x.1.t]] fun x_2 y=>(↑(List.length y.1+(1:Nat)):Int)≤IntKind.max IntKind.i64∧cA Bd [.box 0 [AV.bv x_2.cv (cur x_2.b y.2.1 y.2.2),.str x_2.t]] fun x_3 y_1=>(↑(List.length (y.1++ #[(46:UInt8)].toList)+List.length y_1.1):Int)≤IntKind.max IntKind.i64∧(↑(List.length (y.1++ #[(46:UInt8)].toList++y_1.1)+(1:Nat)):Int)≤IntKind.max IntKind.i64∧cA (Ec n) [.box 0 [AV.bv x_3.cv (cur x_3.b y_1.2.1 y_1.2.2),.str x_3.t],.int .i64 x.2] fun x_4 y_2=>(↑(List.length (y.1++ #[(46:UInt8)].toList++y_1.1++ #[(40:UInt8)].toList)+List.length y_2.1):Int)≤IntKind.max IntKind.i64∧(↑(List.length (y.1++ #[(46:UInt8)].toList++y_1.1++ #[(40:UInt8)].toList++y_2.1)+(1:Nat)):Int)≤IntKind.max IntKind.i64∧rA (Cl n) x [.str (y.1++ #[(46:UInt8)].toList++y_1.1++ #[(40:UInt8)].toList++y_2.1++ #[(41:UInt8)].toList),.box 0 [AV.bv x_4.1.cv (cur x_4.1.b y_2.2.1 y_2.2.2),.str x_4.1.t],.top]) (Aa (y.1==(10:Int)) (∃(x_2:List UInt8),#[(43:UInt8)].toList=x_2∧∃(x_3:List UInt8),#[(45:UInt8)].toList=x_3∧∃(x_4:List UInt8),#[(42:UInt8)].toList=x_4∧∃(x_5:List UInt8),#[(38:UInt8),(38:UInt8)].toList=x_5∧∃(x_6:List UInt8),#[(124:UInt8),(124:UInt8)].toList=x_6∧∃(x_7:List UInt8),#[(61:UInt8),(61:UInt8)].toList=x_7∧∃(x_8:List UInt8),#[(60:UInt8)].toList=x_8∧∃(x_9:List UInt8×Int×Int×List (List UInt8)),(Af x_9.1 x_9.2.1∧x_9.2.2.2≠[]∧List.length x_9.2.2.2<(1073741824:Nat))∧x.1.cv=x.1.cv∧byL x_1.1=byL x_9.1∧y.2.1=x_9.2.1∧y.2.2=x_9.2.2.1∧AV.sl false 0 1 (List UInt8) (fun(x:List UInt8)=>fzL (Ai x)) [x_2,x_3,x_4,x_5,x_6,x_7,x_8]=AV.sl false 0 1 (List UInt8) Ai x_9.2.2.2∧∀(y:List UInt8×Int×Int),y.1∈x_9.2.2.2∧Af x_9.1 y.2.1→x.1.cv=x.1.cv∧inR IntKind.i64 (x.2-(1:Int))∧cA (Bo n) [.box 0 [AV.bv x.1.cv (cur x_9.1 y.2.1 y.2.2),.str x.1.t],.int .i64 (x.2-(1:Int))] fun x_10 y_1=>(↑(List.length y_1.1+(1:Nat)):Int)≤IntKind.max IntKind.i64∧(↑(List.length (y_1.1++ #[(32:UInt8)].toList)+List.length y.1):Int)≤IntKind.max IntKind.i64∧(↑(List.length (y_1.1++ #[(32:UInt8)].toList++y.1)+(1:Nat)):Int)≤IntKind.max IntKind.i64∧inR IntKind.i64 (x.2-(1:Int))∧cA (Bo n) [.box 0 [AV.bv x_10.1.cv (cur x_10.1.b y_1.2.1 y_1.2.2),.str x_10.1.t],.int .i64 (x.2-(1:Int))] fun x_11 y_2=>(↑(List.length (y_1.1++ #[(32:UInt8)].toList++y.1++ #[(32:UInt8)].toList)+List.length y_2.1):Int)≤IntKind.max IntKind.i64∧(↑(List.length (y_1.1++ #[(32:UInt8)].toList++y.1++ #[(32:UInt8)].toList++y_2.1)+(1:Nat)):Int)≤IntKind.max IntKind.i64∧(↑(List.length (y_1.1++ #[(32:UInt8)].toList++y.1++ #[(32:UInt8)].toList++y_2.1++ #[(32:UInt8)].toList)+List.length y.1):Int)≤IntKind.max IntKind.i64∧(↑(List.length (y_1.1++ #[(32:UInt8)].toList++y.1++ #[(32:UInt8)].toList++y_2.1++ #[(32:UInt8)].toList++y.1)+(1:Nat)):Int)≤IntKind.max IntKind.i64∧cA Bd [.box 0 [AV.bv x_11.1.cv (cur x_11.1.b y_2.2.1 y_2.2.2),.str x_11.1.t]] fun x_12 y_3=>(↑(List.length (y_1.1++ #[(32:UInt8)].toList++y.1++ #[(32:UInt8)].toList++y_2.1++ #[(32:UInt8)].toList++y.1++ #[(32:UInt8)].toList)+List.length y_3.1):Int)≤IntKind.max IntKind.i64∧rA (Cl n) x [.str (y_1.1++ #[(32:UInt8)].toList++y.1++ #[(32:UInt8)].toList++y_2.1++ #[(32:UInt8)].toList++y.1++ #[(32:UInt8)].toList++y_3.1),.box 0 [AV.bv x_12.cv (cur x_12.b y_3.2.1 y_3.2.2),.str x_12.t],.top]) (Aa (y.1==(11:Int)) (∃(x_2:List UInt8),#[(43:UInt8)].toList=x_2∧∃(x_3:List UInt8),#[(45:UInt8)].toList=x_3∧∃(x_4:List UInt8),#[(42:UInt8)].toList=x_4∧∃(x_5:List UInt8),#[(38:UInt8),(38:UInt8)].toList=x_5∧∃(x_6:List UInt8),#[(124:UInt8),(124:UInt8)].toList=x_6∧∃(x_7:List UInt8),#[(61:UInt8),(61:UInt8)].toList=x_7∧∃(x_8:List UInt8),#[(60:UInt8)].toList=x_8∧∃(x_9:List UInt8×Int×Int×List (List UInt8)),(Af x_9.1 x_9.2.1∧x_9.2.2.2≠[]∧List.length x_9.2.2.2<(1073741824:Nat))∧x.1.cv=x.1.cv∧byL x_1.1=byL x_9.1∧y.2.1=x_9.2.1∧y.2.2=x_9.2.2.1∧AV.sl false 0 1 (List UInt8) (fun(x:List UInt8)=>fzL (Ai x)) [x_2,x_3,x_4,x_5,x_6,x_7,x_8]=AV.sl false 0 1 (List UInt8) Ai x_9.2.2.2∧∀(y:List UInt8×Int×Int),y.1∈x_9.2.2.2∧Af x_9.1 y.2.1→x.1.cv=x.1.cv∧inR IntKind.i64 (x.2-(1:Int))∧cA (Bo n) [.box 0 [AV.bv x.1.cv (cur x_9.1 y.2.1 y.2.2),.str x.1.t],.int .i64 (x.2-(1:Int))] fun x_10 y_1=>(↑(List.length y_1.1+(1:Nat)):Int)≤IntKind.max IntKind.i64∧(↑(List.length (y_1.1++ #[(32:UInt8)].toList)+List.length y.1):Int)≤IntKind.max IntKind.i64∧(↑(List.length (y_1.1++ #[(32:UInt8)].toList++y.1)+(1:Nat)):Int)≤IntKind.max IntKind.i64∧inR IntKind.i64 (x.2-(1:Int))∧cA (Bo n) [.box 0 [AV.bv x_10.1.cv (cur x_10.1.b y_1.2.1 y_1.2.2),.str x_10.1.t],.int .i64 (x.2-(1:Int))] fun x_11 y_2=>(↑(List.length (y_1.1++ #[(32:UInt8)].toList++y.1++ #[(32:UInt8)].toList)+List.length y_2.1):Int)≤IntKind.max IntKind.i64∧(↑(List.length (y_1.1++ #[(32:UInt8)].toList++y.1++ #[(32:UInt8)].toList++y_2.1)+(1:Nat)):Int)≤IntKind.max IntKind.i64∧(↑(List.length (y_1.1++ #[(32:UInt8)].toList++y.1++ #[(32:UInt8)].toList++y_2.1++ #[(32:UInt8)].toList)+List.length y.1):Int)≤IntKind.max IntKind.i64∧(↑(List.length (y_1.1++ #[(32:UInt8)].toList++y.1++ #[(32:UInt8)].toList++y_2.1++ #[(32:UInt8)].toList++y.1)+(1:Nat)):Int)≤IntKind.max IntKind.i64∧cA Bd [.box 0 [AV.bv x_11.1.cv (cur x_11.1.b y_2.2.1 y_2.2.2),.str x_11.1.t]] fun x_12 y_3=>(↑(List.length (y_1.1++ #[(32:UInt8)].toList++y.1++ #[(32:UInt8)].toList++y_2.1++ #[(32:UInt8)].toList++y.1++ #[(32:UInt8)].toList)+List.length y_3.1):Int)≤IntKind.max IntKind.i64∧rA (Cl n) x [.str (y_1.1++ #[(32:UInt8)].toList++y.1++ #[(32:UInt8)].toList++y_2.1++ #[(32:UInt8)].toList++y.1++ #[(32:UInt8)].toList++y_3.1),.box 0 [AV.bv x_12.cv (cur x_12.b y_3.2.1 y_3.2.2),.str x_12.t],.top]) (Aa (y.1==(12:Int)) (inR IntKind.i64 (x.2-(1:Int))∧cA (Bo n) [.box 0 [AV.bv x.1.cv (cur x_1.1 y.2.1 y.2.2),.str x.1.t],.int .i64 (x.2-(1:Int))] fun x_2 y=>(↑((1:Nat)+List.length y.1):Int)≤IntKind.max IntKind.i64∧(↑(List.length (#[(40:UInt8)].toList++y.1)+(1:Nat)):Int)≤IntKind.max IntKind.i64∧rA (Cl n) x [.str (#[(40:UInt8)].toList++y.1++ #[(41:UInt8)].toList),.box 0 [AV.bv x_2.1.cv (cur x_2.1.b y.2.1 y.2.2),.str x_2.1.t],.top]) (Aa (y.1==(13:Int)) (cA Bd [.box 0 [AV.bv x.1.cv (cur x_1.1 y.2.1 y.2.2),.str x.1.t]] fun x_2 y=>(↑(List.length y.1+(3:Nat)):Int)≤IntKind.max IntKind.i64∧cA Bd [.box 0 [AV.bv x_2.cv (cur x_2.b y.2.1 y.2.2),.str x_2.t]] fun x_3 y_1=>(↑(List.length (y.1++ #[(32:UInt8),(60:UInt8),(32:UInt8)].toList)+List.length y_1.1):Int)≤IntKind.max IntKind.i64∧(↑(List.length (y.1++ #[(32:UInt8),(60:UInt8),(32:UInt8)].toList++y_1.1)+(3:Nat)):Int)≤IntKind.max IntKind.i64∧inR IntKind.i64 (x.2-(1:Int))∧cA (Bo n) [.box 0 [AV.bv x_3.cv (cur x_3.b y_1.2.1 y_1.2.2),.str x_3.t],.int .i64 (x.2-(1:Int))] fun x_4 y_2=>(↑(List.length (y.1++ #[(32:UInt8),(60:UInt8),(32:UInt8)].toList++y_1.1++ #[(32:UInt8),(63:UInt8),(32:UInt8)].toList)+List.length y_2.1):Int)≤IntKind.max IntKind.i64∧(↑(List.length (y.1++ #[(32:UInt8),(60:UInt8),(32:UInt8)].toList++y_1.1++ #[(32:UInt8),(63:UInt8),(32:UInt8)].toList++y_2.1)+(3:Nat)):Int)≤IntKind.max IntKind.i64∧inR IntKind.i64 (x.2-(1:Int))∧cA (Bo n) [.box 0 [AV.bv x_4.1.cv (cur x_4.1.b y_2.2.1 y_2.2.2),.str x_4.1.t],.int .i64 (x.2-(1:Int))] fun x_5 y_3=>(↑(List.length (y.1++ #[(32:UInt8),(60:UInt8),(32:UInt8)].toList++y_1.1++ #[(32:UInt8),(63:UInt8),(32:UInt8)].toList++y_2.1++ #[(32:UInt8),(58:UInt8),(32:UInt8)].toList)+List.length y_3.1):Int)≤IntKind.max IntKind.i64∧rA (Cl n) x [.str (y.1++ #[(32:UInt8),(60:UInt8),(32:UInt8)].toList++y_1.1++ #[(32:UInt8),(63:UInt8),(32:UInt8)].toList++y_2.1++ #[(32:UInt8),(58:UInt8),(32:UInt8)].toList++y_3.1),.box 0 [AV.bv x_5.1.cv (cur x_5.1.b y_3.2.1 y_3.2.2),.str x_5.1.t],.top]) (Aa (y.1==(14:Int)) (∃(x_2:List UInt8),#[].toList=x_2∧∃(x_3:List UInt8),#[(97:UInt8)].toList=x_3∧∃(x_4:List UInt8),#[(97:UInt8),(44:UInt8),(32:UInt8),(98:UInt8)].toList=x_4∧∃(x_5:List UInt8×Int×Int×List (List UInt8)),(Af x_5.1 x_5.2.1∧x_5.2.2.2≠[]∧List.length x_5.2.2.2<(1073741824:Nat))∧x.1.cv=x.1.cv∧byL x_1.1=byL x_5.1∧y.2.1=x_5.2.1∧y.2.2=x_5.2.2.1∧AV.sl false 0 1 (List UInt8) (fun(x:List UInt8)=>fzL (Ai x)) [x_2,x_3,x_4]=AV.sl false 0 1 (List UInt8) Ai x_5.2.2.2∧∀(y:List UInt8×Int×Int),y.1∈x_5.2.2.2∧Af x_5.1 y.2.1→x.1.cv=x.1.cv∧(↑((1:Nat)+List.length y.1):Int)≤IntKind.max IntKind.i64∧(↑(List.length (#[(40:UInt8)].toList++y.1)+(5:Nat)):Int)≤IntKind.max IntKind.i64∧inR IntKind.i64 (x.2-(1:Int))∧cA (Bo n) [.box 0 [AV.bv x.1.cv (cur x_5.1 y.2.1 y.2.2),.str x.1.t],.int .i64 (x.2-(1:Int))] fun x_6 y_1=>(↑(List.length (#[(40:UInt8)].toList++y.1++ #[(41:UInt8),(32:UInt8),(61:UInt8),(62:UInt8),(32:UInt8)].toList)+List.length y_1.1):Int)≤IntKind.max IntKind.i64∧rA (Cl n) x [.str (#[(40:UInt8)].toList++y.1++ #[(41:UInt8),(32:UInt8),(61:UInt8),(62:UInt8),(32:UInt8)].toList++y_1.1),.box 0 [AV.bv x_6.1.cv (cur x_6.1.b y_1.2.1 y_1.2.2),.str x_6.1.t],.top]) (cA Bd [.box 0 [AV.bv x.1.cv (cur x_1.1 y.2.1 y.2.2),.str x.1.t]] fun x_2 y=>(↑(List.length y.1+(6:Nat)):Int)≤IntKind.max IntKind.i64∧cA (Ec n) [.box 0 [AV.bv x_2.cv (cur x_2.b y.2.1 y.2.2),.str x_2.t],.int .i64 x.2] fun x_3 y_1=>(↑(List.length (y.1++ #[(46:UInt8),(46:UInt8),(97:UInt8),(100:UInt8),(100:UInt8),(40:UInt8)].toList)+List.length y_1.1):Int)≤IntKind.max IntKind.i64∧(↑(List.length (y.1++ #[(46:UInt8),(46:UInt8),(97:UInt8),(100:UInt8),(100:UInt8),(40:UInt8)].toList++y_1.1)+(10:Nat)):Int)≤IntKind.max IntKind.i64∧rA (Cl n) x [.str (y.1++ #[(46:UInt8),(46:UInt8),(97:UInt8),(100:UInt8),(100:UInt8),(40:UInt8)].toList++y_1.1++ #[(41:UInt8),(46:UInt8),(46:UInt8),(99:UInt8),(108:UInt8),(111:UInt8),(115:UInt8),(101:UInt8),(40:UInt8),(41:UInt8)].toList),.box 0 [AV.bv x_3.1.cv (cur x_3.1.b y_1.2.1 y_1.2.2),.str x_3.1.t],.top]))))))))))))))))) (fun x=>by kernel_rfl) fun(x:Md×Int) (hx:(mdP x.1∧n+1≤3)∧x.2≤(n+1:Nat)∧ -5≤x.2)=>(by
 dsimp only[Eb,byL,cA,cur,mad,DF,rA,Ec,Bd,Bo,Cl,Av,AA,mvL,lnL,mvE,lnE]
 obtain⟨⟨cv,b,i,h,t⟩,d⟩:=x;dsimp only at hx ⊢
 obtain⟨⟨hx,hn⟩,hd,hd2⟩:=hx
 have hx:Af b i:=hx
 have hv:=Ux n (by omega);have hv2:=b0m n
 (repeat' first|(apply Ms<;>try dsimp only)|(apply Mr<;>try dsimp only)|(with_reducible first|rfl|exact True.intro|apply AL|apply And.intro|((first|apply AB|apply AJ|apply AC|apply AK)<;>intro _))|(apply Az<;>intro _)|apply AI|refine Ag () ?_ ?_|((first|apply AP|apply AO|apply AN|apply AM|apply AH|apply AG|apply AF|apply AE|apply AD)<;>try dsimp only)|apply Ag|(refine Prod.forall.2 ?_;intro _;try dsimp only)|(intro _;try dsimp only))
 all_goals(try(have hk:=a0z (And.left (show(((0:Int)<16→_)∧(_→_))∧Af _ _ by assumption));have hk5:=tm5 hk.1))
 all_goals(repeat(rename _∈_∧Af _ _=>hq;obtain⟨hq1,_⟩:=hq;have hq2:=Mt (n:=20) hq1 (by decide);clear hq1))
 all_goals(repeat(rename _∧Af _ _=>hq;obtain⟨_,_⟩:=hq))
 all_goals first
  |rfl
  |(with_reducible assumption)
  |exact hx
  |(show Af _ _;with_reducible assumption)
  |(rename _=[]=>hq;cases hq;done)
  |omega
  |(simp only[AR,List.length_append,List.length_cons,List.length_nil];omega)
  |skip)
def GP:Sig:= {X:=Md×Int,args:=fun x=>[mad x.1,.int .i64 x.2],pre:=fun x=>(mdP x.1∧0≤3)∧x.2≤(0:Nat)∧ -5≤x.2,Y:=List UInt8×Int×Int,post:=fun x y=>y.1.length≤vB 0∧Af x.1.b y.2.1,res:=fun x y=> .str y.1,outs:=fun x y=>[DF x.1 y.2.1 y.2.2 x.1.t,.top],keep:=true}
set_option maxHeartbeats 8000000 in
theorem b0v:Al G Tryz.prog 181 GP:=
 vcFun_okP [(51,0,De),(157,0,Bd),(123,0,IE)] [(38,⟨List UInt8,Ai⟩)] false (fun x=>[]) Tryz.func181 rfl (by decide) ⟨Hv,OA,Mq,trivial⟩ (fun(x:Md×Int)=>True∧∃(x_1:List UInt8×Int×Int×Int),Af x_1.1 x_1.2.1∧x.1.cv=x.1.cv∧byL x.1.b=byL x_1.1∧x.1.i=x_1.2.1∧x.1.h=x_1.2.2.1∧(16:Int)=x_1.2.2.2∧∀(y:Int×Int×Int),(((0:Int)<x_1.2.2.2→(0:Int)≤y.1∧y.1<x_1.2.2.2)∧(x_1.2.2.2≤(0:Int)→y.1=(0:Int)))∧Af x_1.1 y.2.1→x.1.cv=x.1.cv∧Aa (decide (x.2≤(0:Int))) ((5:Int)≠(0:Int)∧Aa (Int.tmod y.1 (5:Int)==(0:Int)) (cA Bd [.box 0 [AV.bv x.1.cv (cur x_1.1 y.2.1 y.2.2),.str x.1.t]] fun x_2 y=>rA GP x [.str y.1,.box 0 [AV.bv x_2.cv (cur x_2.b y.2.1 y.2.2),.str x_2.t],.top]) (Aa (Int.tmod y.1 (5:Int)==(1:Int)) (cA Bd [.box 0 [AV.bv x.1.cv (cur x_1.1 y.2.1 y.2.2),.str x.1.t]] fun x_2 y=>rA GP x [.str y.1,.box 0 [AV.bv x_2.cv (cur x_2.b y.2.1 y.2.2),.str x_2.t],.top]) (Aa (Int.tmod y.1 (5:Int)==(2:Int)) (cA Bd [.box 0 [AV.bv x.1.cv (cur x_1.1 y.2.1 y.2.2),.str x.1.t]] fun x_2 y=>rA GP x [.str y.1,.box 0 [AV.bv x_2.cv (cur x_2.b y.2.1 y.2.2),.str x_2.t],.top]) (Aa (Int.tmod y.1 (5:Int)==(3:Int)) (∃(x_2:List UInt8),#[(48:UInt8)].toList=x_2∧∃(x_3:List UInt8),#[(49:UInt8),(50:UInt8)].toList=x_3∧∃(x_4:List UInt8),#[(49:UInt8),(50:UInt8),(51:UInt8),(52:UInt8),(53:UInt8),(54:UInt8),(55:UInt8)].toList=x_4∧∃(x_5:List UInt8×Int×Int×List (List UInt8)),(Af x_5.1 x_5.2.1∧x_5.2.2.2≠[]∧List.length x_5.2.2.2<(1073741824:Nat))∧x.1.cv=x.1.cv∧byL x_1.1=byL x_5.1∧y.2.1=x_5.2.1∧y.2.2=x_5.2.2.1∧AV.sl false 0 1 (List UInt8) (fun(x:List UInt8)=>fzL (Ai x)) [x_2,x_3,x_4]=AV.sl false 0 1 (List UInt8) Ai x_5.2.2.2∧∀(y:List UInt8×Int×Int),y.1∈x_5.2.2.2∧Af x_5.1 y.2.1→x.1.cv=x.1.cv∧rA GP x [.str y.1,.box 0 [AV.bv x.1.cv (cur x_5.1 y.2.1 y.2.2),.str x.1.t],.top]) (Aa (Int.tmod y.1 (5:Int)==(4:Int)) (∃(x_2:List UInt8),#[(39:UInt8),(115:UInt8),(97:UInt8),(105:UInt8),(100:UInt8),(39:UInt8)].toList=x_2∧∃(x_3:List UInt8),#[(39:UInt8),(39:UInt8)].toList=x_3∧∃(x_4:List UInt8),#[(39:UInt8),(97:UInt8),(32:UInt8),(108:UInt8),(111:UInt8),(110:UInt8),(103:UInt8),(101:UInt8),(114:UInt8),(32:UInt8),(116:UInt8),(101:UInt8),(120:UInt8),(116:UInt8),(32:UInt8),(104:UInt8),(101:UInt8),(114:UInt8),(101:UInt8),(39:UInt8)].toList=x_4∧∃(x_5:List UInt8×Int×Int×List (List UInt8)),(Af x_5.1 x_5.2.1∧x_5.2.2.2≠[]∧List.length x_5.2.2.2<(1073741824:Nat))∧x.1.cv=x.1.cv∧byL x_1.1=byL x_5.1∧y.2.1=x_5.2.1∧y.2.2=x_5.2.2.1∧AV.sl false 0 1 (List UInt8) (fun(x:List UInt8)=>fzL (Ai x)) [x_2,x_3,x_4]=AV.sl false 0 1 (List UInt8) Ai x_5.2.2.2∧∀(y:List UInt8×Int×Int),y.1∈x_5.2.2.2∧Af x_5.1 y.2.1→x.1.cv=x.1.cv∧rA GP x [.str y.1,.box 0 [AV.bv x.1.cv (cur x_5.1 y.2.1 y.2.2),.str x.1.t],.top]) (Aa (Int.tmod y.1 (5:Int)==(5:Int)) (cA Bd [.box 0 [AV.bv x.1.cv (cur x_1.1 y.2.1 y.2.2),.str x.1.t]] fun x y=>(↑(List.length y.1+(1:Nat)):Int)≤IntKind.max IntKind.i64∧False) (Aa (Int.tmod y.1 (5:Int)==(6:Int)) (cA Bd [.box 0 [AV.bv x.1.cv (cur x_1.1 y.2.1 y.2.2),.str x.1.t]] fun x y=>(↑(List.length y.1+(1:Nat)):Int)≤IntKind.max IntKind.i64∧False) (Aa (Int.tmod y.1 (5:Int)==(7:Int)) (cA Bd [.box 0 [AV.bv x.1.cv (cur x_1.1 y.2.1 y.2.2),.str x.1.t]] fun x y=>(↑(List.length y.1+(1:Nat)):Int)≤IntKind.max IntKind.i64∧False) (Aa (Int.tmod y.1 (5:Int)==(8:Int)) False (Aa (Int.tmod y.1 (5:Int)==(9:Int)) (cA Bd [.box 0 [AV.bv x.1.cv (cur x_1.1 y.2.1 y.2.2),.str x.1.t]] fun x y=>(↑(List.length y.1+(1:Nat)):Int)≤IntKind.max IntKind.i64∧cA Bd [.box 0 [AV.bv x.cv (cur x.b y.2.1 y.2.2),.str x.t]] fun x y_1=>(↑(List.length (y.1++ #[(46:UInt8)].toList)+List.length y_1.1):Int)≤IntKind.max IntKind.i64∧(↑(List.length (y.1++ #[(46:UInt8)].toList++y_1.1)+(1:Nat)):Int)≤IntKind.max IntKind.i64∧False) (Aa (Int.tmod y.1 (5:Int)==(10:Int)) (∃(x_2:List UInt8),#[(43:UInt8)].toList=x_2∧∃(x_3:List UInt8),#[(45:UInt8)].toList=x_3∧∃(x_4:List UInt8),#[(42:UInt8)].toList=x_4∧∃(x_5:List UInt8),#[(38:UInt8),(38:UInt8)].toList=x_5∧∃(x_6:List UInt8),#[(124:UInt8),(124:UInt8)].toList=x_6∧∃(x_7:List UInt8),#[(61:UInt8),(61:UInt8)].toList=x_7∧∃(x_8:List UInt8),#[(60:UInt8)].toList=x_8∧∃(x_9:List UInt8×Int×Int×List (List UInt8)),(Af x_9.1 x_9.2.1∧x_9.2.2.2≠[]∧List.length x_9.2.2.2<(1073741824:Nat))∧x.1.cv=x.1.cv∧byL x_1.1=byL x_9.1∧y.2.1=x_9.2.1∧y.2.2=x_9.2.2.1∧AV.sl false 0 1 (List UInt8) (fun(x:List UInt8)=>fzL (Ai x)) [x_2,x_3,x_4,x_5,x_6,x_7,x_8]=AV.sl false 0 1 (List UInt8) Ai x_9.2.2.2∧∀(y:List UInt8×Int×Int),y.1∈x_9.2.2.2∧Af x_9.1 y.2.1→x.1.cv=x.1.cv∧inR IntKind.i64 (x.2-(1:Int))∧False) (Aa (Int.tmod y.1 (5:Int)==(11:Int)) (∃(x_2:List UInt8),#[(43:UInt8)].toList=x_2∧∃(x_3:List UInt8),#[(45:UInt8)].toList=x_3∧∃(x_4:List UInt8),#[(42:UInt8)].toList=x_4∧∃(x_5:List UInt8),#[(38:UInt8),(38:UInt8)].toList=x_5∧∃(x_6:List UInt8),#[(124:UInt8),(124:UInt8)].toList=x_6∧∃(x_7:List UInt8),#[(61:UInt8),(61:UInt8)].toList=x_7∧∃(x_8:List UInt8),#[(60:UInt8)].toList=x_8∧∃(x_9:List UInt8×Int×Int×List (List UInt8)),(Af x_9.1 x_9.2.1∧x_9.2.2.2≠[]∧List.length x_9.2.2.2<(1073741824:Nat))∧x.1.cv=x.1.cv∧byL x_1.1=byL x_9.1∧y.2.1=x_9.2.1∧y.2.2=x_9.2.2.1∧AV.sl false 0 1 (List UInt8) (fun(x:List UInt8)=>fzL (Ai x)) [x_2,x_3,x_4,x_5,x_6,x_7,x_8]=AV.sl false 0 1 (List UInt8) Ai x_9.2.2.2∧∀(y:List UInt8×Int×Int),y.1∈x_9.2.2.2∧Af x_9.1 y.2.1→x.1.cv=x.1.cv∧inR IntKind.i64 (x.2-(1:Int))∧False) (Aa (Int.tmod y.1 (5:Int)==(12:Int)) (inR IntKind.i64 (x.2-(1:Int))∧False) (Aa (Int.tmod y.1 (5:Int)==(13:Int)) (cA Bd [.box 0 [AV.bv x.1.cv (cur x_1.1 y.2.1 y.2.2),.str x.1.t]] fun x_2 y=>(↑(List.length y.1+(3:Nat)):Int)≤IntKind.max IntKind.i64∧cA Bd [.box 0 [AV.bv x_2.cv (cur x_2.b y.2.1 y.2.2),.str x_2.t]] fun x_3 y_1=>(↑(List.length (y.1++ #[(32:UInt8),(60:UInt8),(32:UInt8)].toList)+List.length y_1.1):Int)≤IntKind.max IntKind.i64∧(↑(List.length (y.1++ #[(32:UInt8),(60:UInt8),(32:UInt8)].toList++y_1.1)+(3:Nat)):Int)≤IntKind.max IntKind.i64∧inR IntKind.i64 (x.2-(1:Int))∧False) (Aa (Int.tmod y.1 (5:Int)==(14:Int)) (∃(x_2:List UInt8),#[].toList=x_2∧∃(x_3:List UInt8),#[(97:UInt8)].toList=x_3∧∃(x_4:List UInt8),#[(97:UInt8),(44:UInt8),(32:UInt8),(98:UInt8)].toList=x_4∧∃(x_5:List UInt8×Int×Int×List (List UInt8)),(Af x_5.1 x_5.2.1∧x_5.2.2.2≠[]∧List.length x_5.2.2.2<(1073741824:Nat))∧x.1.cv=x.1.cv∧byL x_1.1=byL x_5.1∧y.2.1=x_5.2.1∧y.2.2=x_5.2.2.1∧AV.sl false 0 1 (List UInt8) (fun(x:List UInt8)=>fzL (Ai x)) [x_2,x_3,x_4]=AV.sl false 0 1 (List UInt8) Ai x_5.2.2.2∧∀(y:List UInt8×Int×Int),y.1∈x_5.2.2.2∧Af x_5.1 y.2.1→x.1.cv=x.1.cv∧(↑((1:Nat)+List.length y.1):Int)≤IntKind.max IntKind.i64∧(↑(List.length (#[(40:UInt8)].toList++y.1)+(5:Nat)):Int)≤IntKind.max IntKind.i64∧inR IntKind.i64 (x.2-(1:Int))∧False) (cA Bd [.box 0 [AV.bv x.1.cv (cur x_1.1 y.2.1 y.2.2),.str x.1.t]] fun x y=>(↑(List.length y.1+(6:Nat)):Int)≤IntKind.max IntKind.i64∧False)))))))))))))))) (Aa (y.1==(0:Int)) (cA Bd [.box 0 [AV.bv x.1.cv (cur x_1.1 y.2.1 y.2.2),.str x.1.t]] fun x_2 y=>rA GP x [.str y.1,.box 0 [AV.bv x_2.cv (cur x_2.b y.2.1 y.2.2),.str x_2.t],.top]) (Aa (y.1==(1:Int)) (cA Bd [.box 0 [AV.bv x.1.cv (cur x_1.1 y.2.1 y.2.2),.str x.1.t]] fun x_2 y=>rA GP x [.str y.1,.box 0 [AV.bv x_2.cv (cur x_2.b y.2.1 y.2.2),.str x_2.t],.top]) (Aa (y.1==(2:Int)) (cA Bd [.box 0 [AV.bv x.1.cv (cur x_1.1 y.2.1 y.2.2),.str x.1.t]] fun x_2 y=>rA GP x [.str y.1,.box 0 [AV.bv x_2.cv (cur x_2.b y.2.1 y.2.2),.str x_2.t],.top]) (Aa (y.1==(3:Int)) (∃(x_2:List UInt8),#[(48:UInt8)].toList=x_2∧∃(x_3:List UInt8),#[(49:UInt8),(50:UInt8)].toList=x_3∧∃(x_4:List UInt8),#[(49:UInt8),(50:UInt8),(51:UInt8),(52:UInt8),(53:UInt8),(54:UInt8),(55:UInt8)].toList=x_4∧∃(x_5:List UInt8×Int×Int×List (List UInt8)),(Af x_5.1 x_5.2.1∧x_5.2.2.2≠[]∧List.length x_5.2.2.2<(1073741824:Nat))∧x.1.cv=x.1.cv∧byL x_1.1=byL x_5.1∧y.2.1=x_5.2.1∧y.2.2=x_5.2.2.1∧AV.sl false 0 1 (List UInt8) (fun(x:List UInt8)=>fzL (Ai x)) [x_2,x_3,x_4]=AV.sl false 0 1 (List UInt8) Ai x_5.2.2.2∧∀(y:List UInt8×Int×Int),y.1∈x_5.2.2.2∧Af x_5.1 y.2.1→x.1.cv=x.1.cv∧rA GP x [.str y.1,.box 0 [AV.bv x.1.cv (cur x_5.1 y.2.1 y.2.2),.str x.1.t],.top]) (Aa (y.1==(4:Int)) (∃(x_2:List UInt8),#[(39:UInt8),(115:UInt8),(97:UInt8),(105:UInt8),(100:UInt8),(39:UInt8)].toList=x_2∧∃(x_3:List UInt8),#[(39:UInt8),(39:UInt8)].toList=x_3∧∃(x_4:List UInt8),#[(39:UInt8),(97:UInt8),(32:UInt8),(108:UInt8),(111:UInt8),(110:UInt8),(103:UInt8),(101:UInt8),(114:UInt8),(32:UInt8),(116:UInt8),(101:UInt8),(120:UInt8),(116:UInt8),(32:UInt8),(104:UInt8),(101:UInt8),(114:UInt8),(101:UInt8),(39:UInt8)].toList=x_4∧∃(x_5:List UInt8×Int×Int×List (List UInt8)),(Af x_5.1 x_5.2.1∧x_5.2.2.2≠[]∧List.length x_5.2.2.2<(1073741824:Nat))∧x.1.cv=x.1.cv∧byL x_1.1=byL x_5.1∧y.2.1=x_5.2.1∧y.2.2=x_5.2.2.1∧AV.sl false 0 1 (List UInt8) (fun(x:List UInt8)=>fzL (Ai x)) [x_2,x_3,x_4]=AV.sl false 0 1 (List UInt8) Ai x_5.2.2.2∧∀(y:List UInt8×Int×Int),y.1∈x_5.2.2.2∧Af x_5.1 y.2.1→x.1.cv=x.1.cv∧rA GP x [.str y.1,.box 0 [AV.bv x.1.cv (cur x_5.1 y.2.1 y.2.2),.str x.1.t],.top]) (Aa (y.1==(5:Int)) (cA Bd [.box 0 [AV.bv x.1.cv (cur x_1.1 y.2.1 y.2.2),.str x.1.t]] fun x y=>(↑(List.length y.1+(1:Nat)):Int)≤IntKind.max IntKind.i64∧False) (Aa (y.1==(6:Int)) (cA Bd [.box 0 [AV.bv x.1.cv (cur x_1.1 y.2.1 y.2.2),.str x.1.t]] fun x y=>(↑(List.length y.1+(1:Nat)):Int)≤IntKind.max IntKind.i64∧False) (Aa (y.1==(7:Int)) (cA Bd [.box 0 [AV.bv x.1.cv (cur x_1.1 y.2.1 y.2.2),.str x.1.t]] fun x y=>(↑(List.length y.1+(1:Nat)):Int)≤IntKind.max IntKind.i64∧False) (Aa (y.1==(8:Int)) False (Aa (y.1==(9:Int)) (cA Bd [.box 0 [AV.bv x.1.cv (cur x_1.1 y.2.1 y.2.2),.str x.1.t]] fun x y=>(↑(List.length y.1+(1:Nat)):Int)≤IntKind.max IntKind.i64∧cA Bd [.box 0 [AV.bv x.cv (cur x.b y.2.1 y.2.2),.str x.t]] fun x y_1=>(↑(List.length (y.1++ #[(46:UInt8)].toList)+List.length y_1.1):Int)≤IntKind.max IntKind.i64∧(↑(List.length (y.1++ #[(46:UInt8)].toList++y_1.1)+(1:Nat)):Int)≤IntKind.max IntKind.i64∧False) (Aa (y.1==(10:Int)) (∃(x_2:List UInt8),#[(43:UInt8)].toList=x_2∧∃(x_3:List UInt8),#[(45:UInt8)].toList=x_3∧∃(x_4:List UInt8),#[(42:UInt8)].toList=x_4∧∃(x_5:List UInt8),#[(38:UInt8),(38:UInt8)].toList=x_5∧∃(x_6:List UInt8),#[(124:UInt8),(124:UInt8)].toList=x_6∧∃(x_7:List UInt8),#[(61:UInt8),(61:UInt8)].toList=x_7∧∃(x_8:List UInt8),#[(60:UInt8)].toList=x_8∧∃(x_9:List UInt8×Int×Int×List (List UInt8)),(Af x_9.1 x_9.2.1∧x_9.2.2.2≠[]∧List.length x_9.2.2.2<(1073741824:Nat))∧x.1.cv=x.1.cv∧byL x_1.1=byL x_9.1∧y.2.1=x_9.2.1∧y.2.2=x_9.2.2.1∧AV.sl false 0 1 (List UInt8) (fun(x:List UInt8)=>fzL (Ai x)) [x_2,x_3,x_4,x_5,x_6,x_7,x_8]=AV.sl false 0 1 (List UInt8) Ai x_9.2.2.2∧∀(y:List UInt8×Int×Int),y.1∈x_9.2.2.2∧Af x_9.1 y.2.1→x.1.cv=x.1.cv∧inR IntKind.i64 (x.2-(1:Int))∧False) (Aa (y.1==(11:Int)) (∃(x_2:List UInt8),#[(43:UInt8)].toList=x_2∧∃(x_3:List UInt8),#[(45:UInt8)].toList=x_3∧∃(x_4:List UInt8),#[(42:UInt8)].toList=x_4∧∃(x_5:List UInt8),#[(38:UInt8),(38:UInt8)].toList=x_5∧∃(x_6:List UInt8),#[(124:UInt8),(124:UInt8)].toList=x_6∧∃(x_7:List UInt8),#[(61:UInt8),(61:UInt8)].toList=x_7∧∃(x_8:List UInt8),#[(60:UInt8)].toList=x_8∧∃(x_9:List UInt8×Int×Int×List (List UInt8)),(Af x_9.1 x_9.2.1∧x_9.2.2.2≠[]∧List.length x_9.2.2.2<(1073741824:Nat))∧x.1.cv=x.1.cv∧byL x_1.1=byL x_9.1∧y.2.1=x_9.2.1∧y.2.2=x_9.2.2.1∧AV.sl false 0 1 (List UInt8) (fun(x:List UInt8)=>fzL (Ai x)) [x_2,x_3,x_4,x_5,x_6,x_7,x_8]=AV.sl false 0 1 (List UInt8) Ai x_9.2.2.2∧∀(y:List UInt8×Int×Int),y.1∈x_9.2.2.2∧Af x_9.1 y.2.1→x.1.cv=x.1.cv∧inR IntKind.i64 (x.2-(1:Int))∧False) (Aa (y.1==(12:Int)) (inR IntKind.i64 (x.2-(1:Int))∧False) (Aa (y.1==(13:Int)) (cA Bd [.box 0 [AV.bv x.1.cv (cur x_1.1 y.2.1 y.2.2),.str x.1.t]] fun x_2 y=>(↑(List.length y.1+(3:Nat)):Int)≤IntKind.max IntKind.i64∧cA Bd [.box 0 [AV.bv x_2.cv (cur x_2.b y.2.1 y.2.2),.str x_2.t]] fun x_3 y_1=>(↑(List.length (y.1++ #[(32:UInt8),(60:UInt8),(32:UInt8)].toList)+List.length y_1.1):Int)≤IntKind.max IntKind.i64∧(↑(List.length (y.1++ #[(32:UInt8),(60:UInt8),(32:UInt8)].toList++y_1.1)+(3:Nat)):Int)≤IntKind.max IntKind.i64∧inR IntKind.i64 (x.2-(1:Int))∧False) (Aa (y.1==(14:Int)) (∃(x_2:List UInt8),#[].toList=x_2∧∃(x_3:List UInt8),#[(97:UInt8)].toList=x_3∧∃(x_4:List UInt8),#[(97:UInt8),(44:UInt8),(32:UInt8),(98:UInt8)].toList=x_4∧∃(x_5:List UInt8×Int×Int×List (List UInt8)),(Af x_5.1 x_5.2.1∧x_5.2.2.2≠[]∧List.length x_5.2.2.2<(1073741824:Nat))∧x.1.cv=x.1.cv∧byL x_1.1=byL x_5.1∧y.2.1=x_5.2.1∧y.2.2=x_5.2.2.1∧AV.sl false 0 1 (List UInt8) (fun(x:List UInt8)=>fzL (Ai x)) [x_2,x_3,x_4]=AV.sl false 0 1 (List UInt8) Ai x_5.2.2.2∧∀(y:List UInt8×Int×Int),y.1∈x_5.2.2.2∧Af x_5.1 y.2.1→x.1.cv=x.1.cv∧(↑((1:Nat)+List.length y.1):Int)≤IntKind.max IntKind.i64∧(↑(List.length (#[(40:UInt8)].toList++y.1)+(5:Nat)):Int)≤IntKind.max IntKind.i64∧inR IntKind.i64 (x.2-(1:Int))∧False) (cA Bd [.box 0 [AV.bv x.1.cv (cur x_1.1 y.2.1 y.2.2),.str x.1.t]] fun x y=>(↑(List.length y.1+(6:Nat)):Int)≤IntKind.max IntKind.i64∧False))))))))))))))))) (fun x=>by kernel_rfl) fun(x:Md×Int) (hx:(mdP x.1∧0≤3)∧x.2≤(0:Nat)∧ -5≤x.2)=>(by
 dsimp only[Eb,byL,cA,cur,mad,DF,rA,Bd,GP,Av,AA,mvL,lnL,mvE,lnE]
 obtain⟨⟨cv,b,i,h,t⟩,d⟩:=x;dsimp only at hx ⊢
 obtain⟨⟨hx,hn⟩,hd,hd2⟩:=hx
 have hx:Af b i:=hx
 have hv:=Ux 0 (by omega)
 (repeat' first|(apply Ms<;>try dsimp only)|(apply Mr<;>try dsimp only)|(with_reducible first|rfl|exact True.intro|apply AL|apply And.intro|((first|apply AB|apply AJ|apply AC|apply AK)<;>intro _))|(apply Az<;>intro _)|apply AI|refine Ag () ?_ ?_|((first|apply AP|apply AO|apply AN|apply AM|apply AH|apply AG|apply AF|apply AE|apply AD)<;>try dsimp only)|apply Ag|(refine Prod.forall.2 ?_;intro _;try dsimp only)|(intro _;try dsimp only))
 all_goals(try(have hk:=a0z (And.left (show(((0:Int)<16→_)∧(_→_))∧Af _ _ by assumption));have hk5:=tm5 hk.1))
 all_goals(repeat(rename _∈_∧Af _ _=>hq;obtain⟨hq1,_⟩:=hq;have hq2:=Mt (n:=20) hq1 (by decide);clear hq1))
 all_goals(repeat(rename _∧Af _ _=>hq;obtain⟨_,_⟩:=hq))
 all_goals first
  |rfl
  |(with_reducible assumption)
  |exact hx
  |(show Af _ _;with_reducible assumption)
  |(rename _=[]=>hq;cases hq;done)
  |omega
  |(simp only[AR,List.length_append,List.length_cons,List.length_nil];omega)
  |skip)
theorem Uy:∀n,Al G Go.Proofs.Tryz.prog 181 (Bo n)
 |0=>b0v
 |n+1=>b0u n (Uy n)
end Go.My
end
section
set_option linter.unusedVariables false
set_option linter.unusedSimpArgs false
namespace Go.My
open Go.Eng
structure Sg where
 kind:Int
 text:List UInt8
 pos:Int
 blank:Bool
def sgA:Sg→List AV:=fun s=>[.int .i64 s.kind,.str s.text,.int .i64 s.pos,.bool s.blank]
theorem CG(s:Sg):sgA s=[.int .i64 s.kind,.str s.text,.int .i64 s.pos,.bool s.blank]:=rfl
def sgs(l:List Sg):AV:= .sl false 0 4 Sg sgA l
def GQ(l:List Sg):AV:= .sl true 0 4 Sg sgA l
end Go.My
end
section
set_option linter.unusedVariables false
set_option linter.unusedSimpArgs false
namespace Go.My
open Go.Eng
def ET(t:List UInt8):Nat→Int→Int→Option (List Sg)
 |0,_,_=>none
 |n+1,at_,br=>match t[at_.toNat]? with
  |none=>some []
  |some c=>if c.toNat=32 then ET t n (at_+1) br
   else if c.toNat=10 then ET t n (at_+1) (br+1)
   else if(Be (t.drop at_.toNat)).ok then(ET t n (at_+(Be (t.drop at_.toNat)).size) 0).map (⟨(Be (t.drop at_.toNat)).kind,(Be (t.drop at_.toNat)).text,at_,decide (br>1)⟩:: ·)
   else none
def Cw(t:List UInt8):Option (List Sg):=if 3000<t.length then none else ET t (t.length+1) 0 0
structure Ps where
 pos:Int
 deep:Int
 nodes:List Nd
abbrev PR:=Option (Int×Ps)
abbrev PL:=Option (List Int×Ps)
def Ep:Sg:=⟨0,[],0,false⟩
def sgO(sg:List Sg)(i:Int):Sg:=sg.getD i.toNat Ep
def isT(sg:List Sg)(s:Ps)(k:Int)(t:List UInt8):Bool:=decide ((sgO sg s.pos).kind=k)&&((sgO sg s.pos).text==t)
def isM(sg:List Sg)(s:Ps)(t:List UInt8):Bool:=isT sg s 4 t
def isW(sg:List Sg)(s:Ps)(t:List UInt8):Bool:=isT sg s 1 t
def Df(sg:List Sg)(i:Int):Bool:=decide ((sgO sg i).kind=1)&& !kw (sgO sg i).text
def adv(s:Ps):Ps:=⟨s.pos+1,s.deep,s.nodes⟩
def dp(s:Ps)(d:Int):Ps:=⟨s.pos,s.deep+d,s.nodes⟩
def Bz(sg:List Sg)(t:List UInt8)(s:Ps):Option Ps:=if isM sg s t then some (adv s) else none
def Ba(x:Nd)(s:Ps):PR:=if 300≤s.nodes.length then none else some (s.nodes.length,⟨s.pos,s.deep,s.nodes++[x]⟩)
def FE(r:PR):PR:=r.map fun p=>(p.1,adv p.2)
def Fi(sg:List Sg)(k:Int)(b:Bool)(s:Ps):PR:=FE (Ba ⟨k,(sgO sg s.pos).text,[],b⟩ s)
def BP(sg:List Sg)(s:Ps):PR:=if Df sg s.pos then Fi sg 1 false s else none
def Ge(sg:List Sg)(s:Ps):Option (List UInt8×Ps):=if Df sg s.pos then some ((sgO sg s.pos).text,adv s) else none
def Br(sg:List Sg)(m:List UInt8)(x:Nd)(s:Ps):PR:=if isM sg s m then FE (Ba x s) else none
def Bu(sg:List Sg)(one:Ps→PR)(m:List UInt8):Nat→List Int→Ps→PL
 |0,_,_=>none
 |n+1,ks,s=>if isM sg s m then some (ks,s) else(one s).bind fun p=>if isM sg p.2 [44] then Bu sg one m n (ks++[p.1]) (adv p.2) else some (ks++[p.1],p.2)
def DP(sg:List Sg):Nat→Int→Int
 |0,i=>i
 |n+1,i=>if Df sg i then(if(sgO sg (i+1)).text=[44] then DP sg n (i+2) else i+1) else i
def Jy(sg:List Sg)(s:Ps):Bool:=((sgO sg (DP sg (sg.length+1) (s.pos+1))).text==[41])&&((sgO sg (DP sg (sg.length+1) (s.pos+1)+1)).text==[61,62])
def BI(l:Nat):List (List UInt8):=match l with
 |0=>[[124,124]]
 |1=>[[38,38]]
 |2=>[[61,61]]
 |3=>[[60]]
 |4=>[[43],[45]]
 |_=>[[42]]
def IG(sg:List Sg)(l:Nat)(s:Ps):List UInt8:=((BI l).find? fun m=>isM sg s m).getD []
def Gf(sg:List Sg)(l:Nat)(one:Ps→PR):Nat→List UInt8→List Int→Ps→PR
 |0,_,_,_=>none
 |n+1,t,ks,s=>
  if t≠[]∧IG sg l s≠t then(Ba ⟨7,t,ks,false⟩ s).bind fun p=>Gf sg l one n [] [p.1] p.2
  else if IG sg l s=[] then some (ks.headD 0,s)
  else(one (adv s)).bind fun p=>Gf sg l one n (IG sg l s) (ks++[p.1]) p.2
def CJ(sg:List Sg)(val:Ps→PR)(k:Int)(s:Ps):PR:=(Bz sg [40] s).bind fun s=>(Bu sg val [41] (sg.length+1) [k] s).bind fun p=>Br sg [41] ⟨5,[],p.1,false⟩ p.2
def FF(sg:List Sg)(val:Ps→PR):Nat→Int→Ps→PR
 |0,_,_=>none
 |n+1,k,s=>
  if isM sg s [40] then(CJ sg val k s).bind fun p=>FF sg val n p.1 p.2
  else if isM sg s [46] then(if Df sg (s.pos+1) then(FE (Ba ⟨6,(sgO sg (s.pos+1)).text,[k],false⟩ (adv s))).bind fun p=>FF sg val n p.1 p.2 else none)
  else some (k,s)
def Fj(sg:List Sg)(val:Ps→PR):Nat→List Int→Ps→PL
 |0,_,_=>none
 |n+1,ks,s=>if isM sg s [46,46] then(BP sg (adv s)).bind fun p=>(CJ sg val p.1 p.2).bind fun q=>Fj sg val n (ks++[q.1]) q.2 else some (ks,s)
inductive NT where
 |value|pick|chain (l:Nat)|fin|base
def pE(sg:List Sg):Nat→NT→Ps→PR
 |0,_,_=>none
 |n+1,.value,s=>(pE sg n .pick s).bind fun p=>if isM sg p.2 [46,46] then(Fj sg (pE sg n .value) (sg.length+1) [p.1] p.2).bind fun q=>Ba ⟨10,[],q.1,false⟩ q.2 else some p
 |n+1,.pick,s=>if 20≤s.deep then none else(pE sg n (.chain 0) (dp s 1)).bind fun p=>
   if isM sg p.2 [63] then(pE sg n .pick (adv p.2)).bind fun a=>(Bz sg [58] a.2).bind fun s1=>(pE sg n .pick s1).bind fun b=>(Ba ⟨8,[],[p.1,a.1,b.1],false⟩ b.2).map fun q=>(q.1,dp q.2 (-1))
   else some (p.1,dp p.2 (-1))
 |n+1,.chain l,s=>if l=6 then pE sg n .fin s else(pE sg n (.chain (l+1)) s).bind fun p=>Gf sg l (pE sg n (.chain (l+1))) (2*sg.length+4) [] [p.1] p.2
 |n+1,.fin,s=>(pE sg n .base s).bind fun p=>FF sg (pE sg n .value) (sg.length+1) p.1 p.2
 |n+1,.base,s=>
  if(sgO sg s.pos).kind=1 then BP sg s
  else if(sgO sg s.pos).kind=2 then Fi sg 2 false s
  else if(sgO sg s.pos).kind=3 then Fi sg 3 false s
  else if isM sg s [91] then(Bu sg (pE sg n .value) [93] (sg.length+1) [] (adv s)).bind fun p=>Br sg [93] ⟨4,[],p.1,false⟩ p.2
  else if isM sg s [40]&&Jy sg s then(Bu sg (BP sg) [41] (sg.length+1) [] (adv s)).bind fun p=>(Bz sg [41] p.2).bind fun s1=>(Bz sg [61,62] s1).bind fun s2=>(pE sg n .pick s2).bind fun q=>Ba ⟨9,[],p.1++[q.1],false⟩ q.2
  else if isM sg s [40] then(pE sg n .value (adv s)).bind fun p=>Br sg [41] ⟨11,[],[p.1],false⟩ p.2
  else none
def peN:Nat:=40000
def Cd(sg:List Sg):Ps→PR:=pE sg peN .value
def Dg(sg:List Sg)(b:Bool)(s:Ps):PR:=(Ge sg s).bind fun p=>
 if isM sg p.2 [61] then(Cd sg (adv p.2)).bind fun q=>Br sg [59] ⟨12,p.1,[q.1],b⟩ q.2 else Br sg [59] ⟨12,p.1,[],b⟩ p.2
def Dl(sg:List Sg)(s:Ps):PR:=(Bz sg [40] s).bind fun s1=>(Cd sg s1).bind fun p=>(Bz sg [41] p.2).map fun s2=>(p.1,s2)
def Cy(sg:List Sg)(one:Bool→Ps→PR)(m:List UInt8):Nat→List Int→Ps→PL
 |0,_,_=>none
 |n+1,ks,s=>if isM sg s m then some (ks,s) else(one ((sgO sg s.pos).blank&&decide (0<ks.length)) s).bind fun p=>Cy sg one m n (ks++[p.1]) p.2
def BJ(sg:List Sg)(one:Bool→Ps→PR)(s:Ps):PR:=if 20≤s.deep then none else(Bz sg [123] (dp s 1)).bind fun s1=>(Cy sg one [125] (sg.length+1) [] s1).bind fun p=>(Br sg [125] ⟨18,[],p.1,false⟩ p.2).map fun q=>(q.1,dp q.2 (-1))
def stR(sg:List Sg):Nat→Bool→Ps→PR
 |0,_,_=>none
 |n+1,b,s=>
  if(sgO sg s.pos).kind=5 then Fi sg 19 b s
  else if isW sg s [118,97,114] then Dg sg b (adv s)
  else if isW sg s [114,101,116,117,114,110] then(if isM sg (adv s) [59] then Br sg [59] ⟨15,[],[],b⟩ (adv s) else(Cd sg (adv s)).bind fun p=>Br sg [59] ⟨15,[],[p.1],b⟩ p.2)
  else if isW sg s [105,102] then(Dl sg (adv s)).bind fun p=>(BJ sg (stR sg n) p.2).bind fun q=>
   if isW sg q.2 [101,108,115,101] then(BJ sg (stR sg n) (adv q.2)).bind fun r=>Ba ⟨16,[],[p.1,q.1,r.1],b⟩ r.2 else Ba ⟨16,[],[p.1,q.1],b⟩ q.2
  else if isW sg s [119,104,105,108,101] then(Dl sg (adv s)).bind fun p=>(BJ sg (stR sg n) p.2).bind fun q=>Ba ⟨17,[],[p.1,q.1],b⟩ q.2
  else if Df sg s.pos&&isM sg (adv s) [61] then(Cd sg (adv (adv s))).bind fun p=>Br sg [59] ⟨13,(sgO sg s.pos).text,[p.1],b⟩ p.2
  else(Cd sg s).bind fun p=>Br sg [59] ⟨14,[],[p.1],b⟩ p.2
def stN:Nat:=30
def EU(sg:List Sg):Ps→PR:=BJ sg (stR sg stN)
def Gg(sg:List Sg)(b:Bool)(s:Ps):PR:=(Ge sg s).bind fun p=>(Bz sg [40] p.2).bind fun s1=>(Bu sg (BP sg) [41] (sg.length+1) [] s1).bind fun q=>(Bz sg [41] q.2).bind fun s2=>(EU sg s2).bind fun r=>Ba ⟨20,p.1,q.1++[r.1],b⟩ r.2
def CV(sg:List Sg)(b:Bool)(s:Ps):PR:=
 if(sgO sg s.pos).kind=5 then Fi sg 19 b s else if isW sg s [118,97,114] then Dg sg b (adv s) else Gg sg b s
def GR(sg:List Sg)(b:Bool)(s:Ps):PR:=(Ge sg s).bind fun p=>(Bz sg [123] p.2).bind fun s1=>(Cy sg (CV sg) [125] (sg.length+1) [] s1).bind fun q=>Br sg [125] ⟨21,p.1,q.1,b⟩ q.2
def Dh(sg:List Sg)(b:Bool)(s:Ps):PR:=
 if(sgO sg s.pos).kind=5 then Fi sg 19 b s else if isW sg s [118,97,114] then Dg sg b (adv s) else if isW sg s [99,108,97,115,115] then GR sg b (adv s) else Gg sg b s
def KO(sg:List Sg):Nat→List Int→List (Int×Int)→Ps→Option ((List Int×List (Int×Int))×Ps)
 |0,_,_,_=>none
 |n+1,ks,ms,s=>if s.pos<sg.length then(Dh sg ((sgO sg s.pos).blank&&decide (0<ks.length)) s).bind fun p=>KO sg n (ks++[p.1]) (ms++[(s.pos,p.2.pos)]) p.2 else some ((ks,ms),s)
def ps0:Ps:=⟨0,0,[]⟩
def Jz(sg:List Sg):Option (List (Int×Int)×List Nd):=(KO sg (sg.length+1) [] [] ps0).bind fun p=>(Ba ⟨22,[],p.1.1,false⟩ p.2).bind fun q=>if treeOk q.2.nodes then some (p.1.2,q.2.nodes) else none
def CU(t:List UInt8):Option (List Nd):=(Cw t).bind fun sg=>(Jz sg).map (·.2)
end Go.My
end
section
set_option linter.unusedVariables false
set_option linter.unusedSimpArgs false
namespace Go.My
open Go.Eng
structure Gs where
 pos:Int
 deep:Int
 bad:Bool
 nodes:List Nd
def CK(x:Nd):Prop:=x.text.length≤3000∧x.kids.length≤4000
def sgB(sg:List Sg):Prop:=sg.length≤3000∧∀e∈sg,e.text.length≤3000
def gsOk(sg:List Sg)(g:Gs):Prop:=(0≤g.pos∧g.pos≤sg.length)∧(0≤g.deep∧g.deep≤21)∧g.nodes.length≤300∧∀x∈g.nodes,CK x
def pur(g:Gs):Option Ps:=if g.bad then none else some ⟨g.pos,g.deep,g.nodes⟩
theorem DG{g:Gs}(h:g.bad=true):pur g=none:=by simp [pur,h]
theorem CL{g:Gs}(h:g.bad=false):pur g=some ⟨g.pos,g.deep,g.nodes⟩:=by simp [pur,h]
theorem a0A{g:Gs}:pur g=none↔g.bad=true:=by
 cases h:g.bad<;>simp [pur,h]
theorem Er{g:Gs}{s:Ps}:pur g=some s↔g.bad=false∧s=⟨g.pos,g.deep,g.nodes⟩:=by
 cases h:g.bad<;>simp [pur,h,eq_comm]
def Uz(sg:List Sg)(x:Gs)(f:Ps→Option Ps)(y:Gs):Prop:=gsOk sg y∧y.deep=x.deep∧x.pos≤y.pos∧pur y=(pur x).bind f
def Bx{α:Type}(sg:List Sg)(x:Gs)(f:Ps→Option (α×Ps))(y:α×Gs):Prop:=
 gsOk sg y.2∧y.2.deep=x.deep∧x.pos≤y.2.pos∧pur y.2=((pur x).bind f).map (·.2)∧∀p,(pur x).bind f=some p→y.1=p.1
def Ah{α:Type}(sg:List Sg)(x:Gs)(f:Ps→Option (α×Ps))(y:α×Gs):Prop:=Bx sg x f y∧(y.2.bad=false→x.pos<y.2.pos)
def pkG(sg:List Sg)(g:Gs)(n:Int):Sg:=if g.bad=true∨(sg.length:Int)≤g.pos+n then Ep else sgO sg (g.pos+n)
theorem b0w{sg:List Sg}{i:Int}(h:(sg.length:Int)≤i):sgO sg i=Ep:=by
 unfold sgO;rw[List.getD_eq_getElem?_getD,List.getElem?_eq_none (by omega)];rfl
theorem IH{sg:List Sg}{i:Int}{e:Sg}(h:sg[i.toNat]? =some e):sgO sg i=e:=by simp [sgO,List.getD,h]
theorem II{sg:List Sg}{g:Gs}{n:Int}(h:g.bad=false):pkG sg g n=sgO sg (g.pos+n):=by
 unfold pkG
 split
 ·rename_i hh
  rcases hh with hh|hh
  ·rw[h] at hh;cases hh
  ·exact(b0w hh).symm
 ·rfl
theorem b0x{sg:List Sg}{g:Gs}{n:Int}(h:g.bad=true):pkG sg g n=Ep:=by unfold pkG;rw[if_pos (.inl h)]
def isG(sg:List Sg)(g:Gs)(k:Int)(t:List UInt8):Bool:=decide ((pkG sg g 0).kind=k)&&((pkG sg g 0).text==t)
def nmG(sg:List Sg)(g:Gs)(n:Int):Bool:=decide ((pkG sg g n).kind=1)&& !kw (pkG sg g n).text
theorem QQ{sg:List Sg}{g:Gs}{s:Ps}{k:Int}{t:List UInt8}(h:pur g=some s):isG sg g k t=isT sg s k t:=by
 obtain⟨h1,rfl⟩:=Er.1 h
 simp [isG,isT,II h1]
theorem a0B{sg:List Sg}{g:Gs}{k:Int}{t:List UInt8}(h:pur g=none)(hk:k≠0):isG sg g k t=false:=by
 simp [isG,b0x (a0A.1 h),Ep,Ne.symm hk]
theorem KP{sg:List Sg}{g:Gs}{s:Ps}{n:Int}(h:pur g=some s):nmG sg g n=Df sg (s.pos+n):=by
 obtain⟨h1,rfl⟩:=Er.1 h
 simp [nmG,Df,II h1]
theorem CM{sg:List Sg}{g:Gs}{k:Int}{t:List UInt8}(h:isG sg g k t=true)(hk:k≠0):g.bad=false∧g.pos<sg.length:=by
 unfold isG pkG at h
 split at h
 ·simp [Ep,Ne.symm hk] at h
 ·rename_i hh
  simp only[Int.add_zero] at hh
  exact⟨by cases hb:g.bad<;>simp_all,by omega⟩
theorem QR{sg:List Sg}{g:Gs}{n:Int}(h:nmG sg g n=true):g.bad=false∧g.pos+n<sg.length:=by
 unfold nmG pkG at h
 split at h
 ·simp [Ep] at h
 ·rename_i hh;exact⟨by cases hb:g.bad<;>simp_all,by omega⟩
end Go.My
end
section
set_option linter.unusedVariables false
set_option linter.unusedSimpArgs false
namespace Go.My
open Go.Eng
def As(g:Gs):Gs:=⟨g.pos+1,g.deep,g.bad,g.nodes⟩
def Bs(g:Gs):Gs:=⟨g.pos,g.deep,true,g.nodes⟩
def gDp(g:Gs)(d:Int):Gs:=⟨g.pos,g.deep+d,g.bad,g.nodes⟩
def Aw(sg:List Sg)(g:Gs)(m:List UInt8):Gs:=if isG sg g 4 m then As g else g
def Au(sg:List Sg)(g:Gs)(m:List UInt8):Gs:=if isG sg g 4 m then As g else Bs g
def CN(g:Gs):Gs:=if g.bad then g else As g
def Dm(g:Gs):Bool:=g.bad||decide (g.nodes.length=300)
def Aq(g:Gs)(x:Nd):Gs:=if Dm g then Bs g else⟨g.pos,g.deep,g.bad,g.nodes++[x]⟩
def AU(g:Gs):Int:=if Dm g then 0 else g.nodes.length
def Cs(sg:List Sg)(g:Gs)(m:List UInt8)(x:Nd):Gs:=if isG sg g 4 m then CN (Aq g x) else Bs g
def Ct(sg:List Sg)(g:Gs)(m:List UInt8):Int:=if isG sg g 4 m then AU g else 0
def Ed(sg:List Sg)(g:Gs)(k:Int)(b:Bool):Gs:=CN (Aq g ⟨k,(pkG sg g 0).text,[],b⟩)
def DH(sg:List Sg)(g:Gs):Gs:=if nmG sg g 0 then Ed sg g 1 false else Bs g
def DQ(sg:List Sg)(g:Gs):Int:=if nmG sg g 0 then AU g else 0
def Cx(sg:List Sg)(g:Gs):Gs:=if nmG sg g 0 then As g else Bs g
def CH(sg:List Sg)(g:Gs):List UInt8:=if nmG sg g 0 then(pkG sg g 0).text else []
theorem FG{sg:List Sg}{g:Gs}(h:gsOk sg g)(hl:g.pos<sg.length):gsOk sg (As g):=by
 obtain⟨h1,h2⟩:=h
 exact⟨by simp only[As];omega,h2⟩
theorem KQ{sg:List Sg}{g:Gs}(h:gsOk sg g):gsOk sg (Bs g):=h
theorem UA{g:Gs}:pur (As g)=(pur g).map adv:=by
 cases h:g.bad<;>simp [pur,As,h,adv]
theorem IJ{g:Gs}:pur (Bs g)=none:=by simp [pur,Bs]
theorem a0C{sg:List Sg}{g:Gs}{k:Int}{m:List UInt8}(h:gsOk sg g)(hk:k≠0)(hm:isG sg g k m=true):Uz sg g (fun s=>if isT sg s k m then some (adv s) else none) (As g)∧(As g).bad=false∧g.pos<(As g).pos:=by
 obtain⟨h1,h2⟩:=CM hm hk
 refine⟨⟨FG h h2,rfl,by simp only[As];omega,?_⟩,h1,by simp only[As];omega⟩
 rw[UA,CL h1]
 have:isT sg ⟨g.pos,g.deep,g.nodes⟩ k m=true:=by rw[←QQ (CL h1)];exact hm
 simp [this]
theorem QS{sg:List Sg}{g:Gs}{s:Ps}{k:Int}{m:List UInt8}(hm:isG sg g k m=false)(hs:pur g=some s):isT sg s k m=false:=by rw[←QQ hs];exact hm
theorem UB{sg:List Sg}{g:Gs}{s:Ps}{k:Int}{m:List UInt8}(hm:isG sg g k m=true)(hs:pur g=some s):isT sg s k m=true:=by rw[←QQ hs];exact hm
theorem OB{sg:List Sg}{g:Gs}{m:List UInt8}(h:gsOk sg g):Uz sg g (Bz sg m) (Au sg g m)∧((Au sg g m).bad=false→g.pos<(Au sg g m).pos):=by
 unfold Au
 cases hm:isG sg g 4 m with
 |true=>
  obtain⟨h1,h2,h3⟩:=a0C h (by omega) hm
  simp only[if_true]
  exact⟨h1,fun _=>h3⟩
 |false=>
  simp only[Bool.false_eq_true,if_false]
  refine⟨⟨KQ h,rfl,Int.le_refl _,?_⟩,fun hb=>by simp [Bs] at hb⟩
  rw[IJ]
  cases hs:pur g with
  |none=>rfl
  |some s=>
   simp only[Option.bind_some,Bz,isM,QS hm hs];rfl
theorem QT{g:Gs}(h:Dm g=false):g.bad=false∧g.nodes.length≠300:=by
 simpa [Dm] using h
theorem OC{sg:List Sg}{g:Gs}{x:Nd}(h:gsOk sg g)(hx:CK x):gsOk sg (Aq g x):=by
 unfold Aq
 cases hf:Dm g with
 |true=>exact KQ h
 |false=>
  obtain⟨h1,h2⟩:=QT hf
  obtain⟨a,b,c,d⟩:=h
  refine⟨a,b,?_,?_⟩
  ·simp;omega
  ·simp only[Bool.false_eq_true,if_false]
   intro y hy
   rcases List.mem_append.1 hy with hy|hy
   ·exact d y hy
   ·simp at hy;subst hy;exact hx
theorem a0D{sg:List Sg}{g:Gs}{x:Nd}(h:gsOk sg g):pur (Aq g x)=((pur g).bind (Ba x)).map (·.2)∧∀p,(pur g).bind (Ba x)=some p→AU g=p.1:=by
 unfold Aq AU
 cases hf:Dm g with
 |true=>
  simp only[if_true,IJ]
  have:(pur g).bind (Ba x)=none:=by
   cases hs:pur g with
   |none=>rfl
   |some s=>
    obtain⟨h1,rfl⟩:=Er.1 hs
    have h3:g.nodes.length=300:=by simpa [Dm,h1] using hf
    simp [Ba,h3]
  rw[this];exact⟨rfl,fun p hp=>by cases hp⟩
 |false=>
  obtain⟨h1,h2⟩:=QT hf
  have h3:g.nodes.length≤300:=h.2.2.1
  have h4:¬300≤g.nodes.length:=by omega
  simp [pur,h1,Ba,h4]
theorem QU{sg:List Sg}{g:Gs}{x:Nd}(h:gsOk sg g)(hx:CK x):Bx sg g (Ba x) (AU g,Aq g x):=by
 refine⟨OC h hx,?_,?_,(a0D h).1,(a0D h).2⟩
 ·simp only[Aq];split<;>rfl
 ·simp only[Aq];split<;>exact Int.le_refl _
theorem UC{sg:List Sg}{g:Gs}{x:Nd}(h:gsOk sg g)(hx:CK x)(hl:g.bad=false→g.pos<sg.length):Ah sg g (fun s=>FE (Ba x s)) (AU g,CN (Aq g x)):=by
 obtain⟨h1,h2,h3,h4,h5⟩:=QU h hx
 simp only at h1 h2 h3 h4 h5
 have hp:pur (CN (Aq g x))=(pur (Aq g x)).map adv:=by
  unfold CN
  cases hb:(Aq g x).bad with
  |true=>rw[DG hb];simp [DG hb]
  |false=>simp only[Bool.false_eq_true,if_false];exact UA
 have hpos:(Aq g x).pos=g.pos:=by simp only[Aq];split<;>rfl
 have hbad:(Aq g x).bad=false→g.bad=false:=by
  intro hb;simp only[Aq] at hb;split at hb
  ·simp [Bs] at hb
  ·exact hb
 refine⟨⟨?_,?_,?_,?_,?_⟩,?_⟩
 ·simp only[CN];split
  ·exact h1
  ·rename_i hb
   exact FG h1 (by rw[hpos];exact hl (hbad (by simpa using hb)))
 ·simp only[CN];split<;>simpa [As] using h2
 ·simp only[CN];split
  ·exact h3
  ·simp only[As];omega
 ·simp only;rw[hp,h4]
  cases hs:pur g with
  |none=>rfl
  |some s=>simp only[Option.bind_some,FE];cases Ba x s<;>rfl
 ·intro p hp2
  simp only
  cases hs:pur g with
  |none=>rw[hs] at hp2;cases hp2
  |some s=>
   rw[hs] at hp2 h5
   simp only[Option.bind_some,FE,Option.map_eq_some_iff] at hp2
   obtain⟨q,hq,rfl⟩:=hp2
   exact h5 q (by simpa using hq)
 ·simp only[CN]
  split
  ·rename_i hb;intro hh;rw[hb] at hh;cases hh
  ·intro _;simp only[As];omega
theorem Mu{sg:List Sg}{g:Gs}{m:List UInt8}{x:Nd}(h:gsOk sg g)(hx:CK x):Ah sg g (Br sg m x) (Ct sg g m,Cs sg g m x):=by
 unfold Cs Ct
 cases hm:isG sg g 4 m with
 |true=>
  obtain⟨hb,hl⟩:=CM hm (by omega)
  have:=UC h hx (fun _=>hl)
  simp only[if_true]
  have e:(pur g).bind (Br sg m x)=(pur g).bind fun s=>FE (Ba x s):=by
   rw[CL hb]
   have:isM sg ⟨g.pos,g.deep,g.nodes⟩ m=true:=UB hm (CL hb)
   simp [Br,this]
  obtain⟨⟨a1,a2,a3,a4,a5⟩,a6⟩:=this
  exact⟨⟨a1,a2,a3,by rw[e];exact a4,by rw[e];exact a5⟩,a6⟩
 |false=>
  simp only[Bool.false_eq_true,if_false]
  have e:(pur g).bind (Br sg m x)=none:=by
   cases hs:pur g with
   |none=>rfl
   |some s=>
    have:isM sg s m=false:=QS hm hs
    simp [Br,this]
  refine⟨⟨KQ h,rfl,Int.le_refl _,by rw[e];exact IJ,fun p hp=>by rw[e] at hp;cases hp⟩,fun hb=>by simp [Bs] at hb⟩
theorem b0y{sg:List Sg}(h:sgB sg){i:Int}:(sgO sg i).text.length≤3000:=by
 unfold sgO;rw[List.getD]
 cases hx:sg[i.toNat]? with
 |none=>simp [Ep]
 |some e=>exact h.2 e (CZ hx)
theorem OD{sg:List Sg}(h:sgB sg){g:Gs}{n:Int}:(pkG sg g n).text.length≤3000:=by
 unfold pkG;split
 ·simp [Ep]
 ·exact b0y h
theorem OE{sg:List Sg}{g:Gs}{k:Int}{b:Bool}(hs:sgB sg)(h:gsOk sg g)(hl:g.bad=false→g.pos<sg.length):Ah sg g (Fi sg k b) (AU g,Ed sg g k b):=by
 have hx:CK ⟨k,(pkG sg g 0).text,[],b⟩:=⟨OD hs,by simp⟩
 have:=UC (x:=⟨k,(pkG sg g 0).text,[],b⟩) h hx hl
 have e:(pur g).bind (Fi sg k b)=(pur g).bind fun s=>FE (Ba ⟨k,(pkG sg g 0).text,[],b⟩ s):=by
  cases hs:pur g with
  |none=>rfl
  |some s=>
   obtain⟨h1,rfl⟩:=Er.1 hs
   simp [Fi,II h1]
 obtain⟨⟨a1,a2,a3,a4,a5⟩,a6⟩:=this
 exact⟨⟨a1,a2,a3,by rw[e];exact a4,by rw[e];exact a5⟩,a6⟩
theorem QV{sg:List Sg}{g:Gs}(hs:sgB sg)(h:gsOk sg g):Ah sg g (BP sg) (DQ sg g,DH sg g):=by
 unfold DH DQ
 cases hm:nmG sg g 0 with
 |true=>
  obtain⟨hb,hl⟩:=QR hm
  simp only[if_true]
  obtain⟨⟨a1,a2,a3,a4,a5⟩,a6⟩:=OE (k:=1) (b:=false) hs h (fun _=>by omega)
  have e:(pur g).bind (BP sg)=(pur g).bind (Fi sg 1 false):=by
   rw[CL hb]
   have:Df sg g.pos=true:=by have:=KP (sg:=sg) (n:=0) (CL hb);rw[hm] at this;simpa using this.symm
   simp [BP,this]
  exact⟨⟨a1,a2,a3,by rw[e];exact a4,by rw[e];exact a5⟩,a6⟩
 |false=>
  simp only[Bool.false_eq_true,if_false]
  have e:(pur g).bind (BP sg)=none:=by
   cases hs:pur g with
   |none=>rfl
   |some s=>
    have:Df sg s.pos=false:=by have:=KP (sg:=sg) (n:=0) hs;rw[hm] at this;simpa using this.symm
    simp [BP,this]
  refine⟨⟨KQ h,rfl,Int.le_refl _,by rw[e];exact IJ,fun p hp=>by rw[e] at hp;cases hp⟩,fun hb=>by simp [Bs] at hb⟩
theorem Mv{sg:List Sg}{g:Gs}(h:gsOk sg g):Ah sg g (Ge sg) (CH sg g,Cx sg g):=by
 unfold Cx CH
 cases hm:nmG sg g 0 with
 |true=>
  obtain⟨hb,hl⟩:=QR hm
  simp only[if_true]
  have hn:Df sg g.pos=true:=by have:=KP (sg:=sg) (n:=0) (CL hb);rw[hm] at this;simpa using this.symm
  refine⟨⟨FG h (by omega),rfl,by simp only[As];omega,?_,?_⟩,fun _=>by simp only[As];omega⟩
  ·simp only;rw[UA,CL hb];simp [Ge,hn]
  ·intro p hp;rw[CL hb] at hp
   simp [Ge,hn] at hp
   rw[←hp,II hb];simp
 |false=>
  simp only[Bool.false_eq_true,if_false]
  have e:(pur g).bind (Ge sg)=none:=by
   cases hs:pur g with
   |none=>rfl
   |some s=>
    have:Df sg s.pos=false:=by have:=KP (sg:=sg) (n:=0) hs;rw[hm] at this;simpa using this.symm
    simp [Ge,this]
  refine⟨⟨KQ h,rfl,Int.le_refl _,by rw[e];exact IJ,fun p hp=>by rw[e] at hp;cases hp⟩,fun hb=>by simp [Bs] at hb⟩
end Go.My
end
section
set_option linter.unusedVariables false
set_option linter.unusedSimpArgs false
namespace Go.My
open Go.Eng Go.Proofs
variable {G:GInv}
theorem b0z{a:Int}{b:List UInt8}{c:List Int}{d:Bool}{o:Bool}{i:Nat}{q:Nd→Prop}(h:q ⟨a,b,c,d⟩):∃x:Nd,a=x.kind∧b=x.text∧AV.sl o i 1 Int Bh c=AV.sl o i 1 Int Bh x.kids∧d=x.blank∧q x:=⟨⟨a,b,c,d⟩,rfl,rfl,rfl,rfl,h⟩
theorem AM{α β γ δ ε ζ η:Type}{p q:α×β×γ×δ×ε×ζ×η→Prop}(a:α)(b:β)(c:γ)(d:δ)(e:ε)(f:ζ)(g:η)(h2:q (a,b,c,d,e,f,g))(h1:p (a,b,c,d,e,f,g)):∃x,p x∧q x:=⟨_,h1,h2⟩
theorem AN{α β γ δ ε ζ η θ:Type}{p q:α×β×γ×δ×ε×ζ×η×θ→Prop}(a:α)(b:β)(c:γ)(d:δ)(e:ε)(f:ζ)(g:η)(h:θ)(h2:q (a,b,c,d,e,f,g,h))(h1:p (a,b,c,d,e,f,g,h)):∃x,p x∧q x:=⟨_,h1,h2⟩
theorem AO{α β γ δ ε ζ η θ ι:Type}{p q:α×β×γ×δ×ε×ζ×η×θ×ι→Prop}(a:α)(b:β)(c:γ)(d:δ)(e:ε)(f:ζ)(g:η)(h:θ)(i:ι)(h2:q (a,b,c,d,e,f,g,h,i))(h1:p (a,b,c,d,e,f,g,h,i)):∃x,p x∧q x:=⟨_,h1,h2⟩
theorem AP{α β γ δ ε ζ η θ ι κ:Type}{p q:α×β×γ×δ×ε×ζ×η×θ×ι×κ→Prop}(a:α)(b:β)(c:γ)(d:δ)(e:ε)(f:ζ)(g:η)(h:θ)(i:ι)(j:κ)(h2:q (a,b,c,d,e,f,g,h,i,j))(h1:p (a,b,c,d,e,f,g,h,i,j)):∃x,p x∧q x:=⟨_,h1,h2⟩
structure ST where
 sg:List Sg
 z:Int
 ms:List (Int×Int)
abbrev xg (x:ST×Int×Int×Bool×List Nd):Gs:=⟨x.2.1,x.2.2.1,x.2.2.2.1,x.2.2.2.2⟩
abbrev xh {α:Type} (x:ST×Int×Int×Bool×List Nd×α):Gs:=⟨x.2.1,x.2.2.1,x.2.2.2.1,x.2.2.2.2.1⟩
abbrev yG (y:Int×Int×Bool×List Nd):Gs:=⟨y.1,y.2.1,y.2.2.1,y.2.2.2⟩
abbrev yS {α:Type} (y:α×Int×Int×Bool×List Nd):α×Gs:=(y.1,⟨y.2.1,y.2.2.1,y.2.2.2.1,y.2.2.2.2⟩)
def rOk(s:ST)(g:Gs):Prop:=sgB s.sg∧gsOk s.sg g
theorem Gh{s:ST}{g:Gs}(h:rOk s g):((0≤g.pos∧g.pos≤s.sg.length)∧(0≤g.deep∧g.deep≤21))∧g.nodes.length≤300∧s.sg.length≤3000:=⟨⟨h.2.1,h.2.2.1⟩,h.2.2.2.1,h.1.1⟩
theorem b0A{sg:List Sg}{g:Gs}{n:Int}(h:g.bad=true∨(sg.length:Int)≤g.pos+n):pkG sg g n=Ep:=if_pos h
theorem b0B{sg:List Sg}{g:Gs}{n:Int}{e:Sg}(he:sg[(g.pos+n).toNat]? =some e)(hb:g.bad=false)(hl:¬(sg.length:Int)≤g.pos+n):pkG sg g n=e:=by
 rw[pkG,if_neg (by simp [hb];omega),IH he]
end Go.My
end
section
set_option linter.unusedVariables false
set_option linter.unusedSimpArgs false
namespace Go.My
open Go.Eng
def restP{α:Type}(sg:List Sg)(x:Gs)(f:Ps→Option (α×Ps))(y:Gs)(g:Ps→Option (α×Ps))(d:Int):Prop:=
 gsOk sg y∧y.deep=x.deep+d∧x.pos≤y.pos∧(pur y).bind g=(pur x).bind f
theorem CO{α:Type}{sg:List Sg}{x:Gs}{f:Ps→Option (α×Ps)}(h:gsOk sg x):restP sg x f x f 0:=⟨h,by omega,Int.le_refl _,rfl⟩
theorem DI{α:Type}{sg:List Sg}{x y:Gs}{f g g':Ps→Option (α×Ps)}{d:Int}(h:restP sg x f y g d)(e:∀s,pur y=some s→g s=g' s):restP sg x f y g' d:=by
 refine⟨h.1,h.2.1,h.2.2.1,?_⟩
 rw[←h.2.2.2]
 cases hs:pur y with
 |none=>rfl
 |some s=>exact(e s hs).symm
theorem a0E{α:Type}{sg:List Sg}{x y z:Gs}{f g g':Ps→Option (α×Ps)}{h:Ps→Option Ps}{d:Int}(h1:restP sg x f y g d)(h2:Uz sg y h z)(e:∀s,pur y=some s→g s=(h s).bind g'):restP sg x f z g' d:=by
 obtain⟨a1,a2,a3,a4⟩:=h1;obtain⟨b1,b2,b3,b4⟩:=h2
 refine⟨b1,by omega,by omega,?_⟩
 rw[b4,←a4]
 cases hs:pur y with
 |none=>rfl
 |some s=>simp only[Option.bind_some];rw[e s hs]
theorem BM{α β:Type}{sg:List Sg}{x y:Gs}{z:β×Gs}{f g:Ps→Option (α×Ps)}{k:β→Ps→Option (α×Ps)}{h:Ps→Option (β×Ps)}{d:Int}(h1:restP sg x f y g d)(h2:Bx sg y h z)
 (e:∀s,pur y=some s→g s=(h s).bind fun p=>k p.1 p.2):restP sg x f z.2 (k z.1) d:=by
 obtain⟨a1,a2,a3,a4⟩:=h1;obtain⟨b1,b2,b3,b4,b5⟩:=h2
 refine⟨b1,by omega,by omega,?_⟩
 rw[b4,←a4]
 cases hs:pur y with
 |none=>rfl
 |some s=>
  simp only[Option.bind_some];rw[e s hs]
  rw[hs] at b5
  simp only[Option.bind_some] at b5
  cases hp:h s with
  |none=>rfl
  |some p=>simp only[Option.map_some,Option.bind_some];rw[b5 p hp]
theorem Gi{α:Type}{sg:List Sg}{x y:Gs}{f:Ps→Option (α×Ps)}{a:α}(h:restP sg x f y (fun s=>some (a,s)) 0):Bx sg x f (a,y):=by
 obtain⟨a1,a2,a3,a4⟩:=h
 refine⟨a1,by simp only;omega,a3,?_,?_⟩
 ·rw[←a4];cases pur y<;>rfl
 ·intro p hp;rw[←a4] at hp
  cases hs:pur y with
  |none=>rw[hs] at hp;cases hp
  |some s=>rw[hs] at hp;simp only[Option.bind_some,Option.some.injEq] at hp;rw[←hp]
theorem OF{α:Type}{sg:List Sg}{x y:Gs}{f g:Ps→Option (α×Ps)}{a:α}(h:restP sg x f y g 0)(hb:y.bad=true):Bx sg x f (a,y):=by
 obtain⟨a1,a2,a3,a4⟩:=h
 rw[DG hb] at a4
 have hn:(pur x).bind f=none:=a4.symm
 refine⟨a1,by simp only;omega,a3,?_,fun p hp=>by rw[hn] at hp;cases hp⟩
 rw[hn,DG hb];rfl
theorem a0F{α:Type}{sg:List Sg}{x y:Gs}{f g:Ps→Option (α×Ps)}{d:Int}(h:restP sg x f y g d)(e:∀s,pur y=some s→g s=none):(pur x).bind f=none:=by
 rw[←h.2.2.2]
 cases hs:pur y with
 |none=>rfl
 |some s=>exact e s hs
theorem a0G{α:Type}{sg:List Sg}{x y:Gs}{f g:Ps→Option (α×Ps)}{a:α}(h:restP sg x f y g 0)(e:∀s,pur y=some s→g s=none):Bx sg x f (a,Bs y):=by
 have hn:=a0F h e
 refine⟨KQ h.1,by simp only[Bs];have:=h.2.1;omega,h.2.2.1,?_,fun p hp=>by rw[hn] at hp;cases hp⟩
 rw[hn,IJ];rfl
theorem KR{α:Type}{sg:List Sg}{x y:Gs}{f g g':Ps→Option (α×Ps)}{d e:Int}(h:restP sg x f y g d)(hd:0≤y.deep+e∧y.deep+e≤21)(hg:∀s,pur y=some s→g s=g' (dp s e)):restP sg x f (gDp y e) g' (d+e):=by
 obtain⟨a1,a2,a3,a4⟩:=h
 refine⟨⟨a1.1,hd,a1.2.2⟩,by simp only[gDp];omega,a3,?_⟩
 rw[←a4]
 cases hb:y.bad with
 |true=>rw[DG hb,DG (by simpa [gDp] using hb)];rfl
 |false=>
  rw[CL hb,CL (g:=gDp y e) (by simpa [gDp] using hb)]
  simp only[Option.bind_some]
  rw[hg _ (CL hb)];rfl
theorem a0H{α:Type}{sg:List Sg}{x y:Gs}{f g g':Ps→Option (α×Ps)}{d:Int}(h:restP sg x f y g d)(hg:∀s,pur y=some s→g s=none):restP sg x f (Bs y) g' d:=by
 have hn:=a0F h hg
 refine⟨KQ h.1,h.2.1,h.2.2.1,?_⟩
 rw[IJ,hn];rfl
theorem IK{sg:List Sg}{g:Gs}{s:Ps}{m:List UInt8}(hs:pur g=some s)(hm:isG sg g 4 m=true):isM sg s m=true:=UB hm hs
theorem Es{sg:List Sg}{g:Gs}{s:Ps}{m:List UInt8}(hs:pur g=some s)(hm:isG sg g 4 m=false):isM sg s m=false:=QS hm hs
theorem Ee{sg:List Sg}{g:Gs}{s:Ps}{m:List UInt8}(hs:pur g=some s)(hm:isG sg g 1 m=false):isW sg s m=false:=QS hm hs
theorem Gj{α:Type}{sg:List Sg}{x y:Gs}{f g g':Ps→Option (α×Ps)}{d:Int}{m:List UInt8}{k:Int}(h:restP sg x f y g d)(hk:k≠0)(hm:isG sg y k m=true)(hg:∀s,pur y=some s→isT sg s k m=true→g s=g' (adv s)):
 restP sg x f (As y) g' d:=by
 obtain⟨h1,h2,h3⟩:=a0C h.1 hk hm
 refine a0E h h1 fun s hs=> ?_
 have ht:=UB hm hs
 rw[hg s hs ht,ht];rfl
theorem GS{α:Type}{sg:List Sg}{x y:Gs}{f g g':Ps→Option (α×Ps)}{d:Int}{m:List UInt8}(h:restP sg x f y g d)(hg:∀s,pur y=some s→g s=(Bz sg m s).bind g'):restP sg x f (Au sg y m) g' d:=
 a0E h (OB h.1).1 hg
theorem b0C{α:Type}{sg:List Sg}{x:Gs}{y:α×Gs}{f:Ps→Option (α×Ps)}(h:Bx sg x f y):restP sg x f y.2 (fun s=>some (y.1,s)) 0:=by
 obtain⟨a1,a2,a3,a4,a5⟩:=h
 refine⟨a1,by omega,a3,?_⟩
 cases hp:(pur x).bind f with
 |none=>rw[a4,hp];rfl
 |some p=>rw[a4,hp,a5 p hp];rfl
theorem b0D{sg:List Sg}{one:Ps→PR}{m:List UInt8}{n:Nat}{ks:List Int}{s:Ps}(h:isM sg s m=true):Bu sg one m (n+1) ks s=some (ks,s):=by rw[Bu,if_pos h]
theorem b0E{sg:List Sg}{one:Ps→PR}{m:List UInt8}{n:Nat}{ks:List Int}{s:Ps}(h:isM sg s m=false):Bu sg one m (n+1) ks s=(one s).bind fun p=>if isM sg p.2 [44] then Bu sg one m n (ks++[p.1]) (adv p.2) else some (ks++[p.1],p.2):=by
 rw[Bu,if_neg (by simp [h])]
end Go.My
end
section
set_option linter.unusedVariables false
set_option linter.unusedSimpArgs false
namespace Go.My
open Go.Eng
def Ef(sg:List Sg):Nat→Int→Int
 |0,i=>i
 |n+1,i=>if i+1<sg.length∧(sgO sg i).kind=1 then(if(sgO sg (i+1)).text=[44] then Ef sg n (i+2) else i+1) else i
def IL(sg:List Sg)(i k:Int)(t:List UInt8):Bool:=decide ((sgO sg i).kind=k)&&((sgO sg i).text==t)
def EV(sg:List Sg)(i:Int):Bool:=decide (i+1<sg.length)&&(IL sg i 4 [41]&&IL sg (i+1) 4 [61,62])
def JA(sg:List Sg)(s:Ps):Bool:=EV sg (Ef sg (sg.length+1) (s.pos+1))
def sgM(sg:List Sg):Prop:=∀e∈sg,(e.text=[41]∨e.text=[61,62]∨e.text=[44])→e.kind=4
theorem UD{sg:List Sg}{i:Int}(h:(sgO sg i).text≠[]∨(sgO sg i).kind≠0):i.toNat<sg.length∧sgO sg i∈sg:=by
 unfold sgO at h ⊢
 rw[List.getD_eq_getElem?_getD] at h ⊢
 cases hx:sg[i.toNat]? with
 |none=>rw[hx] at h;simp [Ep] at h
 |some e=>exact⟨(List.getElem?_eq_some_iff.1 hx).1,by simpa using List.mem_of_getElem? hx⟩
theorem QW{sg:List Sg}(hm:sgM sg){i:Int}(h:(sgO sg i).text=[41]∨(sgO sg i).text=[61,62]∨(sgO sg i).text=[44]):(sgO sg i).kind=4:=by
 refine hm _ (UD (.inl ?_)).2 h
 rcases h with h|h|h<;>rw[h]<;>simp
def a0I(sg:List Sg)(i:Int):Bool:=((sgO sg i).text==[41])&&((sgO sg (i+1)).text==[61,62])
theorem UE{sg:List Sg}(hm:sgM sg){i:Int}(h0:0≤i):a0I sg i=EV sg i:=by
 unfold a0I EV IL
 cases h1:((sgO sg i).text==[41]) with
 |false=>simp
 |true=>
  have k1:=QW hm (.inl (by simpa using h1))
  cases h2:((sgO sg (i+1)).text==[61,62]) with
  |false=>simp
  |true=>
   have k2:=QW hm (.inr (.inl (by simpa using h2)))
   have:=(UD (sg:=sg) (i:=i+1) (.inl (by simp at h2;rw[h2];simp))).1
   simp [k1,k2];omega
theorem QX{sg:List Sg}{i:Int}(h:Df sg i=true):(sgO sg i).kind=1:=by
 simp [Df] at h;exact h.1
theorem a0J{sg:List Sg}(hm:sgM sg):∀(n:Nat) (i:Int),0≤i→EV sg (DP sg n i)=true→EV sg (Ef sg n i)=true
 |0,i,h0,h=>by simpa [DP,Ef] using h
 |n+1,i,h0,h=>by
  rw[DP] at h;rw[Ef]
  cases hn:Df sg i with
  |false=>
   rw[hn] at h;simp only[Bool.false_eq_true,if_false] at h
   have h4:(sgO sg i).kind=4:=by
    simp only[EV,IL,Bool.and_eq_true,decide_eq_true_eq] at h;exact h.2.1.1
   rw[if_neg (by rw[h4];omega)];exact h
  |true=>
   rw[hn,if_pos rfl] at h
   have hk:=QX hn
   have hlt:i+1<sg.length:=by
    split at h
    ·rename_i ht
     have:=(UD (sg:=sg) (i:=i+1) (.inl (by rw[ht];simp))).1;omega
    ·simp only[EV,Bool.and_eq_true,decide_eq_true_eq] at h;omega
   rw[if_pos ⟨hlt,hk⟩]
   split at h
   ·rename_i ht;rw[if_pos ht];exact a0J hm n (i+2) (by omega) h
   ·rename_i ht;rw[if_neg ht];exact h
theorem a0K{sg:List Sg}(hm:sgM sg):∀(n:Nat) (i:Int),0≤i→EV sg (Ef sg n i)=true→EV sg (DP sg n i)=false→∀(N:Nat) (ks:List Int) (s:Ps),s.pos=i→Bu sg (BP sg) [41] N ks s=none
 |0,i,h0,h1,h2=>by simp [DP,Ef] at h1 h2;rw[h1] at h2;cases h2
 |n+1,i,h0,h1,h2=>by
  intro N ks s hs
  match N with
  |0=>rfl
  |N+1=>
  rw[Ef] at h1;rw[DP] at h2
  cases hn:Df sg i with
  |false=>
   rw[hn] at h2;simp only[Bool.false_eq_true,if_false] at h2
   split at h1
   ·rename_i hh
    have hm4:isM sg s [41]=false:=by simp [isM,isT,hs,hh.2]
    rw[Bu,if_neg (by simp [hm4]),BP,hs,if_neg (by simp [hn])];rfl
   ·rw[h1] at h2;cases h2
  |true=>
   rw[hn,if_pos rfl] at h2
   have hk:=QX hn
   have hm4:isM sg s [41]=false:=by simp [isM,isT,hs,hk]
   split at h1
   ·split at h1
    ·rename_i ht;rw[if_pos ht] at h2
     have hk2:=QW hm (.inr (.inr ht))
     rw[Bu,if_neg (by simp [hm4]),BP,hs,if_pos hn,Fi,FE,Ba]
     split
     ·rfl
     ·simp only[Option.map_some,Option.bind_some,adv]
      have hc:isM sg ⟨s.pos+1,s.deep,s.nodes++[⟨1,(sgO sg s.pos).text,[],false⟩]⟩ [44]=true:=by simp [isM,isT,hs,ht,hk2]
      rw[if_pos hc]
      exact a0K hm n (i+2) (by omega) h1 h2 N _ _ (by simp only;omega)
    ·rename_i ht;rw[if_neg ht] at h2;rw[h1] at h2;cases h2
   ·exfalso
    have:(sgO sg i).kind=4:=by simp only[EV,IL,Bool.and_eq_true,decide_eq_true_eq] at h1;exact h1.2.1.1
    omega
theorem Mw{sg:List Sg}(hm:sgM sg):∀(n:Nat) (t:NT) (s:Ps),Df sg s.pos=true→(sgO sg (s.pos+1)).text=[44]→0≤s.pos→(pE sg n t s=none∨∃p,pE sg n t s=some p∧p.2.pos=s.pos+1)
 |0,t,s,h1,h2,h0=> .inl (by cases t<;>rfl)
 |n+1,t,s,h1,h2,h0=>by
  have hk:=QW hm (.inr (.inr h2))
  have tst:∀(q:Ps) (m:List UInt8),q.pos=s.pos+1→m≠[44]→isM sg q m=false:=by
   intro q m hq hne;simp only[isM,isT,hq,h2]
   simp;intro _;exact fun e=>hne e.symm
  cases t with
  |value=>
   rw[pE]
   rcases Mw hm n .pick s h1 h2 h0 with h|⟨p,h,hp⟩
   ·left;rw[h];rfl
   ·right;refine⟨p,?_,hp⟩
    rw[h,Option.bind_some,if_neg (by simp [tst p.2 [46,46] hp (by simp)])]
  |pick=>
   rw[pE]
   split
   ·exact .inl rfl
   ·rcases Mw hm n (.chain 0) (dp s 1) h1 h2 h0 with h|⟨p,h,hp⟩
    ·left;rw[h];rfl
    ·right;refine⟨(p.1,dp p.2 (-1)),?_,hp⟩
     rw[h,Option.bind_some,if_neg (by simp [tst p.2 [63] hp (by simp)])]
  |chain l=>
   rw[pE]
   split
   ·exact Mw hm n .fin s h1 h2 h0
   ·rcases Mw hm n (.chain (l+1)) s h1 h2 h0 with h|⟨p,h,hp⟩
    ·left;rw[h];rfl
    ·right
     have hc:IG sg l p.2=[]:=by
      have:∀m∈BI l,isM sg p.2 m=false:=by
       intro m hmm
       refine tst p.2 m hp ?_
       intro e;subst e
       unfold BI at hmm
       split at hmm<;>simp at hmm
      rw[IG,List.find?_eq_none.2 (by intro m hmm;simp [this m hmm])];rfl
     refine⟨(p.1,p.2),?_,hp⟩
     rw[h,Option.bind_some,Gf,if_neg (by simp),if_pos hc];rfl
  |fin=>
   rw[pE]
   rcases Mw hm n .base s h1 h2 h0 with h|⟨p,h,hp⟩
   ·left;rw[h];rfl
   ·right;refine⟨p,?_,hp⟩
    rw[h,Option.bind_some,FF,if_neg (by simp [tst p.2 [40] hp (by simp)]),if_neg (by simp [tst p.2 [46] hp (by simp)])]
  |base=>
   rw[pE,if_pos (QX h1),BP,if_pos h1,Fi,FE,Ba]
   split
   ·exact .inl rfl
   ·exact .inr ⟨_,rfl,rfl⟩
theorem Mx{sg:List Sg}:∀(n:Nat) (t:NT) (s:Ps),Df sg s.pos=false→(sgO sg s.pos).kind=1→pE sg n t s=none
 |0,t,s,h1,h2=>by cases t<;>rfl
 |n+1,t,s,h1,h2=>by
  cases t with
  |value=>rw[pE,Mx n .pick s h1 h2];rfl
  |pick=>rw[pE];split
         ·rfl
         ·rw[Mx n (.chain 0) (dp s 1) h1 h2];rfl
  |chain l=>rw[pE];split
            ·exact Mx n .fin s h1 h2
            ·rw[Mx n (.chain (l+1)) s h1 h2];rfl
  |fin=>rw[pE,Mx n .base s h1 h2];rfl
  |base=>rw[pE,if_pos h2,BP,if_neg (by simp [h1])]
theorem b0F{sg:List Sg}(hm:sgM sg){s:Ps}{n:Nat}{x:Nd}(h0:0≤s.pos)(h1:JA sg s=true)(h2:Jy sg s=false)(k:Int→Nd):
 ((pE sg n .value (adv s)).bind fun p=>Br sg [41] (k p.1) p.2)=none:=by
 have h2':EV sg (DP sg (sg.length+1) (s.pos+1))=false:=by
  have hp:∀(n:Nat) (i:Int),0≤i→0≤DP sg n i:=by
   intro n
   induction n with
   |zero=>intro i hi;simpa [DP] using hi
   |succ n ih=>intro i hi;rw[DP];split
               ·split
                ·exact ih _ (by omega)
                ·omega
               ·exact hi
  rw[←UE hm (hp _ _ (by omega))];exact h2
 unfold JA at h1
 rw[Ef] at h1;rw[DP] at h2'
 cases hn:Df sg (s.pos+1) with
 |false=>
  rw[hn] at h2';simp only[Bool.false_eq_true,if_false] at h2'
  split at h1
  ·rename_i hh
   rw[Mx n .value (adv s) hn hh.2];rfl
  ·rw[h1] at h2';cases h2'
 |true=>
  rw[hn,if_pos rfl] at h2'
  split at h1
  ·split at h1
   ·rename_i ht
    rcases Mw hm n .value (adv s) hn (by simpa [adv] using ht) (by simp only[adv];omega) with h|⟨p,h,hp⟩
    ·rw[h];rfl
    ·rw[h,Option.bind_some,Br]
     have:isM sg p.2 [41]=false:=by
      simp only[isM,isT,hp,adv]
      rw[show s.pos+1+1=s.pos+1+1 from rfl,ht];simp
     rw[if_neg (by simp [this])]
   ·rename_i ht;rw[if_neg ht] at h2';rw[h1] at h2';cases h2'
  ·exfalso
   have:(sgO sg (s.pos+1)).kind=4:=by simp only[EV,IL,Bool.and_eq_true,decide_eq_true_eq] at h1;exact h1.2.1.1
   have:=QX hn
   omega
end Go.My
end
section
set_option linter.unusedVariables false
set_option linter.unusedSimpArgs false
namespace Go.My
open Go.Eng
theorem a0L{sg:List Sg}{n:Nat}{s:Ps}:pE sg (n+1) .pick s=if 20≤s.deep then none else(pE sg n (.chain 0) (dp s 1)).bind fun p=>
 if isM sg p.2 [63] then(pE sg n .pick (adv p.2)).bind fun a=>(Bz sg [58] a.2).bind fun s1=>(pE sg n .pick s1).bind fun b=>(Ba ⟨8,[],[p.1,a.1,b.1],false⟩ b.2).map fun q=>(q.1,dp q.2 (-1))
 else some (p.1,dp p.2 (-1)):=rfl
theorem b0G{sg:List Sg}{n l:Nat}{s:Ps}:pE sg (n+1) (.chain l) s=if l=6 then pE sg n .fin s else(pE sg n (.chain (l+1)) s).bind fun p=>Gf sg l (pE sg n (.chain (l+1))) (2*sg.length+4) [] [p.1] p.2:=rfl
theorem Fk{α:Type}{sg:List Sg}{x:Gs}{f:Ps→Option (α×Ps)}{y:α×Gs}(h:Ah sg x f y):gsOk sg y.2:=h.1.1
theorem Cz{α:Type}{sg:List Sg}{x:Gs}{f:Ps→Option (α×Ps)}{y:α×Gs}(h:Ah sg x f y):y.2.deep=x.deep∧x.pos≤y.2.pos∧y.2.pos≤sg.length∧(y.2.bad=false→x.bad=false∧x.pos<y.2.pos):=by
 refine⟨h.1.2.1,h.1.2.2.1,h.1.1.1.2,fun hb=>⟨?_,h.2 hb⟩⟩
 cases hx:x.bad with
 |false=>rfl
 |true=>
  have:=h.1.2.2.2.1
  rw[DG hx,CL hb] at this;cases this
theorem IM{g:Gs}{x:Nd}:(Aq g x).deep=g.deep∧(Aq g x).pos=g.pos∧((Aq g x).bad=false→g.bad=false):=by
 unfold Aq;split
 ·rename_i h;exact⟨rfl,rfl,fun hb=>by simp [Bs] at hb⟩
 ·exact⟨rfl,rfl,fun hb=>hb⟩
theorem QY{sg:List Sg}{x y:Gs}{f:Ps→PR}{w:Nd}(h:restP sg x f y (Ba w) 0)(hw:CK w):Bx sg x f (AU y,Aq y w):=by
 have h2:=BM (k:=fun a s=>some (a,s)) h (QU h.1 hw) (fun s _=>by cases Ba w s<;>rfl)
 exact Gi h2
theorem QZ{sg:List Sg}{x y:Gs}{f:Ps→PR}{w:Nd}{m:List UInt8}(h:restP sg x f y (Br sg m w) 0)(hw:CK w):Bx sg x f (Ct sg y m,Cs sg y m w):=by
 have h2:=BM (k:=fun a s=>some (a,s)) h (Mu h.1 hw).1 (fun s _=>by cases Br sg m w s<;>rfl)
 exact Gi h2
theorem b0H{sg:List Sg}{x:Gs}{n:Nat}(h:gsOk sg x)(hd:x.deep≤20):restP sg x (pE sg (n+1) .pick) (gDp (if x.deep=20 then Bs x else x) 1)
 (fun s=>(pE sg n (.chain 0) s).bind fun p=>if isM sg p.2 [63] then(pE sg n .pick (adv p.2)).bind fun a=>(Bz sg [58] a.2).bind fun s1=>(pE sg n .pick s1).bind fun b=>(Ba ⟨8,[],[p.1,a.1,b.1],false⟩ b.2).map fun q=>(q.1,dp q.2 (-1)) else some (p.1,dp p.2 (-1))) 1:=by
 split
 ·rename_i h20
  have h2:=a0H (d:=0) (g':=pE sg (n+1) .pick) (CO (f:=pE sg (n+1) .pick) h) (fun s hs=>by
   obtain⟨_,rfl⟩:=Er.1 hs
   rw[a0L,if_pos (by simp only;omega)])
  refine KR (d:=0) h2 ⟨by simp only[Bs];omega,by simp only[Bs];omega⟩ (fun s hs=> ?_)
  rw[IJ] at hs;cases hs
 ·rename_i h20
  refine KR (d:=0) (CO h) ⟨by have:=h.2.1.1;omega,by omega⟩ (fun s hs=> ?_)
  obtain⟨_,rfl⟩:=Er.1 hs
  rw[a0L,if_neg (by simp only;omega)]
theorem a0M{sg:List Sg}{x:Gs}{n:Nat}{z:Int×Gs}(h:gsOk sg x)(hd:x.deep≤20)(h1:Ah sg (gDp (if x.deep=20 then Bs x else x) 1) (pE sg n (.chain 0)) z):
 restP sg x (pE sg (n+1) .pick) z.2 (fun s=>if isM sg s [63] then(pE sg n .pick (adv s)).bind fun a=>(Bz sg [58] a.2).bind fun s1=>(pE sg n .pick s1).bind fun b=>(Ba ⟨8,[],[z.1,a.1,b.1],false⟩ b.2).map fun q=>(q.1,dp q.2 (-1)) else some (z.1,dp s (-1))) 1:=
 BM (k:=fun k s=>if isM sg s [63] then(pE sg n .pick (adv s)).bind fun a=>(Bz sg [58] a.2).bind fun s1=>(pE sg n .pick s1).bind fun b=>(Ba ⟨8,[],[k,a.1,b.1],false⟩ b.2).map fun q=>(q.1,dp q.2 (-1)) else some (k,dp s (-1))) (b0H h hd) h1.1 (fun _ _=>rfl)
theorem OG{x:Gs}:(gDp (if x.deep=20 then Bs x else x) 1).pos=x.pos∧(gDp (if x.deep=20 then Bs x else x) 1).deep=x.deep+1∧((gDp (if x.deep=20 then Bs x else x) 1).bad=false→x.bad=false∧x.deep≠20):=by
 split
 ·exact⟨rfl,rfl,fun h=>by simp [gDp,Bs] at h⟩
 ·rename_i h;exact⟨rfl,rfl,fun h2=>⟨h2,h⟩⟩
theorem b0I{sg:List Sg}{x:Gs}{n:Nat}{z:Int×Gs}(h:gsOk sg x)(hd:x.deep≤20)(h1:Ah sg (gDp (if x.deep=20 then Bs x else x) 1) (pE sg n (.chain 0)) z)(hq:isG sg z.2 4 [63]=false):
 Ah sg x (pE sg (n+1) .pick) (z.1,gDp z.2 (-1)):=by
 have h2:=DI (a0M h hd h1) (g':=fun s=>some (z.1,dp s (-1))) (fun s hs=>by rw[if_neg (by simp [Es hs hq])])
 obtain⟨e1,e2,e3,e4⟩:=Cz h1
 obtain⟨p1,p2,p3⟩:= @OG x
 refine⟨Gi (KR (e:= -1) h2 ?_ (fun s hs=>rfl)),fun hb=> ?_⟩
 ·have:=h.2.1;omega
 ·have:=e4 hb;show x.pos<z.2.pos;omega
theorem b0J{sg:List Sg}{x:Gs}{n:Nat}{z a b:Int×Gs}(h:gsOk sg x)(hd:x.deep≤20)(h1:Ah sg (gDp (if x.deep=20 then Bs x else x) 1) (pE sg n (.chain 0)) z)(hq:isG sg z.2 4 [63]=true)
 (h2:Ah sg (As z.2) (pE sg n .pick) a) (h3:Ah sg (Au sg a.2 [58]) (pE sg n .pick) b):
 Ah sg x (pE sg (n+1) .pick) (AU b.2,gDp (Aq b.2 ⟨8,[],[z.1,a.1,b.1],false⟩) (-1)):=by
 have k1:=Gj (g':=fun s=>(pE sg n .pick s).bind fun a=>(Bz sg [58] a.2).bind fun s1=>(pE sg n .pick s1).bind fun b=>(Ba ⟨8,[],[z.1,a.1,b.1],false⟩ b.2).map fun q=>(q.1,dp q.2 (-1)))
  (a0M h hd h1) (by omega) hq (fun s hs ht=>by rw[if_pos (show isM sg s [63]=true from ht)])
 have k2:=BM (k:=fun a s=>(Bz sg [58] s).bind fun s1=>(pE sg n .pick s1).bind fun b=>(Ba ⟨8,[],[z.1,a,b.1],false⟩ b.2).map fun q=>(q.1,dp q.2 (-1))) k1 h2.1 (fun _ _=>rfl)
 have k3:=GS (g':=fun s1=>(pE sg n .pick s1).bind fun b=>(Ba ⟨8,[],[z.1,a.1,b.1],false⟩ b.2).map fun q=>(q.1,dp q.2 (-1))) k2 (fun _ _=>rfl)
 have k4:=BM (k:=fun b s=>(Ba ⟨8,[],[z.1,a.1,b],false⟩ s).map fun q=>(q.1,dp q.2 (-1))) k3 h3.1 (fun _ _=>rfl)
 have hw:CK ⟨8,[],[z.1,a.1,b.1],false⟩:=⟨by simp,by simp⟩
 have k5:=BM (k:=fun k s=>some (k,dp s (-1))) k4 (QU k4.1 hw) (fun s _=>by cases Ba ⟨8,[],[z.1,a.1,b.1],false⟩ s<;>rfl)
 simp only at k5
 obtain⟨d1,d2,d3⟩:= @IM b.2 ⟨8,[],[z.1,a.1,b.1],false⟩
 refine⟨Gi (KR (e:= -1) k5 ?_ (fun s hs=>rfl)),fun hb=> ?_⟩
 ·have:=k5.2.1;have:=h.2.1;omega
 ·have hb2:=d3 hb
  obtain⟨p1,p2,p3⟩:= @OG x
  have e1:=Cz h1;have e2:=Cz h2;have e3:=Cz h3
  have e4:=OB (m:=[58]) (Fk h2)
  have e5:=(OB (m:=[58]) (Fk h2)).1.2.2.1
  show x.pos<(Aq b.2 ⟨8,[],[z.1,a.1,b.1],false⟩).pos
  have ea:(As z.2).pos=z.2.pos+1:=rfl
  have:=e3.2.1
  omega
def JB(sg:List Sg)(n:Nat)(x y:Gs)(ks:List Int)(N:Nat):Prop:=
 restP sg x (pE sg (n+1) .value) y (fun s=>(Fj sg (pE sg n .value) N ks s).bind fun q=>Ba ⟨10,[],q.1,false⟩ q.2) 0∧(sg.length:Int)-y.pos<N∧(ks.length:Int)≤y.pos+1∧(y.bad=false→x.pos<y.pos)
theorem b0K{sg:List Sg}{x:Gs}{n:Nat}{z:Int×Gs}(h:gsOk sg x)(h1:Ah sg x (pE sg n .pick) z)(hq:isG sg z.2 4 [46,46]=false):Ah sg x (pE sg (n+1) .value) z:=by
 have k1:=BM (k:=fun k s=>if isM sg s [46,46] then(Fj sg (pE sg n .value) (sg.length+1) [k] s).bind fun q=>Ba ⟨10,[],q.1,false⟩ q.2 else some (k,s)) (CO (f:=pE sg (n+1) .value) h) h1.1 (fun _ _=>rfl)
 have k2:=DI k1 (g':=fun s=>some (z.1,s)) (fun s hs=>by rw[if_neg (by simp [Es hs hq])])
 exact⟨Gi k2,h1.2⟩
theorem b0L{sg:List Sg}{x:Gs}{n:Nat}{z:Int×Gs}(h:gsOk sg x)(h1:Ah sg x (pE sg n .pick) z)(hq:isG sg z.2 4 [46,46]=true):JB sg n x z.2 [z.1] (sg.length+1):=by
 have k1:=BM (k:=fun k s=>if isM sg s [46,46] then(Fj sg (pE sg n .value) (sg.length+1) [k] s).bind fun q=>Ba ⟨10,[],q.1,false⟩ q.2 else some (k,s)) (CO (f:=pE sg (n+1) .value) h) h1.1 (fun _ _=>rfl)
 have k2:=DI k1 (g':=fun s=>(Fj sg (pE sg n .value) (sg.length+1) [z.1] s).bind fun q=>Ba ⟨10,[],q.1,false⟩ q.2) (fun s hs=>by rw[if_pos (IK hs hq)])
 have:=k2.1.1
 exact⟨k2,by omega,by simp;omega,h1.2⟩
theorem val_go{sg:List Sg}{x y:Gs}{n N:Nat}{ks:List Int}{w:Int×Gs}(hs:sgB sg)(h:JB sg n x y ks N)(hq:isG sg y 4 [46,46]=true)
 (h2:Ah sg (DH sg (As y)) (CJ sg (pE sg n .value) (DQ sg (As y))) w):∃M,N=M+1∧JB sg n x w.2 (ks++[w.1]) M:=by
 obtain⟨h1,hN,hk,hb⟩:=h
 obtain⟨hl1,hl⟩:=CM hq (by omega)
 match N with
 |0=>omega
 |M+1=>
  refine⟨M,rfl,?_⟩
  have k1:=Gj (g':=fun s=>((BP sg s).bind fun p=>(CJ sg (pE sg n .value) p.1 p.2).bind fun q=>Fj sg (pE sg n .value) M (ks++[q.1]) q.2).bind fun q=>Ba ⟨10,[],q.1,false⟩ q.2)
   h1 (by omega) hq (fun s hs ht=>by rw[Fj,if_pos (show isM sg s [46,46]=true from ht)])
  have k2:=BM (k:=fun k s=>((CJ sg (pE sg n .value) k s).bind fun q=>Fj sg (pE sg n .value) M (ks++[q.1]) q.2).bind fun q=>Ba ⟨10,[],q.1,false⟩ q.2) k1 (QV hs k1.1).1 (fun s _=>by simp only[Option.bind_assoc])
  have k3:=BM (k:=fun k s=>(Fj sg (pE sg n .value) M (ks++[k]) s).bind fun q=>Ba ⟨10,[],q.1,false⟩ q.2) k2 h2.1 (fun s _=>by simp only[Option.bind_assoc])
  have e0:(As y).pos≤(DH sg (As y)).pos:=(QV hs k1.1).1.2.2.1
  have e1:=Cz h2
  have ea:(As y).pos=y.pos+1:=rfl
  refine⟨k3,by omega,by simp;omega,fun hb2=> ?_⟩
  have:=h1.2.2.1
  omega
theorem b0M{sg:List Sg}{x y:Gs}{n N:Nat}{ks:List Int}(h:JB sg n x y ks N)(hq:isG sg y 4 [46,46]=false)(hs:sgB sg):Ah sg x (pE sg (n+1) .value) (AU y,Aq y ⟨10,[],ks,false⟩):=by
 obtain⟨h1,hN,hk,hb⟩:=h
 have hp:=h1.1.1
 match N with
 |0=>omega
 |M+1=>
  have k1:=DI h1 (g':=Ba ⟨10,[],ks,false⟩) (fun s hs=>by rw[Fj,if_neg (by simp [Es hs hq])];rfl)
  have:=hs.1
  refine⟨QY k1 ⟨by simp,by simp only;omega⟩,fun hb2=> ?_⟩
  obtain⟨d1,d2,d3⟩:= @IM y ⟨10,[],ks,false⟩
  simp only[d2];exact hb (d3 hb2)
theorem a0N{sg:List Sg}{one:Ps→PR}{m:List UInt8}{a:List Int}:∀(n:Nat) (ks:List Int) (s:Ps),Bu sg one m n (a++ks) s=(Bu sg one m n ks s).map fun p=>(a++p.1,p.2)
 |0,ks,s=>rfl
 |n+1,ks,s=>by
  rw[Bu,Bu]
  split
  ·rfl
  ·cases one s with
   |none=>rfl
   |some p=>
    simp only[Option.bind_some]
    split
    ·rw[List.append_assoc,a0N n (ks++[p.1])]
    ·simp
def Ia(sg:List Sg)(one:Ps→PR)(m:List UInt8)(x y:Gs)(ks:List Int)(N:Nat):Prop:=
 restP sg x (Bu sg one m (sg.length+1) []) y (Bu sg one m N ks) 0∧(sg.length:Int)-y.pos<N∧(ks.length:Int)≤y.pos
theorem b0N{sg:List Sg}{one:Ps→PR}{m:List UInt8}{x:Gs}(h:gsOk sg x):Ia sg one m x x [] (sg.length+1):=by
 have:=h.1
 exact⟨CO h,by omega,by simp;omega⟩
theorem b0O{sg:List Sg}{one:Ps→PR}{m:List UInt8}{x y:Gs}{ks:List Int}{N:Nat}(h:Ia sg one m x y ks N)(hb:y.bad=true):Bx sg x (Bu sg one m (sg.length+1) []) (ks,y):=OF h.1 hb
theorem b0P{sg:List Sg}{one:Ps→PR}{m:List UInt8}{x y:Gs}{ks:List Int}{N:Nat}(h:Ia sg one m x y ks N)(hq:isG sg y 4 m=true):Bx sg x (Bu sg one m (sg.length+1) []) (ks,y):=by
 obtain⟨h1,hN,hk⟩:=h
 have:=h1.1.1
 match N with
 |0=>omega
 |M+1=>exact Gi (DI h1 (g':=fun s=>some (ks,s)) (fun s hs=>b0D (IK hs hq)))
theorem a0O{sg:List Sg}{one:Ps→PR}{m:List UInt8}{x y:Gs}{ks:List Int}{M:Nat}{z:Int×Gs}(h:Ia sg one m x y ks (M+1))(hq:isG sg y 4 m=false)(hz:Ah sg y one z):
 restP sg x (Bu sg one m (sg.length+1) []) z.2 (fun s=>if isM sg s [44] then Bu sg one m M (ks++[z.1]) (adv s) else some (ks++[z.1],s)) 0:=by
 have k1:=DI h.1 (g':=fun s=>(one s).bind fun p=>if isM sg p.2 [44] then Bu sg one m M (ks++[p.1]) (adv p.2) else some (ks++[p.1],p.2)) (fun s hs=>b0E (Es hs hq))
 exact BM (k:=fun k s=>if isM sg s [44] then Bu sg one m M (ks++[k]) (adv s) else some (ks++[k],s)) k1 hz.1 (fun _ _=>rfl)
theorem a0P{sg:List Sg}{one:Ps→PR}{m:List UInt8}{x y:Gs}{ks:List Int}{N:Nat}(h:Ia sg one m x y ks N):∃M,N=M+1:=by
 obtain⟨h1,hN,hk⟩:=h
 have:=h1.1.1
 match N with
 |0=>omega
 |M+1=>exact⟨M,rfl⟩
theorem b0Q{sg:List Sg}{one:Ps→PR}{m:List UInt8}{x y:Gs}{ks:List Int}{N:Nat}{z:Int×Gs}(h:Ia sg one m x y ks N)(hq:isG sg y 4 m=false)(hz:Ah sg y one z)(hc:isG sg z.2 4 [44]=false):
 Bx sg x (Bu sg one m (sg.length+1) []) (ks++[z.1],z.2):=by
 obtain⟨M,rfl⟩:=a0P h
 exact Gi (DI (a0O h hq hz) (g':=fun s=>some (ks++[z.1],s)) (fun s hs=>by rw[if_neg (by simp [Es hs hc])]))
theorem b0R{sg:List Sg}{one:Ps→PR}{m:List UInt8}{x y:Gs}{ks:List Int}{N:Nat}{z:Int×Gs}(h:Ia sg one m x y ks N)(hq:isG sg y 4 m=false)(hz:Ah sg y one z)(hc:isG sg z.2 4 [44]=true):
 ∃M,N=M+1∧Ia sg one m x (As z.2) (ks++[z.1]) M:=by
 obtain⟨M,rfl⟩:=a0P h
 have k1:=Gj (g':=Bu sg one m M (ks++[z.1])) (a0O h hq hz) (by omega) hc (fun s hs ht=>by rw[if_pos (show isM sg s [44]=true from ht)])
 have e:=Cz hz
 obtain⟨h1,hN,hk⟩:=h
 refine⟨M,rfl,k1,?_,?_⟩
 ·simp only[As];omega
 ·simp only[As,List.length_append,List.length_cons,List.length_nil];omega
theorem b0S{sg:List Sg}{val:Ps→PR}{x:Gs}{k:Int}{l:List Int×Gs}(hx:gsOk sg x)(hl:Bx sg (Au sg x [40]) (Bu sg val [41] (sg.length+1) []) l)(hll:l.1.length≤3001):
 Ah sg x (CJ sg val k) (Ct sg l.2 [41],Cs sg l.2 [41] ⟨5,[],k::l.1,false⟩):=by
 have k1:=GS (g':=fun s=>(Bu sg val [41] (sg.length+1) [k] s).bind fun p=>Br sg [41] ⟨5,[],p.1,false⟩ p.2) (CO (f:=CJ sg val k) hx) (fun _ _=>rfl)
 have k2:=BM (k:=fun ks s=>Br sg [41] ⟨5,[],k::ks,false⟩ s) k1 hl (fun s _=>by
  rw[show([k]:List Int)=[k]++[] from rfl,a0N]
  cases Bu sg val [41] (sg.length+1) [] s<;>rfl)
 have hw:CK ⟨5,[],k::l.1,false⟩:=⟨by simp,by simp;omega⟩
 refine⟨QZ k2 hw,fun hb=> ?_⟩
 have:=(Mu (m:=[41]) hl.1 hw).2 hb
 have e1:=hl.2.2.1
 have e2:=(OB (m:=[40]) hx).1.2.2.1
 simp only at this ⊢
 omega
end Go.My
end
