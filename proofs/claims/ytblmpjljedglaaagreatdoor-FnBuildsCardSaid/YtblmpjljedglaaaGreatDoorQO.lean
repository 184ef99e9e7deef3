/- joined -/
import Derived.Test.YtblmpjljedglaaaGreatDoorQN
import Derived.Test.YtblmpjljedglaaaGreatDoorProg
set_option linter.unusedSimpArgs false
set_option linter.unusedVariables false
section
namespace Go.My
open Go.Eng Go.Proofs
variable {G:GInv}
variable {L:List Nd}{c:UInt8}{i k:Int}{n:Nat}{o x:List UInt8}
set_option maxRecDepth 100000 in
theorem b0d{ns:List Nd}{K:Nat}{ds:List Int}(hd:CW ns K=some ds)(hx:∀i,(Ab ns i).text.length≤3000):∀ {n:Nat} {k:Int} (d:Nat),CS ns k→k<K→ds.getD k.toNat 0≤d→11*tW ns n k+3080≤3080*12^d
 |0,k,d,h,hK,hle=>by
  have:1≤12^d:=Nat.one_le_pow _ _ (by decide)
  rw[tW];omega
 |n+1,k,d,h,hK,hle=>by
  have hr:=BB.1 h.1
  have hat:=(Rb hd k.toNat (by omega)).1
  obtain⟨e,rfl⟩:∃e,d=e+1:=⟨d-1,by omega⟩
  have h12:=(EF (Jm h)).2.1
  have hs:∀l:List Int,(∀c∈l,c∈(Ab ns k).kids)→11*wL (tW ns n) l+3080*l.length≤l.length*(3080*12^e):=by
   intro l
   induction l with
   |nil=>intro _;simp [wL]
   |cons c l ih=>
    intro hl
    have h1:=FC h (hl c (by simp))
    have h2:=c3m hd h hK (hl c (by simp))
    have h3:=b0d hd hx (n:=n) e h1.1 (by omega) (by omega)
    have h4:=ih fun d hd=>hl d (by simp [hd])
    rw[FI,List.length_cons,Nat.add_mul l.length 1 (3080*12^e)];omega
  have h1:=hs _ fun c hc=>hc
  have h2:1≤12^e:=Nat.one_le_pow _ _ (by decide)
  have h4:=hx k
  rw[tW,Nat.pow_succ]
  generalize hZ:3080*12^e=Z at h1
  have h6:3080*(12^e*12)=12*Z:=by rw[←hZ,Nat.mul_comm (12^e) 12,Nat.mul_left_comm]
  rw[h6]
  obtain⟨W,rfl⟩:∃W,Z=W+3080:=⟨Z-3080,by omega⟩
  have h3:(Ab ns k).kids.length*W≤12*W:=Nat.mul_le_mul_right _ h12
  rw[Nat.mul_add] at h1
  omega
theorem b0e(h:txK L)(i:Int):(Ab L i).text.length≤3000:=by
 unfold Ab
 rw[List.getD]
 cases hh:L[i.toNat]? with
 |none=>simp
 |some e=>exact h e (Bm hh)
theorem a1M(h:txK L)(hv:Ca L k=true):tW L n k≤2^60:=by
 simp only[Ca,Bool.and_eq_true,decide_eq_true_eq] at hv
 obtain⟨h1,h2,h3⟩:=hv
 have hr:=BB.1 h1
 obtain⟨_,⟨ds,hd⟩,_⟩:=Qi (show Cx L k≠0 by omega)
 have hat:=(Rb hd k.toNat (by omega)).1
 have hu:CS L k:=KT (by omega)
 have h4:=b0d hd (b0e h) (n:=n) 14 hu (by omega) hat.2
 have e2:3080*12^14≤11*2^60:=by decide
 have h5:=Nat.le_trans h4 e2
 generalize 2^60=Q at h5 ⊢
 omega
structure vvB (L:List Nd):Prop where
 ok:BH L
 l3:1≤L.length∧L.length≤300
 tx:txK L
theorem VI{pre post:List UInt8}(h:vvB L)(hn:300≤n)(hp:pre.length≤50∧post.length≤50):pfP L n k pre post:=
 ⟨h.ok,by have:=h.l3;omega,by have:=h.l3;omega,a1M h.tx,by omega,by omega⟩
theorem Lz(h:vvB L)(hn:300≤n):(BH L∧L.length≤2^30)∧(L.length≤n∧(Ca L k=true→tW L n k≤2^60)):=
 ⟨⟨h.ok,by have:=h.l3;omega⟩,by have:=h.l3;omega,a1M h.tx⟩
theorem b0f(h:tkB L):vvB L:=by
 have:=Qy h.1.1
 exact⟨h.1.2,⟨this.2.1,this.2.2.1⟩,h.2⟩
theorem Ni(h:stK L):vvB L:=⟨h.1.2.1,h.1.1,h.2⟩
theorem c5q{e:Nd}(h:tkB L)(h0:0≤k)(he:L[k.toNat]? =some e)(hv:Bf e.kind=true):Ca L k=true:=by
 have hk:0≤k∧k<L.length:=by have:=(Ek he).1;omega
 have t:=h.1.1
 simp only[Dl,Bool.and_eq_true,decide_eq_true_eq,Bool.not_eq_true',decide_eq_false_iff_not] at t
 obtain⟨h1,⟨ds,h2⟩,_⟩:=Qi t.2.2.1
 have h3:∃es,CW L (k.toNat+1)=some es:=by
  cases e:CW L (k.toNat+1) with
  |none=>rw[XI e (m:=((L.length:Int)-1).toNat+1) (by omega)] at h2;cases h2
  |some es=>exact⟨es,rfl⟩
 obtain⟨es,h3⟩:=h3
 have h4:=b1K (BB.2 hk) h3
 have h5:= @XJ L k
 simp only[Ca,Bool.and_eq_true,decide_eq_true_eq]
 exact⟨BB.2 hk,by rw[Gb he];exact hv,by omega⟩
theorem c5r(h:txK L):txS L≤3000*L.length:=by
 unfold txS
 have:∀q:Nat,((List.range q).map fun i:Nat=>(Ab L i).text.length).sum≤3000*q:=by
  intro q
  induction q with
  |zero=>simp
  |succ q ih=>
   have:=b0e h (q:Int)
   rw[List.range_succ,List.map_append,List.sum_append];simp;omega
 exact this _
structure vvV (L:List Nd) (k:Int):Prop where
 b:vvB L
 v:Ca L k=true
 w:∀n,tW L n k≤2^24
theorem b0g{e:Nd}(h:tkB L)(h0:0≤k)(he:L[k.toNat]? =some e)(hv:Bf e.kind=true):vvV L k:=by
 have h1:=c5q h h0 he hv
 refine⟨b0f h,h1,fun n=> ?_⟩
 have h2:=c3q h.1.1 (n:=n) (Vn h1).1
 have h3:=c5r h.2
 have h4:=(Qy h.1.1).2.2.1
 omega
theorem c5s:vvB [⟨1,[97],[],false⟩]:=⟨⟨by simp,fun x hx=>by simp at hx;subst hx;simp [Oc]⟩,by simp,fun x hx=>by simp at hx;subst hx;simp⟩
theorem c5t:Ca [⟨1,[97],[],false⟩] 0=true:=by decide+kernel
theorem c5u:vvV [⟨1,[97],[],false⟩] 0:=⟨c5s,c5t,fun n=>by
 cases n with
 |zero=>simp [tW]
 |succ n=>rw[tW];simp [Ab,wL]⟩
theorem c5v{q:UInt8→Prop}(h:q 0):∃c:UInt8,(0:Int)=(c.toNat:Int)∧q c:=⟨0,rfl,h⟩
def Pt:Sig:= {X:=Int×UInt8,args:=fun x=>[.q x.1,.int .u8 x.2.toNat],pre:=fun x=>0≤x.1∧x.1≤1000,Y:=List UInt8×Unit,post:=fun x y=>(y.1.length:Int)=x.1,res:=fun x y=> .str y.1,outs:=fun x y=>[.top,.top],keep:=false}
def VJ(x:Int×UInt8):LS:= {ι:=Int×List UInt8,inv:=fun i=>(0≤i.1∧i.1≤x.1)∧(i.2.length:Int)=x.1,regs:=fun i=>[(0,.q x.1),(1,.int .u8 x.2.toNat),(5,.sl true 0 1 UInt8 byA i.2),(6,.q i.1)],als:=[],meas:=fun i=>x.1.toNat-i.1.toNat}
theorem c5w:Ai G Tryz.prog 41 Pt:=
 vcFun_okP [] [(22,⟨UInt8,byA⟩)] false (fun x=>[(3,VJ x)]) Tryz.func41 rfl (by decide) trivial (fun(x:Int×UInt8)=>(∀(y:List UInt8×Unit),(y.1.length:Int)=x.1→True∧True∧True∧True)∧(0≤x.1∧x.1≤x.1∧(↑(1:Nat):Int)*x.1≤(2:Int)^(46:Nat)∧x.1≤(2:Int)^(46:Nat))∧∃(x_1:UInt8),0=(↑(UInt8.toNat x_1):Int)∧eA (VJ x) [.q x.1,AV.int IntKind.u8 (↑(UInt8.toNat x.2):Int),AV.sl true 0 1 UInt8 byA (List.replicate (Int.toNat x.1) x_1),.q 0]∧∀(i:Int×List UInt8),(0≤i.1∧i.1≤x.1)∧(i.2.length:Int)=x.1→Aa (decide (i.1<x.1)) ((0≤i.1∧i.1<(i.2.length:Int))∧Int.toNat i.1<i.2.length∧∀(x_2:UInt8),i.2[Int.toNat i.1]? =some x_2→∃(x':UInt8),((@List.nil AV)=[]∧(@List.nil AV)=[])∧(↑(UInt8.toNat x.2):Int)=(↑(UInt8.toNat x'):Int)∧inR .i64 (i.1+(1:Int))∧eN (VJ x) i [.q x.1,AV.int IntKind.u8 (↑(UInt8.toNat x.2):Int),AV.sl true 0 1 UInt8 byA (List.set i.2 (Int.toNat i.1) x'),.q (i.1+(1:Int))]) (∃(l:List UInt8),byL i.2=AV.sl false 0 1 UInt8 Kz l∧rA Pt x [.str l,.top,.top])) (fun x=>by kernel_rfl) fun(x:Int×UInt8) (hx:0≤x.1∧x.1≤1000)=>(by
 dsimp only[DM,byL,eA,eN,VJ,rA,Pt,As,Az,Bl,AV.q]
 obtain⟨n,c⟩:=x;dsimp only at hx ⊢
 obtain⟨h1,h2⟩:=hx
 (repeat' first|refine c5v ?_|(with_reducible first|rfl|exact True.intro|apply AK|apply And.intro|((first|apply AA|apply AI|apply AB|apply AJ)<;>intro _))|(apply Av<;>intro _)|apply AH|refine Ae () ?_ ?_|((first|apply AO|apply AN|apply AM|apply AL|apply AG|apply AF|apply AE|apply AD|apply AC)<;>try dsimp only)|apply Ae|(refine Prod.forall.2 ?_;intro _;try dsimp only)|(intro _;try dsimp only))
 all_goals first
  |rfl
  |omega
  |exact()
  |(simp;omega)
  |(simp only[List.length_set];omega)
  |((try simp only[An,List.length_set,List.length_replicate]);omega)
  |skip)
def VK:Sig:= {X:=List UInt8×Int×Int×List Int,args:=fun x=>[.box 0 (cur x.1 x.2.1 x.2.2.1),AQ x.2.2.2],pre:=fun x=>Af x.1 x.2.1∧x.2.2.2≠[]∧x.2.2.2.length<2^30,Y:=Int×Int×Int,post:=fun x y=>y.1∈x.2.2.2∧Af x.1 y.2.1,res:=fun x y=> .q y.1,outs:=fun x y=>[.box 0 (cur x.1 y.2.1 y.2.2),.top],keep:=true}
theorem c5x:Ai G Tryz.prog 42 VK:=
 vcFun_okP [(75,0,Ec)] [] false (fun x=>[]) Tryz.func42 rfl (by decide) ⟨HK,trivial⟩ (fun(x:List UInt8×Int×Int×List Int)=>True∧cA Ec [.box 0 (cur x.1 x.2.1 x.2.2.1),.q (x.2.2.2.length:Int)] fun x_1 y=>(0≤y.1∧y.1<(x.2.2.2.length:Int))∧∀(e:Int),x.2.2.2[Int.toNat y.1]? =some e→rA VK x [.q e,.box 0 (cur x_1.1 y.2.1 y.2.2),.top]) (fun x=>by kernel_rfl) fun(x:List UInt8×Int×Int×List Int) (hx:Af x.1 x.2.1∧x.2.2.2≠[]∧x.2.2.2.length<2^30)=>(by
 dsimp only[DM,cA,cur,AQ,rA,Ec,VK,As,Az,mvL,lnL,mvE,lnE,AV.q]
 obtain⟨b,i,h,l⟩:=x;dsimp only at hx ⊢
 obtain⟨hx,hn,hl⟩:=hx
 have hp:0<l.length:=by cases l with|nil=>exact(hn rfl).elim|cons _ _=>simp
 (repeat' first|(with_reducible first|rfl|exact True.intro|apply AK|apply And.intro|((first|apply AA|apply AI|apply AB|apply AJ)<;>intro _))|(apply Av<;>intro _)|apply AH|refine Ae () ?_ ?_|((first|apply AO|apply AN|apply AM|apply AL|apply AG|apply AF|apply AE|apply AD|apply AC)<;>try dsimp only)|apply Ae|(refine Prod.forall.2 ?_;intro _;try dsimp only)|(intro _;try dsimp only))
 all_goals(repeat(rename(_∧_)∧Af _ _=>hq;obtain⟨⟨_,_⟩,_⟩:=hq))
 all_goals first
  |rfl
  |assumption
  |exact Bm ‹_›
  |omega
  |skip)
def JA:Sig:= {X:=List UInt8,args:=fun x=>[.sl false 0 1 UInt8 byA x],pre:=fun x=>x.length≤2^21,Y:=List Nd×Int,post:=fun x y=>vvV y.1 y.2,res:=fun x y=> .tup [nds y.1,.q y.2],outs:=fun x y=>[.top],keep:=true}
def Pu(x:List UInt8):LS:= {ι:=List Nd×Int,inv:=fun i=>tkB i.1∧0≤i.2∧i.2≤i.1.length,regs:=fun i=>[(5,nds i.1),(7,.q i.2)],als:=[],meas:=fun i=>i.1.length-i.2.toNat}
theorem c5y:Ai G Tryz.prog 7 JA:=
 vcFun_okP [(31,0,Js),(32,0,a1l),(33,0,Vq),(34,0,DW)] [(24,⟨Nd,ndA true⟩)] false (fun x=>[(6,Pu x)]) Tryz.func7 rfl (by decide) ⟨ZY,a9g,a1o,Qt,trivial⟩ (fun(x:List UInt8)=>True∧cA Js [byL x] fun x_1 y=>∃(x_2:Value×List UInt8×Int×Int),Af x_2.2.1 x_2.2.2.1∧(y.2=y.2∧y.2=x_2.1)∧byL x_1=byL x_2.2.1∧0=x_2.2.2.1∧y.1=x_2.2.2.2∧∀(y_1:List Nd×Int×Int),tkB y_1.1∧Af x_2.2.1 y_1.2.1→y.2=y.2∧∃(x_3:Value×List UInt8×Int×Int×List Nd),(Af x_3.2.1 x_3.2.2.1∧BH x_3.2.2.2.2∧x_3.2.2.2.2.length≤(300:Nat))∧(y.2=y.2∧y.2=x_3.1)∧byL x_2.2.1=byL x_3.2.1∧y_1.2.1=x_3.2.2.1∧y_1.2.2=x_3.2.2.2.1∧nds y_1.1=nds x_3.2.2.2.2∧∀(y_2:Int×Int×Int),(0≤y_2.1∧y_2.1≤(x_3.2.2.2.2.length:Int))∧Af x_3.2.1 y_2.2.1→y.2=y.2∧Aa (decide (y_2.1≥(y_1.1.length:Int))) (eA (Pu x) [nds y_1.1,.q 0]∧∀(i:List Nd×Int),tkB i.1∧0≤i.2∧i.2≤(i.1.length:Int)→Aa (decide (i.2<(i.1.length:Int))) ((0≤i.2∧i.2<(i.1.length:Int))∧∀(e:Nd),i.1[Int.toNat i.2]? =some e→cA DW [.q e.kind] fun x_4 y=>Aa (Bf x_4) (rA JA x [.tup [nds i.1,.q i.2],.top]) (inR .i64 (i.2+(1:Int))∧eN (Pu x) i [nds i.1,.q (i.2+(1:Int))])) (∃(x_4:Nd),1=x_4.kind∧ #[(97:UInt8)].toList=x_4.text∧x_4.kids=[]∧false=x_4.blank∧rA JA x [.tup [Bj [x_4],.q 0],.top])) ((0≤y_2.1∧y_2.1<(y_1.1.length:Int))∧∀(e:Nd),y_1.1[Int.toNat y_2.1]? =some e→cA DW [.q e.kind] fun x_4 y=>Aa (!Bf x_4) (eA (Pu x) [nds y_1.1,.q 0]∧∀(i:List Nd×Int),tkB i.1∧0≤i.2∧i.2≤(i.1.length:Int)→Aa (decide (i.2<(i.1.length:Int))) ((0≤i.2∧i.2<(i.1.length:Int))∧∀(e:Nd),i.1[Int.toNat i.2]? =some e→cA DW [.q e.kind] fun x_5 y=>Aa (Bf x_5) (rA JA x [.tup [nds i.1,.q i.2],.top]) (inR .i64 (i.2+(1:Int))∧eN (Pu x) i [nds i.1,.q (i.2+(1:Int))])) (∃(x_5:Nd),1=x_5.kind∧ #[(97:UInt8)].toList=x_5.text∧x_5.kids=[]∧false=x_5.blank∧rA JA x [.tup [Bj [x_5],.q 0],.top])) (rA JA x [.tup [nds y_1.1,.q y_2.1],.top]))) (fun x=>by kernel_rfl) fun(x:List UInt8) (hx:x.length≤2^21)=>(by
 dsimp only[DM,byL,cA,cur,eA,eN,Pu,Br,nds,Bj,rA,Js,JA,DW,As,Az,mvL,lnL,mvE,lnE,Bl,AV.q]
 have hx:x.length≤2^21:=hx
 (repeat' first|refine a6M ?_|(with_reducible first|rfl|exact True.intro|apply AK|apply And.intro|((first|apply AA|apply AI|apply AB|apply AJ)<;>intro _))|(apply Av<;>intro _)|apply AH|refine Ae () ?_ ?_|((first|apply AO|apply AN|apply AM|apply AL|apply AG|apply AF|apply AE|apply AD|apply AC)<;>try dsimp only)|apply Ae|(refine Prod.forall.2 ?_;intro _;try dsimp only)|(intro _;try dsimp only))
 all_goals(try(repeat(rename(_:List Nd)[_]? =some _=>hq;revert hq;rename(_:List Nd)[_]? =some _=>hr;intro hq;rw[hr] at hq;cases hq)))
 all_goals(repeat(rename tkB _∧Af _ _=>hq;obtain⟨_,_⟩:=hq))
 all_goals(repeat(rename tkB _∧0≤_∧_=>hq;obtain⟨_,_,_⟩:=hq))
 all_goals(try(have hC:=b0f ‹tkB _›;have hC3:=hC.l3))
 all_goals first
  |rfl
  |exact hx
  |exact ZZ hx
  |(with_reducible assumption)
  |exact c5u
  |exact hC.ok
  |exact b0g ‹_› (by omega) ‹_[Int.toNat _]? =some _› ‹_›
  |exact b0g ‹tkB _› (by omega) ‹_› ‹_›
  |omega
  |((try simp only[An]);omega)
  |skip)
def Pv:Sig:= {X:=List UInt8,args:=fun x=>[.sl false 0 1 UInt8 byA x],pre:=fun x=>x.length≤2^21,Y:=List Nd×Int×List UInt8×List UInt8×Int,post:=fun x y=>vvB y.1∧y.2.2.1.length≤50∧y.2.2.2.1.length≤50,res:=fun x y=> .tup [nds y.1,.q y.2.1,.str y.2.2.1,.str y.2.2.2.1,.q y.2.2.2.2],outs:=fun x y=>[.top],keep:=true}
theorem c5z:Ai G Tryz.prog 10 Pv:=
 vcFun_okP [(31,0,Js),(40,0,Jh),(41,0,Pt),(42,0,VK),(43,0,a1m),(33,0,Vq)] [(42,⟨List UInt8,Be⟩),(38,⟨Int,Bx⟩)] false (fun x=>[]) Tryz.func10 rfl (by decide) ⟨ZY,LY,c5w,c5x,a9h,a1o,trivial⟩ (fun(x:List UInt8)=>True∧cA Js [byL x] fun x_1 y=>∃(x_2:List UInt8),#[].toList=x_2∧∃(x_3:List UInt8),#[(118:UInt8),97,114,32,97,32,61].toList=x_3∧∃(x_4:List UInt8),#[(105:UInt8),102,32,40].toList=x_4∧∃(x_5:List UInt8),#[(114:UInt8),101,116,117,114,110,32].toList=x_5∧∃(x_6:List UInt8),#[(7:UInt8)].toList=x_6∧∃(x_7:List UInt8×Int×Int×List (List UInt8)),(Af x_7.1 x_7.2.1∧x_7.2.2.2≠[]∧x_7.2.2.2.length<(1073741824:Nat))∧y.2=y.2∧byL x_1=byL x_7.1∧0=x_7.2.1∧y.1=x_7.2.2.1∧AV.sl false 0 1 (List UInt8) (fun(x:List UInt8)=>fzL (Be x)) [x_2,x_3,x_4,x_5,x_6]=Ig x_7.2.2.2∧∀(y_1:List UInt8×Int×Int),y_1.1∈x_7.2.2.2∧Af x_7.1 y_1.2.1→y.2=y.2∧cA Pt [.q 41,AV.int IntKind.u8 (97:Int)] fun x_8 y_2=>∃(x_9:List UInt8),#[].toList=x_9∧∃(x_10:List UInt8),#[(59:UInt8)].toList=x_10∧∃(x_11:List UInt8),#[(41:UInt8),32,123].toList=x_11∧∃(x_12:List UInt8),y_2.1=x_12∧∃(x_13:List UInt8×Int×Int×List (List UInt8)),(Af x_13.1 x_13.2.1∧x_13.2.2.2≠[]∧x_13.2.2.2.length<(1073741824:Nat))∧y.2=y.2∧byL x_7.1=byL x_13.1∧y_1.2.1=x_13.2.1∧y_1.2.2=x_13.2.2.1∧AV.sl false 0 1 (List UInt8) (fun(x:List UInt8)=>fzL (Be x)) [x_9,x_10,x_11,x_12]=Ig x_13.2.2.2∧∀(y_3:List UInt8×Int×Int),y_3.1∈x_13.2.2.2∧Af x_13.1 y_3.2.1→y.2=y.2∧∃(x_14:Int),0=x_14∧∃(x_15:Int),4=x_15∧∃(x_16:Int),60=x_16∧∃(x_17:Int),61=x_17∧∃(x_18:Int),(-1:Int)=x_18∧∃(x_19:Int),2=x_19∧∃(x_20:List UInt8×Int×Int×List Int),(Af x_20.1 x_20.2.1∧x_20.2.2.2≠[]∧x_20.2.2.2.length<(1073741824:Nat))∧y.2=y.2∧byL x_13.1=byL x_20.1∧y_3.2.1=x_20.2.1∧y_3.2.2=x_20.2.2.1∧AV.sl false 0 1 Int (fun(x:Int)=>fzL (Bx x)) [x_14,x_15,x_16,x_17,x_18,x_19]=AQ x_20.2.2.2∧∀(y_4:Int×Int×Int),y_4.1∈x_20.2.2.2∧Af x_20.1 y_4.2.1→y.2=y.2∧∃(x_21:Value×List UInt8×Int×Int),Af x_21.2.1 x_21.2.2.1∧(y.2=y.2∧y.2=x_21.1)∧byL x_20.1=byL x_21.2.1∧y_4.2.1=x_21.2.2.1∧y_4.2.2=x_21.2.2.2∧∀(y_5:List Nd×Int×Int),stK y_5.1∧Af x_21.2.1 y_5.2.1→y.2=y.2∧∃(x_22:Value×List UInt8×Int×Int×List Nd),(Af x_22.2.1 x_22.2.2.1∧BH x_22.2.2.2.2∧x_22.2.2.2.2.length≤(300:Nat))∧(y.2=y.2∧y.2=x_22.1)∧byL x_21.2.1=byL x_22.2.1∧y_5.2.1=x_22.2.2.1∧y_5.2.2=x_22.2.2.2.1∧AV.sl false 0 4 Nd (fun(x:Nd)=>fzL (ndA true x)) y_5.1=nds x_22.2.2.2.2∧∀(y_6:Int×Int×Int),(0≤y_6.1∧y_6.1≤(x_22.2.2.2.2.length:Int))∧Af x_22.2.1 y_6.2.1→y.2=y.2∧rA Pv x [.tup [AV.sl false 0 4 Nd (fun(x:Nd)=>fzL (ndA true x)) y_5.1,.q y_6.1,.str y_1.1,.str y_3.1,.q y_4.1],.top]) (fun x=>by kernel_rfl) fun(x:List UInt8) (hx:x.length≤2^21)=>(by
 dsimp only[DM,byL,cA,cur,AQ,Br,nds,rA,Pt,Js,Pv,Ig,As,Az,mvL,lnL,mvE,lnE,AV.q]
 have hx:x.length≤2^21:=hx
 (repeat' first|(with_reducible first|rfl|exact True.intro|apply AK|apply And.intro|((first|apply AA|apply AI|apply AB|apply AJ)<;>intro _))|(apply Av<;>intro _)|apply AH|refine Ae () ?_ ?_|((first|apply AO|apply AN|apply AM|apply AL|apply AG|apply AF|apply AE|apply AD|apply AC)<;>try dsimp only)|apply Ae|(refine Prod.forall.2 ?_;intro _;try dsimp only)|(intro _;try dsimp only))
 all_goals first
  |rfl
  |exact hx
  |exact ZZ hx
  |exact And.right ‹_∧Af _ _›
  |exact(Ni (And.left ‹stK _∧Af _ _›)).ok
  |exact(Ni (And.left ‹stK _∧Af _ _›)).l3.2
  |exact⟨Ni (And.left ‹stK _∧Af _ _›),by have:=And.left ‹_∈_∧Af _ _›;omega⟩
  |exact Ni (And.left ‹stK _∧Af _ _›)
  |(rename _=[]=>hq;cases hq;done)
  |exact(show(97:Int)=((97:UInt8).toNat:Int) from rfl)
  |(have hm:=And.left (show _∈([[],[118,97,114,32,97,32,61],_,_,_]:List (List UInt8))∧Af _ _ by assumption);exact Nat.le_trans (JK (n:=20) hm (by decide)) (by decide))
  |(have hm:=And.left (show _∈([[],[59],_,_]:List (List UInt8))∧Af _ _ by assumption);simp only[List.mem_cons,List.not_mem_nil,or_false] at hm;rcases hm with h|h|h|h<;>rw[h]<;>(try simp only[List.length_cons,List.length_nil])<;>omega)
  |(simp;done)
  |(decide)
  |exact()
  |skip)
def Pw:Sig:= {X:=List UInt8,args:=fun x=>[.sl false 0 1 UInt8 byA x],pre:=fun x=>x.length≤2^21,Y:=List Nd×Int,post:=fun x y=>vvB y.1,res:=fun x y=> .tup [nds y.1,.q y.2],outs:=fun x y=>[.top],keep:=true}
theorem c5A:Ai G Tryz.prog 12 Pw:=
 vcFun_okP [(31,0,Js),(43,0,a1m),(33,0,Vq)] [] false (fun x=>[]) Tryz.func12 rfl (by decide) ⟨ZY,a9h,a1o,trivial⟩ (fun(x:List UInt8)=>True∧cA Js [byL x] fun x_1 y=>∃(x_2:Value×List UInt8×Int×Int),Af x_2.2.1 x_2.2.2.1∧(y.2=y.2∧y.2=x_2.1)∧byL x_1=byL x_2.2.1∧0=x_2.2.2.1∧y.1=x_2.2.2.2∧∀(y_1:List Nd×Int×Int),stK y_1.1∧Af x_2.2.1 y_1.2.1→y.2=y.2∧∃(x_3:Value×List UInt8×Int×Int×List Nd),(Af x_3.2.1 x_3.2.2.1∧BH x_3.2.2.2.2∧x_3.2.2.2.2.length≤(300:Nat))∧(y.2=y.2∧y.2=x_3.1)∧byL x_2.2.1=byL x_3.2.1∧y_1.2.1=x_3.2.2.1∧y_1.2.2=x_3.2.2.2.1∧AV.sl false 0 4 Nd (fun(x:Nd)=>fzL (ndA true x)) y_1.1=nds x_3.2.2.2.2∧∀(y_2:Int×Int×Int),(0≤y_2.1∧y_2.1≤(x_3.2.2.2.2.length:Int))∧Af x_3.2.1 y_2.2.1→y.2=y.2∧rA Pw x [.tup [AV.sl false 0 4 Nd (fun(x:Nd)=>fzL (ndA true x)) y_1.1,.q y_2.1],.top]) (fun x=>by kernel_rfl) fun(x:List UInt8) (hx:x.length≤2^21)=>(by
 dsimp only[DM,byL,cA,cur,Br,nds,rA,Js,Pw,As,Az,mvL,lnL,mvE,lnE,AV.q]
 have hx:x.length≤2^21:=hx
 (repeat' first|(with_reducible first|rfl|exact True.intro|apply AK|apply And.intro|((first|apply AA|apply AI|apply AB|apply AJ)<;>intro _))|(apply Av<;>intro _)|apply AH|refine Ae () ?_ ?_|((first|apply AO|apply AN|apply AM|apply AL|apply AG|apply AF|apply AE|apply AD|apply AC)<;>try dsimp only)|apply Ae|(refine Prod.forall.2 ?_;intro _;try dsimp only)|(intro _;try dsimp only))
 all_goals first
  |rfl
  |exact hx
  |exact ZZ hx
  |exact And.right ‹_∧Af _ _›
  |exact(Ni (And.left ‹stK _∧Af _ _›)).ok
  |exact(Ni (And.left ‹stK _∧Af _ _›)).l3.2
  |exact Ni (And.left ‹stK _∧Af _ _›)
  |skip)
theorem c5B(h:(c.toNat:Int)≠32):Cv [c]=[c]:=by
 have:(c != 32)=true:=by
  rw[bne_iff_ne];rintro rfl;exact h rfl
 simp [Cv,this]
theorem c5C(h:(c.toNat:Int)=32):Cv [c]=[]:=by
 have:c=32:=UInt8.toNat_inj.1 (by show c.toNat=32;omega)
 subst this;rfl
theorem c5D(h0:0≤i)(hc:x[i.toNat]? =some c)(h:(c.toNat:Int)≠32):Cv (x.take i.toNat)++[c]=Cv (x.take (i+1).toNat):=by
 rw[Dd h0,ED hc,Ii,c5B h]
theorem c5E(h0:0≤i)(hc:x[i.toNat]? =some c)(h:(c.toNat:Int)=32):Cv (x.take i.toNat)=Cv (x.take (i+1).toNat):=by
 rw[Dd h0,ED hc,Ii,c5C h];simp
theorem c5F(x:List UInt8):(Cv x).length≤x.length:=List.length_filter_le _ _
def brI(x:List UInt8)(i:Int)(o:List UInt8):Prop:=(0≤i∧i≤x.length)∧o=Cv (x.take i.toNat)
theorem c5G:brI x 0 []:=⟨by omega,rfl⟩
theorem b0h(h:brI x i o):(0≤i∧i≤x.length)∧o.length≤x.length:=by
 refine⟨h.1,?_⟩
 have:=c5F (x.take i.toNat)
 rw[List.length_take] at this
 rw[h.2];omega
theorem VL(h:brI x i o)(hc:x[i.toNat]? =some c)(hn:(c.toNat:Int)≠32):brI x (i+1) (o++[c]):=
 ⟨by have:=h.1;have:=(Ek hc).1;omega,by rw[h.2];exact c5D h.1.1 hc hn⟩
theorem c5H(h:brI x i o)(hc:x[i.toNat]? =some c)(hn:(c.toNat:Int)=32):brI x (i+1) o:=
 ⟨by have:=h.1;have:=(Ek hc).1;omega,by rw[h.2];exact c5E h.1.1 hc hn⟩
theorem c5I(h:brI x i o)(hl:¬i<x.length):o=Cv x:=by
 rw[h.2,List.take_of_length_le (by omega)]
def LA:Sig:= {X:=List UInt8×Unit,args:=fun x=>[.str x.1],pre:=fun x=>x.1.length≤2^40,Y:=Unit,post:=fun x y=>True,res:=fun x y=> .str (Cv x.1),outs:=fun x y=>[.top],keep:=false}
def RH(x:List UInt8×Unit):LS:= {ι:=Int×List UInt8,inv:=fun i=>brI x.1 i.1 i.2,regs:=fun i=>[(0,.str x.1),(3,.sl true 0 1 UInt8 byA i.2),(4,.q i.1)],als:=[],meas:=fun i=>x.1.length-i.1.toNat}
theorem c5J:Ai G Tryz.prog 19 LA:=
 vcFun_okP [] [(22,⟨UInt8,byA⟩)] false (fun x=>[(3,RH x)]) Tryz.func19 rfl (by decide) trivial (fun(x:List UInt8×Unit)=>(∀(y:Unit),True→True∧True∧True)∧eA (RH x) [.str x.1,AV.sl true 0 1 UInt8 byA [],.q 0]∧∀(i:Int×List UInt8),brI x.1 i.1 i.2→Aa (decide (i.1<(x.1.length:Int))) ((0≤i.1∧i.1<(x.1.length:Int))∧∀(c:UInt8),x.1[Int.toNat i.1]? =some c→Aa ((↑(UInt8.toNat c):Int) != (32:Int)) ((0≤i.1∧i.1<(x.1.length:Int))∧∀(c:UInt8),x.1[Int.toNat i.1]? =some c→∃(x_1:UInt8),(↑(UInt8.toNat c):Int)=(↑(UInt8.toNat x_1):Int)∧∃(zs:List UInt8),AV.sl true 0 1 UInt8 byA [x_1]=AV.sl true 0 1 UInt8 byA zs∧BI byA∧Bb (i.2.length+zs.length) (1:Nat)∧inR .i64 (i.1+(1:Int))∧eN (RH x) i [.str x.1,AV.sl true 0 1 UInt8 byA (i.2++zs),.q (i.1+(1:Int))]) (inR .i64 (i.1+(1:Int))∧eN (RH x) i [.str x.1,AV.sl true 0 1 UInt8 byA i.2,.q (i.1+(1:Int))])) (∃(l:List UInt8),byL i.2=AV.sl false 0 1 UInt8 Kz l∧rA LA x [.str l,.top])) (fun x=>by kernel_rfl) fun(x:List UInt8×Unit) (hx:x.1.length≤2^40)=>(by
 dsimp only[DM,byL,eA,eN,RH,rA,LA,As,Az,Bl,AV.q]
 obtain⟨x,_⟩:=x;dsimp only at hx ⊢
 have hx:x.length≤2^40:=hx
 (repeat' first|(with_reducible first|rfl|exact True.intro|apply AK|apply And.intro|((first|apply AA|apply AI|apply AB|apply AJ)<;>intro _))|(apply Av<;>intro _)|apply AH|refine Ae () ?_ ?_|((first|apply AO|apply AN|apply AM|apply AL|apply AG|apply AF|apply AE|apply AD|apply AC)<;>try dsimp only)|apply Ae|(refine Prod.forall.2 ?_;intro _;try dsimp only)|(intro _;try dsimp only))
 all_goals(try(repeat(rename x[_]? =some _=>hq;revert hq;rename x[_]? =some _=>hr;intro hq;rw[hr] at hq;cases hq)))
 all_goals first
  |rfl
  |exact c5G
  |exact VL ‹_› ‹_› ‹_›
  |(refine VL ‹_› ‹_› ?_;rename(_ != _)=true=>hq;simpa using hq)
  |(refine VL ‹_› ‹_› ?_;rename _≠_=>hq;exact hq)
  |(refine VL ‹_› ?_ ?_<;>first|assumption|omega)
  |exact c5H ‹_› ‹_› ‹_›
  |exact c5I ‹_› ‹_›
  |(have hq:=b0h ‹brI _ _ _›;simp only[Bb,List.length_cons,List.length_nil];omega)
  |(have hq:=b0h ‹brI _ _ _›;(try simp only[An]);omega)
  |exact()
  |skip)
theorem a1N:∀ {l:List (List UInt8)},l.flatten.length=lnS l
 |[]=>rfl
 |s::l=>by
  have:=a1N (l:=l)
  simp only[List.flatten_cons,List.length_append,lnS,List.map_cons,List.sum_cons] at this ⊢;omega
theorem b0i{l:List (List UInt8)}{e:List UInt8}(h0:0≤i)(he:l[i.toNat]? =some e):((l.take i.toNat).flatten.length+e.length≤lnS l)∧(l.take i.toNat).flatten++e=(l.take (i+1).toNat).flatten:=by
 have h1:(l.take i.toNat).flatten++e=(l.take (i+1).toNat).flatten:=by
  rw[Dd h0,ED he];simp
 refine⟨?_,h1⟩
 have h2:(l.take (i+1).toNat).flatten.length≤l.flatten.length:=by
  conv=>rhs;rw[←List.take_append_drop (i+1).toNat l]
  rw[List.flatten_append,List.length_append];omega
 rw[←h1,List.length_append,a1N (l:=l)] at h2
 exact h2
def Px:Sig:= {X:=List (List UInt8)×Unit,args:=fun x=>[Ig x.1],pre:=fun x=>lnS x.1≤2^60∧x.1.length≤2^60,Y:=Unit,post:=fun x y=>True,res:=fun x y=> .str x.1.flatten,outs:=fun x y=>[.top],keep:=false}
def VM(x:List (List UInt8)×Unit):LS:= {ι:=Int,inv:=fun i=>0≤i∧i≤x.1.length,regs:=fun i=>[(0,Ig x.1),(3,.str (x.1.take i.toNat).flatten),(4,.q i)],als:=[],meas:=fun i=>x.1.length-i.toNat}
theorem c5K:Ai G Tryz.prog 16 Px:=
 vcFun_okP [] [] false (fun x=>[(3,VM x)]) Tryz.func16 rfl (by decide) trivial (fun(x:List (List UInt8)×Unit)=>(∀(y:Unit),True→True∧True∧True)∧eA (VM x) [Ig x.1,.str #[].toList,.q 0]∧∀(i:Int),0≤i∧i≤(x.1.length:Int)→Aa (decide (i<(x.1.length:Int))) ((0≤i∧i<(x.1.length:Int))∧∀(e:List UInt8),x.1[Int.toNat i]? =some e→(↑((List.flatten (List.take (Int.toNat i) x.1)).length+e.length):Int)≤Ag∧inR .i64 (i+1)∧eN (VM x) i [Ig x.1,.str (List.flatten (List.take (Int.toNat i) x.1)++e),.q (i+1)]) (rA Px x [.str (List.flatten (List.take (Int.toNat i) x.1)),.top])) (fun x=>by kernel_rfl) fun(x:List (List UInt8)×Unit) (hx:lnS x.1≤2^60∧x.1.length≤2^60)=>(by
 dsimp only[eA,eN,VM,rA,Px,Ig,As,Az,Bl,Ag,AV.q]
 obtain⟨x,_⟩:=x;dsimp only at hx ⊢
 obtain⟨h1,h2⟩:=hx
 (repeat' first|(with_reducible first|rfl|exact True.intro|apply AK|apply And.intro|((first|apply AA|apply AI|apply AB|apply AJ)<;>intro _))|(apply Av<;>intro _)|apply AH|refine Ae () ?_ ?_|((first|apply AO|apply AN|apply AM|apply AL|apply AG|apply AF|apply AE|apply AD|apply AC)<;>try dsimp only)|apply Ae|(refine Prod.forall.2 ?_;intro _;try dsimp only)|(intro _;try dsimp only))
 all_goals first
  |rfl
  |omega
  |exact(b0i (by omega) ‹_›).2
  |(have he:=(show(x:List (List UInt8))[Int.toNat _]? =some _ by assumption);have hq:=(b0i (by omega) he).1;(try simp only[An]);omega)
  |(rw[List.take_of_length_le (by omega)];done)
  |((try simp only[An]);omega)
  |skip)
structure vlP2 (p:Pc) (v:List Int):Prop where
 ln:v.length=p.rules.length
 rl:p.rules.length≤100
 vl:∀(i:Nat) k r,v[i]? =some k→p.rules[i]? =some r→(0≤k∧k≤r.vals-1)∧r.vals≤3
def LB:Sig:= {X:=Pc×List Int,args:=fun x=>[.agg (pcA false x.1),AQ x.2],pre:=fun x=>vlP2 x.1 x.2,Y:=Unit,post:=fun x y=>True,res:=fun x y=> .bool true,outs:=fun x y=>[.top,.top],keep:=false}
def VN(x:Pc×List Int):LS:= {ι:=Int,inv:=fun i=>0≤i∧i≤x.2.length,regs:=fun i=>[(1,AQ x.2),(2,.box 0 (pcA false x.1)),(5,.q i)],als:=[],meas:=fun i=>x.2.length-i.toNat}
theorem c5L:Ai G Tryz.prog 52 LB:=
 vcFun_okP [(45,0,BU)] [] false (fun x=>[(4,VN x)]) Tryz.func52 rfl (by decide) ⟨Ir,trivial⟩ (fun(x:Pc×List Int)=>(∀(y:Unit),True→True∧True∧True∧True)∧Aa ((x.2.length:Int) != (x.1.rules.length:Int)) (rA LB x [.bool false,.top,.top]) (eA (VN x) [AQ x.2,.box 0 (pcA false x.1),.q 0]∧∀(i:Int),0≤i∧i≤(x.2.length:Int)→Aa (decide (i<(x.2.length:Int))) (true=true∧true=true∧(0≤i∧i<(x.2.length:Int))∧∀(e:Int),x.2[Int.toNat i]? =some e→(0≤i∧i<(x.1.rules.length:Int))∧∀(e_1:Ru),x.1.rules[Int.toNat i]? =some e_1→inR .i64 (e_1.vals-1)∧∃(x_1:Int×Int×Int),True∧e=x_1.1∧0=x_1.2.1∧e_1.vals-1=x_1.2.2∧∃(y0:Unit),(∀(y:Unit),True→AV.bool (inn x_1.1 x_1.2.1 x_1.2.2)=AV.bool (inn x_1.1 x_1.2.1 x_1.2.2))∧true=true∧Aa (!inn x_1.1 x_1.2.1 x_1.2.2) (rA LB x [.bool false,.top,.top]) (inR .i64 (i+1)∧eN (VN x) i [AQ x.2,.box 0 (pcA false x.1),.q (i+1)])) (rA LB x [.bool true,.top,.top]))) (fun x=>by kernel_rfl) fun(x:Pc×List Int) (hx:vlP2 x.1 x.2)=>(by
 dsimp only[CC,eA,eN,VN,AQ,pcA,rA,CB,LB,CD,CE,As,Az,Bl,AV.q]
 obtain⟨p,v⟩:=x;dsimp only at hx ⊢
 have hx:vlP2 p v:=hx
 have h1:=hx.ln;have h2:=hx.rl
 (repeat' first|(with_reducible first|rfl|exact True.intro|apply AK|apply And.intro|((first|apply AA|apply AI|apply AB|apply AJ)<;>intro _))|(apply Av<;>intro _)|apply AH|refine Ae () ?_ ?_|((first|apply AO|apply AN|apply AM|apply AL|apply AG|apply AF|apply AE|apply AD|apply AC)<;>try dsimp only)|apply Ae|(refine Prod.forall.2 ?_;intro _;try dsimp only)|(intro _;try dsimp only))
 all_goals first
  |rfl
  |omega
  |(have hq:=hx.vl _ _ _ ‹_› ‹_›;(try simp only[An]);omega)
  |(exfalso;have hq:=hx.vl _ _ _ ‹_› ‹_›;rename inn _ _ _=false=>hf;rw[BW.2 hq.1] at hf;cases hf)
  |((try simp only[An]);omega)
  |skip)
def LC:Sig:= {X:=Pc×List Int,args:=fun x=>[.agg (pcA false x.1),AQ x.2],pre:=fun x=>(Dc x.1=true∧pcS x.1)∧vlP2 x.1 x.2∧Cz x.1.chunks≤2^61,Y:=Unit,post:=fun x y=>True,res:=fun x y=>Ds (CG x.1 x.2),outs:=fun x y=>[.top,.top],keep:=false}
theorem c5M:Ai G Tryz.prog 17 LC:=
 vcFun_okP [(13,0,Dm),(52,0,LB),(53,0,Nc)] [(42,⟨List UInt8,Be⟩)] false (fun x=>[]) Tryz.func17 rfl (by decide) ⟨a1v,c5L,c3B,trivial⟩ (fun(x:Pc×List Int)=>(∀(y:Unit),True→(∀(x:List UInt8),True∧True)∧True∧True∧True)∧cA Dm [.agg (pcA false x.1)] fun x_1 y=>Aa (!Dc x_1) (rA LC x [Ds [],.top,.top]) (cA LB [.agg (pcA false x.1),AQ x.2] fun x_2 y=>cA Nc [.agg (pcA false x.1),AQ x.2] fun x_3 y=>rA LC x [Ds (CG x_3.1 x_3.2),.top,.top])) (fun x=>by kernel_rfl) fun(x:Pc×List Int) (hx:(Dc x.1=true∧pcS x.1)∧vlP2 x.1 x.2∧Cz x.1.chunks≤2^61)=>(by
 dsimp only[cA,CC,AQ,Ds,pcA,rA,CB,Dm,Nc,LC,LB,CD,CE,As,Az,mvL,lnL,mvE,lnE,mvG,mvH,lnG,lnH]
 obtain⟨p,v⟩:=x;dsimp only at hx ⊢
 obtain⟨⟨h1,h2⟩,h3,h4⟩:=hx
 (repeat' first|refine Re p ?_|refine Rf p ?_|(with_reducible first|rfl|exact True.intro|apply AK|apply And.intro|((first|apply AA|apply AI|apply AB|apply AJ)<;>intro _))|(apply Av<;>intro _)|apply AH|refine Ae () ?_ ?_|((first|apply AO|apply AN|apply AM|apply AL|apply AG|apply AF|apply AE|apply AD|apply AC)<;>try dsimp only)|apply Ae|(refine Prod.forall.2 ?_;intro _;try dsimp only)|(intro _;try dsimp only))
 all_goals first
  |rfl
  |omega
  |(exfalso;rename Dc p=false=>hf;rw[h1] at hf;cases hf)
  |exact⟨a0s h1,h3.ln,h4⟩
  |exact h3
  |exact h2
  |skip)
def Gx:Sig:= {X:=Pc×Unit,args:=fun x=>[.agg (pcA false x.1),.agg (pcA false x.1)],pre:=fun x=>pcS x.1,Y:=Unit,post:=fun x y=>True,res:=fun x y=> .bool true,outs:=fun x y=>[.top,.top],keep:=false}
def VO(x:Pc×Unit):LS:= {ι:=Int,inv:=fun i=>0≤i∧i≤x.1.rules.length,regs:=fun i=>[(2,.box 0 (pcA false x.1)),(3,.box 0 (pcA false x.1)),(5,.q i)],als:=[],meas:=fun i=>x.1.rules.length-i.toNat}
def VP(x:Pc×Unit):LS:= {ι:=Int,inv:=fun i=>0≤i∧i≤x.1.chunks.length,regs:=fun i=>[(2,.box 0 (pcA false x.1)),(3,.box 0 (pcA false x.1)),(6,.q i)],als:=[],meas:=fun i=>x.1.chunks.length-i.toNat}
def VQ(x:Pc×Unit):LS:= {ι:=Int,inv:=fun i=>0≤i∧i≤x.1.spans.length,regs:=fun i=>[(2,.box 0 (pcA false x.1)),(3,.box 0 (pcA false x.1)),(7,.q i)],als:=[],meas:=fun i=>x.1.spans.length-i.toNat}
def VR(x:Pc×Unit):LS:= {ι:=Int,inv:=fun i=>0≤i∧i≤x.1.ties.length,regs:=fun i=>[(2,.box 0 (pcA false x.1)),(3,.box 0 (pcA false x.1)),(8,.q i)],als:=[],meas:=fun i=>x.1.ties.length-i.toNat}
theorem c5N:Ai G Tryz.prog 14 Gx:=
 vcFun_okP [] [] false (fun x=>[(4,VO x),(9,VP x),(14,VQ x),(19,VR x)]) Tryz.func14 rfl (by decide) trivial (fun(x:Pc×Unit)=>(∀(y:Unit),True→True∧True∧True∧True)∧Aa (x.1.ind != x.1.ind) (rA Gx x [.bool false,.top,.top]) (Aa ((x.1.rules.length:Int) != (x.1.rules.length:Int)) (rA Gx x [.bool false,.top,.top]) (Aa ((x.1.chunks.length:Int) != (x.1.chunks.length:Int)) (rA Gx x [.bool false,.top,.top]) (Aa ((x.1.spans.length:Int) != (x.1.spans.length:Int)) (rA Gx x [.bool false,.top,.top]) (Aa ((x.1.ties.length:Int) != (x.1.ties.length:Int)) (rA Gx x [.bool false,.top,.top]) (eA (VO x) [.box 0 (pcA false x.1),.box 0 (pcA false x.1),.q 0]∧∀(i:Int),0≤i∧i≤(x.1.rules.length:Int)→Aa (decide (i<(x.1.rules.length:Int))) (true=true∧true=true∧(0≤i∧i<(x.1.rules.length:Int))∧∀(e:Ru),x.1.rules[Int.toNat i]? =some e→(0≤i∧i<(x.1.rules.length:Int))∧∀(e_1:Ru),x.1.rules[Int.toNat i]? =some e_1→Aa (!(true&&e.vals==e_1.vals&&e.cost==e_1.cost)) (rA Gx x [.bool false,.top,.top]) (inR .i64 (i+1)∧eN (VO x) i [.box 0 (pcA false x.1),.box 0 (pcA false x.1),.q (i+1)])) (eA (VP x) [.box 0 (pcA false x.1),.box 0 (pcA false x.1),.q 0]∧∀(i:Int),0≤i∧i≤(x.1.chunks.length:Int)→Aa (decide (i<(x.1.chunks.length:Int))) (true=true∧true=true∧(0≤i∧i<(x.1.chunks.length:Int))∧∀(e:Ch),x.1.chunks[Int.toNat i]? =some e→(0≤i∧i<(x.1.chunks.length:Int))∧∀(e_1:Ch),x.1.chunks[Int.toNat i]? =some e_1→Aa (!(true&&e.text==e_1.text&&(true&&e.rule==e_1.rule&&e.fr==e_1.fr&&e.space==e_1.space&&e.nest==e_1.nest))) (rA Gx x [.bool false,.top,.top]) (inR .i64 (i+1)∧eN (VP x) i [.box 0 (pcA false x.1),.box 0 (pcA false x.1),.q (i+1)])) (eA (VQ x) [.box 0 (pcA false x.1),.box 0 (pcA false x.1),.q 0]∧∀(i:Int),0≤i∧i≤(x.1.spans.length:Int)→Aa (decide (i<(x.1.spans.length:Int))) (true=true∧true=true∧(0≤i∧i<(x.1.spans.length:Int))∧∀(e:Sn),x.1.spans[Int.toNat i]? =some e→(0≤i∧i<(x.1.spans.length:Int))∧∀(e_1:Sn),x.1.spans[Int.toNat i]? =some e_1→Aa (!(true&&e.fr==e_1.fr&&e.tuu==e_1.tuu&&e.cost==e_1.cost)) (rA Gx x [.bool false,.top,.top]) (inR .i64 (i+1)∧eN (VQ x) i [.box 0 (pcA false x.1),.box 0 (pcA false x.1),.q (i+1)])) (eA (VR x) [.box 0 (pcA false x.1),.box 0 (pcA false x.1),.q 0]∧∀(i:Int),0≤i∧i≤(x.1.ties.length:Int)→Aa (decide (i<(x.1.ties.length:Int))) (true=true∧true=true∧(0≤i∧i<(x.1.ties.length:Int))∧∀(e:Ti),x.1.ties[Int.toNat i]? =some e→(0≤i∧i<(x.1.ties.length:Int))∧∀(e_1:Ti),x.1.ties[Int.toNat i]? =some e_1→Aa (!(true&&e.kid==e_1.kid&&e.up==e_1.up)) (rA Gx x [.bool false,.top,.top]) (inR .i64 (i+1)∧eN (VR x) i [.box 0 (pcA false x.1),.box 0 (pcA false x.1),.q (i+1)])) (rA Gx x [.bool true,.top,.top])))))))))) (fun x=>by kernel_rfl) fun(x:Pc×Unit) (hx:pcS x.1)=>(by
 dsimp only[CC,eA,eN,VP,VQ,VR,VO,pcA,rA,CB,Gx,CD,CE,As,Az,Bl,AV.q]
 obtain⟨p,_⟩:=x;dsimp only at hx ⊢
 have hx:pcS p:=hx
 (repeat' first|(with_reducible first|rfl|exact True.intro|apply AK|apply And.intro|((first|apply AA|apply AI|apply AB|apply AJ)<;>intro _))|(apply Av<;>intro _)|apply AH|refine Ae () ?_ ?_|((first|apply AO|apply AN|apply AM|apply AL|apply AG|apply AF|apply AE|apply AD|apply AC)<;>try dsimp only)|apply Ae|(refine Prod.forall.2 ?_;intro _;try dsimp only)|(intro _;try dsimp only))
 all_goals(try(repeat(rename(_:List Ru)[_]? =some _=>hq;revert hq;rename(_:List Ru)[_]? =some _=>hr;intro hq;rw[hr] at hq;cases hq)))
 all_goals(try(repeat(rename(_:List Ch)[_]? =some _=>hq;revert hq;rename(_:List Ch)[_]? =some _=>hr;intro hq;rw[hr] at hq;cases hq)))
 all_goals(try(repeat(rename(_:List Sn)[_]? =some _=>hq;revert hq;rename(_:List Sn)[_]? =some _=>hr;intro hq;rw[hr] at hq;cases hq)))
 all_goals(try(repeat(rename(_:List Ti)[_]? =some _=>hq;revert hq;rename(_:List Ti)[_]? =some _=>hr;intro hq;rw[hr] at hq;cases hq)))
 all_goals first
  |rfl
  |omega
  |(have hq:=hx.1.1;have hq2:=hx.1.2;have hq3:=hx.2.1.1;(try simp only[An]);omega)
  |(exfalso;rename(_&&_)=false=>hf;simp at hf;done)
  |(exfalso;rename _≠_=>hf;exact hf rfl)
  |(exfalso;rename(_==_)=false=>hf;rw[beq_self_eq_true] at hf;cases hf;done)
  |skip)
def Kr(n:Nat):Sig:= {X:=List Nd×Int,args:=fun x=>[nds x.1,.q x.2],pre:=fun x=>(BH x.1∧x.1.length≤2^30)∧(x.1.length≤n∧(Ca x.1 x.2=true→tW x.1 n x.2≤2^60)),Y:=Unit,post:=fun x y=>True,res:=fun x y=> .str (if Ca x.1 x.2 then Dg x.1 n x.2 else []),outs:=fun x y=>[.top,.top],keep:=false}
theorem c5O(n:Nat):Ai G Tryz.prog 9 (Kr n):=
 vcFun_okP [(35,0,IX),(39,0,(Ph n))] [] false (fun x=>[]) Tryz.func9 rfl (by decide) ⟨a8Z,(c2M n),trivial⟩ (fun(x:List Nd×Int)=>(∀(y:Unit),True→True∧True∧True∧True)∧cA IX [nds x.1,.q x.2] fun x_1 y=>Aa (!Ca x_1.1 x_1.2) (rA (Kr n) x [.str #[].toList,.top,.top]) (cA (Ph n) [nds x.1,.q x.2] fun x_2 y=>rA (Kr n) x [.str (Dg x_2.1 n x_2.2),.top,.top])) (fun x=>by kernel_rfl) fun(x:List Nd×Int) (hx:(BH x.1∧x.1.length≤2^30)∧(x.1.length≤n∧(Ca x.1 x.2=true→tW x.1 n x.2≤2^60)))=>(by
 dsimp only[cA,Br,nds,rA,Ph,Kr,IX,As,Az,mvL,lnL,mvE,lnE,AV.q]
 obtain⟨ns,k⟩:=x;dsimp only at hx ⊢
 obtain⟨⟨h1,h2⟩,h3,h4⟩:=hx
 (repeat' first|(with_reducible first|rfl|exact True.intro|apply AK|apply And.intro|((first|apply AA|apply AI|apply AB|apply AJ)<;>intro _))|(apply Av<;>intro _)|apply AH|refine Ae () ?_ ?_|((first|apply AO|apply AN|apply AM|apply AL|apply AG|apply AF|apply AE|apply AD|apply AC)<;>try dsimp only)|apply Ae|(refine Prod.forall.2 ?_;intro _;try dsimp only)|(intro _;try dsimp only))
 all_goals first
  |rfl
  |omega
  |exact h1
  |exact h2
  |(rw[if_neg (by simp [*])];done)
  |(rw[if_pos ‹_›];done)
  |(have hv:=Vn ‹Ca ns k=true›;have hr:=BB.1 hv.1.1;exact⟨hv.1,by omega,hv.2,h4 ‹_›⟩)
  |skip)
end Go.My
end
section
set_option maxHeartbeats 4000000
namespace Go.My
open Go.Eng Go.Proofs
variable {G:GInv}
variable {a e i k kind:Int}{c:BC}{n:Nat}{s t u z:Bs}{x:Nd}
structure cqP (c:BC) (n:Nat) (s:Bs) (x:Nd) (a:Int):Prop where
 cn:cnP c n s x (min (a+4) 40)
 ar:inA a x.kids
theorem b0j(h:cqP c n s x a)(hc:x.kids[i.toNat]? =some k):a+4+4*k≤2^40:=h.ar.2 k (Bm hc)
theorem VS(h:CI c n s x a i t)(hi:i<x.kids.length):∃k,x.kids[i.toNat]? =some k:=by
 have:=Rl h
 exact⟨_,List.getElem?_eq_getElem (by omega)⟩
theorem c5P(h:CI c n s x a i t)(hi:i<x.kids.length):t.text.length+6≤2^61:=by
 obtain⟨k,hk⟩:=VS h hi;exact a7V h hk
theorem c5Q{w:Bs}(hw:isB (Aq (32::x.text) t) w)(h:CI c n s x a i t)(hx:cnP c n s x a)(hi:i<x.kids.length):bB w:=by
 obtain⟨k,hk⟩:=VS h hi;rw[hw];exact DD (a0P hx h hk)
def cqJ(c:BC)(n:Nat)(s:Bs)(x:Nd)(a:Int)(z:Bs)(i:Int)(t:Bs):Prop:=∃k,cnJ c n s x a z i k t
theorem c5R(h:CI c n s x a i t)(hl:i<x.kids.length)(hi:¬i>0):cqJ c n s x a t i t:=by
 obtain⟨k,hk⟩:=VS h hl;exact⟨k,a7W h hk hi⟩
theorem c5S{w:Bs}(h:CI c n s x (min (a+4) 40) i t)(hu:isB (Ba (Au c.rd s) 1 true (a+4) w) u)(hw:isB (Aq (32::x.text) t) w)(hl:i<x.kids.length)(hi:i>0):cqJ c n s x (min (a+4) 40) t i u:=by
 obtain⟨k,hk⟩:=VS h hl
 rw[hw] at hu
 exact⟨k,a0Q h (by rw[hu];exact Po (by omega)) hk hi⟩
theorem RI(h:cqJ c n s x a z i t)(hk:x.kids[i.toNat]? =some k):cnJ c n s x a z i k t:=by
 obtain⟨k',h'⟩:=h
 have:=h'.1.2
 rw[hk] at this;cases this;exact h'
theorem c5T(h:cqJ c n s x a z i t)(hx:cnP c n s x a):t.chunks.length≤79∧t.rules.length≤8:=by
 obtain⟨k,h⟩:=h
 have:=(UX hx h).1
 exact⟨this.ch,this.ru⟩
theorem c5U(h:cqJ c n s x (min (a+4) 40) z i t)(hx:cqP c n s x a)(hk:x.kids[i.toNat]? =some k):vsP c.ns n t k (a+4):=a1D (a0R (RI h hk) hx.cn) hx.ar.1.1 (b0j hx hk)
theorem c5V(h:cqJ c n s x (min (a+4) 40) z i t)(hu:vsQ c n t k (a+4) u)(hx:cqP c n s x a)(hk:x.kids[i.toNat]? =some k):bB u:=a0T (RI h hk) (Nf hu) hx.cn
theorem c5W(h:cqJ c n s x a z i t)(hx:cnP c n s x a)(hk:x.kids[i.toNat]? =some k):0≤k∧k<c.ns.length:=(a7X (RI h hk) hx).1
theorem c5X{e:Nd}(h:cqJ c n s x (min (a+4) 40) z i t)(hu:vsQ c n t k (a+4) u)(he:c.ns[k.toNat]? =some e)(hk:x.kids[i.toNat]? =some k)(h7:¬e.kind=7):cnK c n s x (min (a+4) 40) z i u t.chunks.length e.kind:=a7Y (RI h hk) (Nf hu) he h7
theorem c5Y{v:Bs}{e:Nd}(h:cqJ c n s x (min (a+4) 40) z i t)(hv:isB (CF (DI t.rules.length u) (Au c.rd s) u) v)(hu:vsQ c n t k (a+4) u)(he:c.ns[k.toNat]? =some e)(hx:cqP c n s x a)(hk:x.kids[i.toNat]? =some k)(h7:e.kind=7):cnK c n s x (min (a+4) 40) z i v t.chunks.length e.kind:=by
 have h2:=RI h hk
 have hkp:=hx.cn.kd k (Bm hk)
 refine a7Z h2 (Nf hu) ?_ hx.cn he h7
 rw[←UO (a:=min (a+4) 40) hkp.1 hkp.2.1 (.inl (by rw[Gb he];exact h7)),←hu];exact hv
theorem c5Z(h:cnK c n s x a z i t e kind)(hx:cnP c n s x a):(1≤kind∧kind≤11)∧0≤e:=by
 obtain⟨k,u,⟨h1,h2⟩,h3,_⟩:=h
 have:=BW.1 (hx.kd k (Bm h1.1.2)).2.2
 exact⟨by rw[h2];exact this,by omega⟩
theorem a1O(h:cnK c n s x a z i t e kind)(hx:cnP c n s x a)(hk:(¬kind>3∨¬(t.chunks.length:Int)>e)∨¬(t.spans.length:Int)<40):CI c n s x a (i+1) t:=by
 have:=UZ h hx
 have hv:=c5Z h hx
 by_cases h3:kind>3
 ·rw[if_neg (by omega),a0D (by omega)] at this;exact this
 ·rw[if_pos (by omega)] at this;exact this
theorem b0k{r1:List Ru}{r2:List Ch}{r3:List Sn}{r4:List Ti}{r5:List UInt8}(h:cnK c n s x a z i ⟨r1,r2,r3,r4,r5⟩ e kind)(hx:cnP c n s x a)(hk:kind>3)(h2:(r2.length:Int)>e)(h3:(r3.length:Int)<40):CI c n s x a (i+1) ⟨r1,r2,r3++[⟨e,(r2.length:Int)-1,1⟩],r4,r5⟩:=by
 have:=UZ h hx
 rw[if_neg (by omega),a7t (f:=e) (s:=⟨r1,r2,r3,r4,r5⟩) (by show(r2.length:Int)-1≥e;omega) h3] at this;exact this
theorem c6a(h:CI c n s x a i t)(hx:cnP c n s x a)(hi:¬i<x.kids.length):isB (Kf c.ns c.rd (bV c.ns c.rd n) x a s) t:=(a8a h hx hi).1
theorem c6b(h:cnK c n s x a z i t e kind)(hx:cnP c n s x a):t.spans.length≤40∧t.chunks.length≤79:=⟨(UY h hx).ok.sp,(UY h hx).ok.ch⟩
theorem c6c:BI snA:=fun _=>rfl
theorem c6d{b:BC}{r1:List Ru}{r2:List Ch}{r3:List Sn}{r4:List Ti}{r5:List UInt8}{xa rk:Int}{kd:Int}{tx:List UInt8}{ks:List Int}{bl:Bool}(h:cnK b n s x a z i ⟨r1,r2,r3,r4,r5⟩ e kind)(hx:cnP b n s x a)(hk:kind>3)(h2:(r2.length:Int)>e)(h3:(r3.length:Int)<40):
 ∃(x_3:Sn),e=x_3.fr∧(r2.length:Int)-1=x_3.tuu∧1=x_3.cost∧∃(zs:List Sn),AV.sl true 0 3 Sn snA [x_3]=AV.sl true 0 3 Sn snA zs∧BI snA∧Bb (r3.length+zs.length) 24∧true=true∧∃(i_3:List Ru×List Ch×List Sn×List Ti×List UInt8×Int),CI b n s x a (i+1) (zBW i_3)∧
  (AV.sl false 0 4 Nd (ndA false) b.ns=AV.sl false 0 4 Nd (ndA false) b.ns∧b.ind=b.ind∧AV.sl true 0 2 Ru ruA r1=AV.sl true 0 2 Ru ruA (zBW i_3).rules∧AV.sl true 0 5 Ch chA r2=AV.sl true 0 5 Ch chA (zBW i_3).chunks∧AV.sl true 0 3 Sn snA (r3++zs)=AV.sl true 0 3 Sn snA (zBW i_3).spans∧AV.sl true 0 2 Ti tiA r4=AV.sl true 0 2 Ti tiA (zBW i_3).ties∧r5=(zBW i_3).text∧(!b.rd)=(!b.rd)∧xa=xa∧kd=kd∧tx=tx∧AV.sl false 0 1 Int Bx ks=AV.sl false 0 1 Int Bx ks∧bl=bl∧rk=rk∧i=i∧True)∧True:=by
 have hr:=(UY h hx).ok.sp
 refine⟨⟨e,(r2.length:Int)-1,1⟩,rfl,rfl,rfl,[⟨e,(r2.length:Int)-1,1⟩],rfl,c6c,?_,rfl,(r1,r2,r3++[⟨e,(r2.length:Int)-1,1⟩],r4,r5,0),b0k h hx hk h2 h3,⟨rfl,rfl,rfl,rfl,rfl,rfl,rfl,rfl,rfl,rfl,rfl,rfl,rfl,rfl,rfl,trivial⟩,trivial⟩
 unfold Bb;simp only[List.length_cons,List.length_nil];omega
attribute [local irreducible] CI cnJ cnK cqJ
def c6e(n:Nat)(x:BC×List Ru×List Ch×List Sn×List Ti×List UInt8×Nd×Int)(i:List Ru×List Ch×List Sn×List Ti×List UInt8×Int):LS:= {ι:=List Ru×List Ch×List Sn×List Ti×List UInt8×Int,inv:=fun j=>CI x.1 n (xC x) x.2.2.2.2.2.2.1 (min (x.2.2.2.2.2.2.2+4) 40) (zI i+1) (zBW j),regs:=fun j=>[(0,suA x.1 (zBW j)),(2,.int .i64 x.2.2.2.2.2.2.2),(4,.box 0 (ndA false x.2.2.2.2.2.2.1)),(6,.int .i64 (Au x.1.rd (xC x))),(7,.int .i64 (zI i))],als:=[],meas:=fun _=>0}
def VT(n:Nat)(x:BC×List Ru×List Ch×List Sn×List Ti×List UInt8×Nd×Int)(i:List Ru×List Ch×List Sn×List Ti×List UInt8×Int):LS:= {ι:=List Ru×List Ch×List Sn×List Ti×List UInt8×Int×Int,inv:=fun j=>cnK x.1 n (xC x) x.2.2.2.2.2.2.1 (min (x.2.2.2.2.2.2.2+4) 40) (zBW i) (zI i) (wB j) j.2.2.2.2.2.1 j.2.2.2.2.2.2,regs:=fun j=>[(0,suA x.1 (wB j)),(8,.int .i64 j.2.2.2.2.2.1),(10,.int .i64 j.2.2.2.2.2.2),(2,.int .i64 x.2.2.2.2.2.2.2),(4,.box 0 (ndA false x.2.2.2.2.2.2.1)),(6,.int .i64 (Au x.1.rd (xC x))),(7,.int .i64 (zI i))],als:=[],meas:=fun _=>0}
def VU(n:Nat)(x:BC×List Ru×List Ch×List Sn×List Ti×List UInt8×Nd×Int)(i:List Ru×List Ch×List Sn×List Ti×List UInt8×Int):LS:= {ι:=List Ru×List Ch×List Sn×List Ti×List UInt8×Unit,inv:=fun j=>cqJ x.1 n (xC x) x.2.2.2.2.2.2.1 (min (x.2.2.2.2.2.2.2+4) 40) (zBW i) (zI i) ⟨j.1,j.2.1,j.2.2.1,j.2.2.2.1,j.2.2.2.2.1⟩,regs:=fun j=>[(0,suA x.1 ⟨j.1,j.2.1,j.2.2.1,j.2.2.2.1,j.2.2.2.2.1⟩),(2,.int .i64 x.2.2.2.2.2.2.2),(4,.box 0 (ndA false x.2.2.2.2.2.2.1)),(6,.int .i64 (Au x.1.rd (xC x))),(7,.int .i64 (zI i))],als:=[],meas:=fun _=>0}
def Nj(n:Nat)(x:BC×List Ru×List Ch×List Sn×List Ti×List UInt8×Nd×Int):LS:= {ι:=List Ru×List Ch×List Sn×List Ti×List UInt8×Int,inv:=fun i=>CI x.1 n (xC x) x.2.2.2.2.2.2.1 (min (x.2.2.2.2.2.2.2+4) 40) (zI i) (zBW i),regs:=fun i=>[(0,suA x.1 (zBW i)),(2,.int .i64 x.2.2.2.2.2.2.2),(4,.box 0 (ndA false x.2.2.2.2.2.2.1)),(6,.int .i64 (Au x.1.rd (xC x))),(7,.int .i64 (zI i))],als:=[],meas:=fun i=>x.2.2.2.2.2.2.1.kids.length-(zI i).toNat,sub:=fun i=>[(200008,VU n x i),(200014,VT n x i),(100015,c6e n x i)]}
def a1P(n:Nat):Sig:= {X:=BC×BX (Nd×Int),args:=fun x=>[suA x.1 (xC x),.agg (ndA false x.2.2.2.2.2.2.1),.q x.2.2.2.2.2.2.2],pre:=fun x=>cqP x.1 n (xC x) x.2.2.2.2.2.2.1 x.2.2.2.2.2.2.2,Y:=BT,post:=fun x y=>isB (Kf x.1.ns x.1.rd (bV x.1.ns x.1.rd n) x.2.2.2.2.2.2.1 (min (x.2.2.2.2.2.2.2+4) 40) (xC x)) (yBW y),res:=fun x y=> .tup [],outs:=fun x y=>[suA x.1 (yBW y),.top,.top],keep:=true}
def RJ(n:Nat)(x:BC×BX (Nd×Int))(i:BX Int)(i_2:BX (Int×Int)):Prop:=∃(x_3:Sn),i_2.2.2.2.2.2.1=x_3.fr∧((↑((wB i_2).chunks.length):Int)-1=x_3.tuu∧1=x_3.cost∧(∃(zs:List Sn),oSn [x_3]=oSn zs∧(BI snA∧(Bb ((wB i_2).spans.length+zs.length) (24:Nat)∧(true=true∧(∃(i_3:BX Int),CI x.1 n (xC x) x.2.2.2.2.2.2.1 (min (x.2.2.2.2.2.2.2+(4:Int)) (40:Int)) (zI i+1) (zBW i_3)∧((nds x.1.ns=nds x.1.ns∧x.1.ind=x.1.ind∧oRu (wB i_2).rules=oRu (zBW i_3).rules∧oCh (wB i_2).chunks=oCh (zBW i_3).chunks∧oSn ((wB i_2).spans++zs)=oSn (zBW i_3).spans∧oTi (wB i_2).ties=oTi (zBW i_3).ties∧((wB i_2).text=(zBW i_3).text∧((!x.1.rd)= !x.1.rd∧x.2.2.2.2.2.2.2=x.2.2.2.2.2.2.2∧x.2.2.2.2.2.2.1.kind=x.2.2.2.2.2.2.1.kind∧x.2.2.2.2.2.2.1.text=x.2.2.2.2.2.2.1.text∧AQ x.2.2.2.2.2.2.1.kids=AQ x.2.2.2.2.2.2.1.kids∧x.2.2.2.2.2.2.1.blank=x.2.2.2.2.2.2.1.blank∧Au x.1.rd (xC x)=Au x.1.rd (xC x)∧zI i=zI i∧True)))∧True)))))))
theorem b0l(n:Nat)(hc:Ai G Go.Proofs.Tryz.prog 49 (CN n)):Ai G Tryz.prog 87 (a1P n):=
 vcFun_okP [(50,0,Cd),(48,0,EK),(47,0,DS),(49,0,(CN n)),(120,0,IZ)] [(29,⟨Sn,snA⟩)] false (fun x=>[(3,Nj n x)]) Tryz.func87 rfl (by decide) ⟨Pp,Rw,Ry,hc,a9P,trivial⟩ (fun(x:BC×BX (Nd×Int))=>True∧cA EK [(suA x.1 (xC x)),.q 2,.q 1] fun x_1 y=>eA (Nj n x) [(suA x_1.1 (yBW y)),.q x.2.2.2.2.2.2.2,.box 0 (ndA false x.2.2.2.2.2.2.1),.q (Au x_1.1.rd (xC x_1)),.q 0]∧∀(i:BX Int),CI x.1 n (xC x) x.2.2.2.2.2.2.1 (min (x.2.2.2.2.2.2.2+(4:Int)) (40:Int)) (zI i) (zBW i)→Aa (decide (zI i<(x.2.2.2.2.2.2.1.kids.length:Int))) (Aa (decide (zI i>0)) ((↑((1:Nat)+x.2.2.2.2.2.2.1.text.length):Int)≤Ag∧cA Cd [(suA x.1 (zBW i)),.str (#[(32:UInt8)].toList++x.2.2.2.2.2.2.1.text)] fun x_2 y=>inR .i64 (x.2.2.2.2.2.2.2+(4:Int))∧cA DS [(suA x_2.1 (yBW y)),.q (Au x.1.rd (xC x)),.q 1,.bool true,.q (x.2.2.2.2.2.2.2+(4:Int))] fun x_3 y=>eA (VU n x i) [(suA x_3.1 (yBW y)),.q x.2.2.2.2.2.2.2,.box 0 (ndA false x.2.2.2.2.2.2.1),.q (Au x.1.rd (xC x)),.q (zI i)]) (eA (VU n x i) [(suA x.1 (zBW i)),.q x.2.2.2.2.2.2.2,.box 0 (ndA false x.2.2.2.2.2.2.1),.q (Au x.1.rd (xC x)),.q (zI i)])∧∀(i_1:BX Unit),cqJ x.1 n (xC x) x.2.2.2.2.2.2.1 (min (x.2.2.2.2.2.2.2+(4:Int)) (40:Int)) (zBW i) (zI i) {rules:=i_1.1,chunks:=i_1.2.1,spans:=i_1.2.2.1,ties:=i_1.2.2.2.1,text:=i_1.2.2.2.2.1}→(0≤zI i∧zI i<(x.2.2.2.2.2.2.1.kids.length:Int))∧∀(e:Int),x.2.2.2.2.2.2.1.kids[Int.toNat (zI i)]? =some e→inR .i64 (x.2.2.2.2.2.2.2+(4:Int))∧cA (CN n) [.box 0 [nds x.1.ns,.q x.1.ind,oRu i_1.1,oCh i_1.2.1,oSn i_1.2.2.1,oTi i_1.2.2.2.1,.str i_1.2.2.2.2.1,.bool !x.1.rd],.q e,.q (x.2.2.2.2.2.2.2+(4:Int))] fun x_2 y=>true=true∧true=true∧(0≤zI i∧zI i<(x.2.2.2.2.2.2.1.kids.length:Int))∧∀(e:Int),x.2.2.2.2.2.2.1.kids[Int.toNat (zI i)]? =some e→(0≤e∧e<(x_2.1.ns.length:Int))∧∀(e_1:Nd),x_2.1.ns[Int.toNat e]? =some e_1→Aa (e_1.kind==7) (cA IZ [(suA x_2.1 (yBW y)),.q (i_1.1.length:Int),.q (Au x.1.rd (xC x))] fun x_3 y=>eA (VT n x i) [(suA x_3.1 (yBW y)),.q (i_1.2.1.length:Int),.q e_1.kind,.q x.2.2.2.2.2.2.2,.box 0 (ndA false x.2.2.2.2.2.2.1),.q (Au x.1.rd (xC x)),.q (zI i)]) (eA (VT n x i) [(suA x_2.1 (yBW y)),.q (i_1.2.1.length:Int),.q e_1.kind,.q x.2.2.2.2.2.2.2,.box 0 (ndA false x.2.2.2.2.2.2.1),.q (Au x.1.rd (xC x)),.q (zI i)])∧∀(i_2:BX (Int×Int)),cnK x.1 n (xC x) x.2.2.2.2.2.2.1 (min (x.2.2.2.2.2.2.2+(4:Int)) (40:Int)) (zBW i) (zI i) (wB i_2) i_2.2.2.2.2.2.1 i_2.2.2.2.2.2.2→Aa (decide (i_2.2.2.2.2.2.2>(3:Int))) (Aa (decide ((↑((wB i_2).chunks.length):Int)>i_2.2.2.2.2.2.1)) (Aa (decide ((↑((wB i_2).spans.length):Int)<(40:Int))) (true=true∧((inR .i64 ((↑((wB i_2).chunks.length):Int)-(1:Int))∧(RJ n x i i_2))∧inR .i64 ((↑((wB i_2).chunks.length):Int)-(1:Int))∧(RJ n x i i_2)∧(RJ n x i i_2)∧(RJ n x i i_2))∧∀(i_3:BX Int),CI x.1 n (xC x) x.2.2.2.2.2.2.1 (min (x.2.2.2.2.2.2.2+(4:Int)) (40:Int)) (zI i+1) (zBW i_3)→inR .i64 (zI i+1)∧eN (Nj n x) i [(suA x.1 (zBW i_3)),.q x.2.2.2.2.2.2.2,.box 0 (ndA false x.2.2.2.2.2.2.1),.q (Au x.1.rd (xC x)),.q (zI i+1)]) (inR .i64 (zI i+1)∧(eN (Nj n x) i [(suA x.1 (wB i_2)),.q x.2.2.2.2.2.2.2,.box 0 (ndA false x.2.2.2.2.2.2.1),.q (Au x.1.rd (xC x)),.q (zI i+1)]))) (inR .i64 (zI i+1)∧(eN (Nj n x) i [(suA x.1 (wB i_2)),.q x.2.2.2.2.2.2.2,.box 0 (ndA false x.2.2.2.2.2.2.1),.q (Au x.1.rd (xC x)),.q (zI i+1)]))) (inR .i64 (zI i+1)∧(eN (Nj n x) i [(suA x.1 (wB i_2)),.q x.2.2.2.2.2.2.2,.box 0 (ndA false x.2.2.2.2.2.2.1),.q (Au x.1.rd (xC x)),.q (zI i+1)]))) (rA (a1P n) x [.tup [],(suA x.1 (zBW i)),.top,.top])) (fun x=>by kernel_rfl) fun(x:BC×BX (Nd×Int)) (hx:cqP x.1 n (xC x) x.2.2.2.2.2.2.1 x.2.2.2.2.2.2.2)=>(by
 dsimp only[RJ,cA,CC,VT,Nj,VU,eA,eN,AQ,Br,nds,oCh,oRu,oSn,oTi,rA,CB,a1P,Cd,EK,DS,IZ,CN,CD,suA,CE,As,Az,mvL,lnL,mvE,lnE,mvG,mvH,lnG,lnH,Bl,Ag,AV.q]
 obtain⟨b,r,c,s,t,u,x,a⟩:=x;dsimp only[xC] at hx ⊢
 have hx:cqP b n ⟨r,c,s,t,u⟩ x a:=hx
 have h1:=hx.ar.1;have h2:=hx.cn.kl;have h3:=hx.cn.tl
 (repeat' first|exact c6d ‹_› hx.cn ‹_› ‹_› ‹_› |refine a7p ?_|(with_reducible first|rfl|exact True.intro|apply AK|apply And.intro|((first|apply AA|apply AI|apply AB|apply AJ)<;>intro _))|(apply Av<;>intro _)|apply AH|refine Ae () ?_ ?_|((first|apply AO|apply AN|apply AM|apply AL|apply AG|apply AF|apply AE|apply AD|apply AC)<;>try dsimp only)|apply Ae|(refine Prod.forall.2 ?_;intro _;try dsimp only)|(intro _;try dsimp only))
 all_goals(try(repeat(rename x.kids[_]? =some _=>hq;revert hq;rename x.kids[_]? =some _=>hr;intro hq;rw[hr] at hq;cases hq)))
 all_goals(try dsimp only[yBW,xC,zBW,zI,wB] at*)
 all_goals first
  |with_reducible rfl
  |with_reducible assumption
  |omega
  |exact DD hx.cn.rm
  |exact a7U hx.cn ‹_›
  |exact c5Q ‹_› ‹_› hx.cn ‹_›
  |exact c5R ‹_› ‹_› ‹_›
  |exact c5S ‹_› ‹_› ‹_› ‹_› ‹_›
  |exact c5U ‹_› hx ‹_›
  |exact c5V ‹_› ‹_› hx ‹_›
  |exact c5X ‹_› ‹_› ‹_› ‹_› ‹_›
  |exact c5Y ‹_› ‹_› ‹_› ‹_› hx ‹_› ‹_›
  |exact a1O ‹_› hx.cn (.inl (.inl ‹_›))
  |exact a1O ‹_› hx.cn (.inl (.inr ‹_›))
  |exact a1O ‹_› hx.cn (.inr ‹_›)
  |exact b0k ‹_› hx.cn ‹_› ‹_› ‹_›
  |exact c6a ‹_› hx.cn ‹_›
  |(rename CI _ _ _ _ _ _ _=>hz;clear hz;have hq:=Rl ‹CI _ _ _ _ _ _ _›;omega)
  |(have hq:=Rl ‹CI _ _ _ _ _ _ _›;(try have hk:=b0j hx ‹_›);(try simp only[An]);omega)
  |(have hq:=c5P ‹CI _ _ _ _ _ _ _› ‹_›;dsimp only at hq;(try simp only[An,List.length_append,List.length_cons,List.length_nil]);omega)
  |(have hq:=c5W ‹cqJ _ _ _ _ _ _ _ _› hx.cn ‹_›;(try simp only[An]);omega)
  |(have hq:=c6b ‹cnK _ _ _ _ _ _ _ _ _ _› hx.cn;dsimp only at hq;(try simp only[An,Bb,List.length_cons,List.length_nil]);omega)
  |(have hq:=c5T ‹cqJ _ _ _ _ _ _ _ _› hx.cn;dsimp only at hq;(try simp only[An]);omega)
  |exact()
  |rfl
  |skip)
end Go.My
end
section
namespace Go.My
open Go.Eng Go.Proofs
variable {G:GInv}
variable {L:List Nd}{k:Int}{n:Nat}
theorem c6f(n:Nat)(hc:Ai G Go.Proofs.Tryz.prog 49 (CN n)):Ai G Go.Proofs.Tryz.prog 87 (RB n):=
 ⟨⟨(b0l n hc).1.1,fun _ _ _ _=>trivial⟩,fun x hx=>(b0l n hc).2 x ⟨hx.cn,hx.ar⟩⟩
theorem c6g:Ai G Go.Proofs.Tryz.prog 49 (CN 0):=
 ⟨⟨⟨_,Go.Proofs.Tryz.func49,by kernel_rfl,by kernel_rfl⟩,fun x y _ _=>trivial⟩,fun x hx=>by
   exfalso
   have hx:vsP x.1.ns 0 (xC x) x.2.2.2.2.2.2.1 x.2.2.2.2.2.2.2:=hx
   have h1:=BB.1 hx.up.1
   have h2:=hx.lt
   omega⟩
theorem VV:∀n,Ai G Go.Proofs.Tryz.prog 49 (CN n)
 |0=>c6g
 |n+1=>c4R n (VV n) (c6f n (VV n))
def tVA:List UInt8:=[118,97,114,32,97,32,61]
def tSC:List UInt8:=[59]
structure buF (L:List Nd) (n:Nat) (k:Int) (p:Pc):Prop where
 ok:Di L k tVA tSC 2=true
 pk:Dc p=true
 ps:pcS p
 ru:p.rules.length≤8
 va:vlP2 p (Ic p)
 vz:vlP2 p (List.replicate p.rules.length 0)
 ct:Cz p.chunks≤2^30
 ls:∀v,lnS (CG p v)≤2^31∧(CG p v).length≤81
 pl:(Dg L n k).length≤2^24
 ba:Cv (CG p (Ic p)).flatten=Cv (tVA++Dg L n k++tSC)
 on:CG p (List.replicate p.rules.length 0)=[[32,32,118,97,114,32,97,32,61,32]++Dg L n k++tSC]
 ob:Cv ([32,32,118,97,114,32,97,32,61,32]++Dg L n k++tSC)=Cv (tVA++Dg L n k++tSC)
theorem c6h(h:vvV L k)(hn:300≤n):buF L n k (pfR L n k tVA tSC 2):=by
 have hpf:=VI (k:=k) (pre:=tVA) (post:=tSC) h.b hn (by decide)
 have e:=a1k (n:=n) h.v (ind:=2) (pre:=tVA) (post:=tSC) (by decide) (by decide) (by decide)
 have hQ:=Vo (ind:=2) hpf h.v (by decide) (by decide) (by decide)
 have hok:=UR hQ
 have hpc:=a0s hok
 have hch:=c3r hQ
 have hw:=h.w n
 have hpl:=c3s hQ.up hQ.lt hQ.vl
 have l1:tVA.length=7:=rfl
 have l2:tSC.length=1:=rfl
 rw[e.1]
 refine⟨e.2,hok,US hQ,hpc.rl,⟨?_,?_,?_⟩,⟨by simp,by have:=hpc.rl;omega,?_⟩,by omega,fun v=> ?_,by omega,?_,?_,?_⟩
 ·simp [Ic]
 ·have:=hpc.rl;omega
 ·intro i a r ha hr
  simp only[Ic,List.getElem?_map,Option.map_eq_some_iff] at ha
  obtain⟨r',h1,rfl⟩:=ha
  rw[hr] at h1;cases h1
  have:=(hpc.ru r (Bm hr)).1
  omega
 ·intro i a r ha hr
  have:=(hpc.ru r (Bm hr)).1
  rw[List.getElem?_replicate] at ha
  split at ha
  ·simp only[Option.some.injEq] at ha;omega
  ·cases ha
 ·have:=a7e (v:=v) hpc;omega
 ·rw[c3j,List.append_assoc]
 ·rw[c3l hpc (v:=List.replicate (bdP L n k tVA tSC 2).rules.length 0) fun i=>by
   rw[List.getD,List.getElem?_replicate];split<;>rfl]
  have e1:CU tVA=true:=by decide
  rw[e1]
  have e2:blk 2=[32,32]:=by decide
  rw[e2];simp [tVA]
 ·simp [Cv,tVA]
theorem c6i(h:vvV L k)(hn:300≤n):buF L n k (pfR L n k [118,97,114,32,97,32,61] [59] 2):=c6h h hn
theorem VW{p:Pc}{s:List UInt8}{i:Nat}(h:buF L n k p)(hs:(CG p (List.replicate p.rules.length 0))[i]? =some s):Cv s=Cv ([118,97,114,32,97,32,61]++Dg L n k++[59])∧s=[32,32,118,97,114,32,97,32,61,32]++Dg L n k++[59]:=by
 have:s=[32,32,118,97,114,32,97,32,61,32]++Dg L n k++[59]:=by
  rw[h.on] at hs
  cases i with
  |zero=>simp only[List.getElem?_cons_zero,Option.some.injEq] at hs;exact hs.symm
  |succ i=>simp at hs
 exact⟨by rw[this];exact h.ob,this⟩
theorem c6j{p:Pc}(h:buF L n k p):(CG p (List.replicate p.rules.length 0)).length=1:=by rw[h.on];rfl
theorem c6k{i:Int}{pre post:List UInt8}(h:vvB L)(hn:300≤n)(hp:pre.length≤50∧post.length≤50):pcS (pfR L n k pre post i):=by
 have hpf:=VI (k:=k) h hn hp
 cases e:Di L k pre post i with
 |false=>
  rw[pfR,if_neg (by rw[e];simp)]
  exact⟨⟨by decide,by decide⟩,⟨⟨by decide,by decide⟩,by decide⟩,fun r hr=>by cases hr⟩
 |true=>
  rw[pfR,if_pos e]
  simp only[Di,Bool.and_eq_true] at e
  exact US (Vo hpf e.1 e.2.1 e.2.2.1 e.2.2.2)
theorem c6l(h:vvB L):BH L:=h.ok
theorem c6m(h:vvB L):L.length≤2^30:=by have:=h.l3;omega
theorem c6n(hn:300≤n)(h:vvB L):L.length≤n:=by have:=h.l3;omega
theorem c6o(h:vvB L)(hv:Ca L k=true):tW L n k≤2^60:=a1M h.tx hv
attribute [local irreducible] pfR Dg Ca Cv CG
def Ja(n:Nat):Sig:= {X:=List UInt8,args:=fun x=>[.sl false 0 1 UInt8 byA x],pre:=fun x=>x.length<2^63∧300≤n,Y:=Unit,post:=fun x y=>True,res:=fun x y=> .bool true,outs:=fun x y=>[.top],keep:=false}
def c6p(n:Nat)(x:List UInt8):LS:= {ι:=List Nd×Int,inv:=fun i=>vvV i.1 i.2,regs:=fun i=>[(5,.box 0 (pcA true (pfR i.1 n i.2 [118,97,114,32,97,32,61] [59] 2))),(7,.str (Dg i.1 n i.2)),(19,Al (List.replicate (pfR i.1 n i.2 [118,97,114,32,97,32,61] [59] 2).rules.length 0)),(20,.str (CG (pfR i.1 n i.2 [118,97,114,32,97,32,61] [59] 2) (Ic (pfR i.1 n i.2 [118,97,114,32,97,32,61] [59] 2))).flatten)],als:=[],meas:=fun _=>0}
def VX(n:Nat)(x_3:(Pg n).X)(x_4:(Kr n).X)(x_9:Int):Prop:=cA Pk [.agg (pcA true (pfR x_3.1 n x_3.2.1 x_3.2.2.1 x_3.2.2.2.1 x_3.2.2.2.2))] fun x y=>cA LC [.agg (pcA true (pfR x_3.1 n x_3.2.1 x_3.2.2.1 x_3.2.2.2.1 x_3.2.2.2.2)),Al (Ic x)] fun x y=>cA Px [Ds (CG x.1 x.2)] fun x y=>true=true∧(∃(i:List Nd×Int),vvV i.1 i.2∧(((pfR x_3.1 n x_3.2.1 x_3.2.2.1 x_3.2.2.2.1 x_3.2.2.2.2).ind=(pfR i.1 n i.2 [(118:UInt8),97,114,32,97,32,61] [(59:UInt8)] (2:Int)).ind∧oRu (pfR x_3.1 n x_3.2.1 x_3.2.2.1 x_3.2.2.2.1 x_3.2.2.2.2).rules=oRu (pfR i.1 n i.2 [(118:UInt8),97,114,32,97,32,61] [(59:UInt8)] (2:Int)).rules∧oCh (pfR x_3.1 n x_3.2.1 x_3.2.2.1 x_3.2.2.2.1 x_3.2.2.2.2).chunks=oCh (pfR i.1 n i.2 [(118:UInt8),97,114,32,97,32,61] [(59:UInt8)] (2:Int)).chunks∧oSn (pfR x_3.1 n x_3.2.1 x_3.2.2.1 x_3.2.2.2.1 x_3.2.2.2.2).spans=oSn (pfR i.1 n i.2 [(118:UInt8),97,114,32,97,32,61] [(59:UInt8)] (2:Int)).spans∧oTi (pfR x_3.1 n x_3.2.1 x_3.2.2.1 x_3.2.2.2.1 x_3.2.2.2.2).ties=oTi (pfR i.1 n i.2 [(118:UInt8),97,114,32,97,32,61] [(59:UInt8)] (2:Int)).ties∧((if Ca x_4.1 x_4.2=true then Dg x_4.1 n x_4.2 else [])=Dg i.1 n i.2∧Al (List.replicate (Int.toNat (↑((pfR x_3.1 n x_3.2.1 x_3.2.2.1 x_3.2.2.2.1 x_3.2.2.2.2).rules.length):Int)) x_9)=Al (List.replicate ((pfR i.1 n i.2 [(118:UInt8),97,114,32,97,32,61] [(59:UInt8)] (2:Int)).rules.length) (0:Int))∧List.flatten x.1=List.flatten (CG (pfR i.1 n i.2 [(118:UInt8),97,114,32,97,32,61] [(59:UInt8)] (2:Int)) (Ic (pfR i.1 n i.2 [(118:UInt8),97,114,32,97,32,61] [(59:UInt8)] (2:Int))))∧True))∧True))
set_option maxHeartbeats 8000000 in
theorem c6q(n:Nat):Ai G Tryz.prog 3 (Ja n):=
 vcFun_okP [(6,0,OK),(7,0,JA),(8,0,(Pg n)),(9,0,(Kr n)),(10,0,Pv),(11,0,(VH n)),(12,0,Pw),(15,0,(Ly n)),(13,0,Dm),(14,0,Gx),(18,0,Pk),(17,0,LC),(16,0,Px),(19,0,LA)] [(38,⟨Int,Bx⟩)] false (fun x=>[(100013,c6p n x)]) Tryz.func3 rfl (by decide) ⟨c0P,c5y,(c2L n),(c5O n),c5z,(c5o n (VV n)),c5A,(c5p n (VV n)),a1v,c5N,c3y,c5M,c5K,c5J,trivial⟩ (fun(x:List UInt8)=>(∀(y:Unit),True→True∧True∧True)∧cA OK [byL x] fun x_1 y=>Aa (decide ((x_1.length:Int)>(1048576:Int))) (rA (Ja n) x [.bool true,.top]) (cA JA [byL x] fun x_2 y=>cA (Pg n) [nds y.1,.q y.2,.str #[(118:UInt8),97,114,32,97,32,61].toList,.str #[(59:UInt8)].toList,.q 2] fun x_3 y_1=>cA (Kr n) [nds y.1,.q y.2] fun x_4 y=>cA Pv [byL x] fun x_5 y=>cA (Pg n) [nds y.1,.q y.2.1,.str y.2.2.1,.str y.2.2.2.1,.q y.2.2.2.2] fun x_6 y_2=>cA (VH n) [nds y.1,.q y.2.1,.str y.2.2.1,.str y.2.2.2.1,.q y.2.2.2.2] fun x_7 y=>cA Pw [byL x] fun x_8 y=>(0≤(↑((pfR x_3.1 n x_3.2.1 x_3.2.2.1 x_3.2.2.2.1 x_3.2.2.2.2).rules.length):Int)∧(↑((pfR x_3.1 n x_3.2.1 x_3.2.2.1 x_3.2.2.2.1 x_3.2.2.2.2).rules.length):Int)≤(↑((pfR x_3.1 n x_3.2.1 x_3.2.2.1 x_3.2.2.2.1 x_3.2.2.2.2).rules.length):Int)∧(↑(8:Nat):Int)*(↑((pfR x_3.1 n x_3.2.1 x_3.2.2.1 x_3.2.2.2.1 x_3.2.2.2.2).rules.length):Int)≤(2:Int)^(46:Nat)∧(↑((pfR x_3.1 n x_3.2.1 x_3.2.2.1 x_3.2.2.2.1 x_3.2.2.2.2).rules.length):Int)≤(2:Int)^(46:Nat))∧∃(x_9:Int),0=x_9∧Aa (!Di x_3.1 x_3.2.1 x_3.2.2.1 x_3.2.2.2.1 x_3.2.2.2.2) (rA (Ja n) x [.bool false,.top]) (cA Dm [.agg (pcA true (pfR x_3.1 n x_3.2.1 x_3.2.2.1 x_3.2.2.2.1 x_3.2.2.2.2))] fun x_10 y_3=>Aa (!Dc x_10) (rA (Ja n) x [.bool false,.top]) (Aa (!Di x_6.1 x_6.2.1 x_6.2.2.1 x_6.2.2.2.1 x_6.2.2.2.2==Di x_7.1 x_7.2.1 x_7.2.2.1 x_7.2.2.2.1 x_7.2.2.2.2) (rA (Ja n) x [.bool false,.top]) (cA Gx [.agg (pcA true (pfR x_6.1 n x_6.2.1 x_6.2.2.1 x_6.2.2.2.1 x_6.2.2.2.2)),.agg (pcA true (pfR x_7.1 n x_7.2.1 x_7.2.2.1 x_7.2.2.2.1 x_7.2.2.2.2))] fun x_11 y_4=>cA (Kr n) [nds y.1,.q y.2] fun x_12 y_5=>cA (Ly n) [nds y.1,.q y.2] fun x_13 y=>Aa (!(if Ca x_12.1 x_12.2=true then Dg x_12.1 n x_12.2 else [])==if Ca x_13.1 x_13.2=true then Dg x_13.1 n x_13.2 else []) (rA (Ja n) x [.bool false,.top]) (true=true∧((VX n x_3 x_4 x_9)∧(VX n x_3 x_4 x_9)∧(VX n x_3 x_4 x_9))∧∀(i:List Nd×Int),vvV i.1 i.2→cA LC [.agg (pcA true (pfR i.1 n i.2 [(118:UInt8),97,114,32,97,32,61] [(59:UInt8)] (2:Int))),Al (List.replicate ((pfR i.1 n i.2 [(118:UInt8),97,114,32,97,32,61] [(59:UInt8)] (2:Int)).rules.length) (0:Int))] fun x_14 y=>(↑((7:Nat)+(Dg i.1 n i.2).length):Int)≤Ag∧(↑((#[(118:UInt8),97,114,32,97,32,61].toList++Dg i.1 n i.2).length+(1:Nat)):Int)≤Ag∧cA LA [.str (#[(118:UInt8),97,114,32,97,32,61].toList++Dg i.1 n i.2++ #[(59:UInt8)].toList)] fun x_15 y=>cA LA [.str (List.flatten (CG (pfR i.1 n i.2 [(118:UInt8),97,114,32,97,32,61] [(59:UInt8)] (2:Int)) (Ic (pfR i.1 n i.2 [(118:UInt8),97,114,32,97,32,61] [(59:UInt8)] (2:Int)))))] fun x_16 y=>Aa (Cv x_16.1==Cv x_15.1) (Aa ((↑((CG x_14.1 x_14.2).length):Int)==(1:Int)) (((0:Int)≤(0:Int)∧0<(↑((CG x_14.1 x_14.2).length):Int))∧(0:Nat)<(CG x_14.1 x_14.2).length∧∀(x_17:List UInt8),(CG x_14.1 x_14.2)[(0:Nat)]? =some x_17→cA LA [.str x_17] fun x_18 y=>Aa (Cv x_18.1==Cv x_15.1) (((0:Int)≤(0:Int)∧0<(↑((CG x_14.1 x_14.2).length):Int))∧(0:Nat)<(CG x_14.1 x_14.2).length∧∀(x_19:List UInt8),(CG x_14.1 x_14.2)[(0:Nat)]? =some x_19→(↑((10:Nat)+(Dg i.1 n i.2).length):Int)≤Ag∧(↑((#[(32:UInt8),32,118,97,114,32,97,32,61,32].toList++Dg i.1 n i.2).length+(1:Nat)):Int)≤Ag∧rA (Ja n) x [.bool (x_19== #[(32:UInt8),32,118,97,114,32,97,32,61,32].toList++Dg i.1 n i.2++ #[(59:UInt8)].toList),.top]) (rA (Ja n) x [.bool false,.top])) (rA (Ja n) x [.bool false,.top])) (rA (Ja n) x [.bool false,.top]))))))) (fun x=>by kernel_rfl) fun(x:List UInt8) (hx:x.length<2^63∧300≤n)=>(by
 dsimp only[VX,DM,byL,cA,CC,AQ,Br,nds,oCh,oRu,oSn,oTi,Al,Ds,pcA,rA,CB,LA,Px,OK,Pv,Pw,JA,Ja,Pg,Kr,Pk,Dm,LC,Gx,VH,Ly,CD,suA,CE,Ig,As,Az,mvL,lnL,mvE,lnE,mvG,mvH,lnG,lnH,Ag,AV.q]
 obtain⟨hx,hn⟩:=hx
 have hx:x.length<2^63:=hx
 (repeat' first|(with_reducible first|rfl|exact True.intro|apply AK|apply And.intro|((first|apply AA|apply AI|apply AB|apply AJ)<;>intro _))|(apply Av<;>intro _)|apply AH|refine Ae () ?_ ?_|((first|apply AO|apply AN|apply AM|apply AL|apply AG|apply AF|apply AE|apply AD|apply AC)<;>try dsimp only)|apply Ae|(refine Prod.forall.2 ?_;intro _;try dsimp only)|(intro _;try dsimp only))
 all_goals(repeat(rename vvB _∧_∧_=>hq;obtain⟨_,_,_⟩:=hq))
 all_goals(try(have hVB:= ‹vvV _ _›.b))
 all_goals(try(have hB:=c6i ‹vvV _ _› hn;have hb1:=hB.ru;have hb2:=hB.pl;have hb3:=c6j hB))
 all_goals first
  |rfl
  |omega
  |(with_reducible assumption)
  |exact hB.ps
  |exact hB.pk
  |exact c6l ‹_›
  |exact c6m ‹_›
  |exact c6n hn ‹_›
  |exact c6o ‹_› ‹_›
  |exact c6k ‹_› hn ⟨by assumption,by assumption⟩
  |exact VI ‹_› hn ⟨by assumption,by assumption⟩
  |exact beq_iff_eq.2 (VW hB ‹_›).2
  |exact hB.va
  |exact hB.vz
  |exact Nat.le_trans hB.ct (by decide)
  |exact Nat.le_trans hB.ru (by decide)
  |exact Nat.le_trans (hB.ls _).1 (by decide)
  |exact Nat.le_trans (hB.ls _).2 (by decide)
  |exact VI ‹vvV _ _›.b hn (by decide)
  |exact(Lz ‹vvV _ _›.b hn).1.1
  |exact(Lz ‹vvV _ _›.b hn).1.2
  |exact(Lz ‹vvV _ _›.b hn).2.1
  |exact(Lz ‹vvV _ _›.b hn).2.2
  |exact(Lz ‹vvB _› hn).1.1
  |exact(Lz ‹vvB _› hn).1.2
  |exact(Lz ‹vvB _› hn).2.1
  |exact(Lz ‹vvB _› hn).2.2
  |(rw[if_pos ‹vvV _ _›.v];done)
  |exact Bool.noConfusion (hB.ok.symm.trans ‹Di _ _ _ _ _=false›)
  |exact Bool.noConfusion (hB.pk.symm.trans ‹Dc _=false›)
  |(exfalso;rename(_==_)=false=>hf;rw[beq_self_eq_true] at hf;cases hf;done)
  |(exfalso;rename Cv _≠Cv _=>hf;exact hf hB.ba)
  |(exfalso;rename Cv _≠Cv _=>hf;exact hf (VW hB ‹_›).1)
  |(rw[(VW hB ‹_›).2];exact beq_self_eq_true _)
  |(have e:=(VW hB ‹_›).2;(try simp only[e,An,List.length_append,List.length_cons,List.length_nil]);omega)
  |(rw[a1N];exact Nat.le_trans (hB.ls _).1 (by decide))
  |((try simp only[An,List.length_append,List.length_cons,List.length_nil]);omega)
  |exact()
  |skip)
end Go.My
end
section
namespace Go.Eng
open Go.ChangeShapes Go.WideShapes Go.ChangeAt Go.RowKit
theorem after_below{Z Z' A':FP}{w w':World}(h:After Z w (fun _=>False) Z' w' A'):Below w.heap.size w w':=
 ⟨h.os,h.tape,h.output,h.size,fun b hb=>(h.old b hb (fun x=>x)).1⟩
theorem b0m{H:Type}{enc:TypeId×Value→H}{P:Program}(hl:laidOutB P=true){W W':World}(hb:Below W.heap.size W W'):
 ∀(ts:List TypeId) (vs:List Value) (ds:List (DataW H)) (ps:List MemPlace),ts.all (fun t=>P.readableRec t&&decide (t<P.types.size))=true→
 DataW.TrodAll enc P W 0 (fun _=>true) true ts vs ds ps→(∀x∈ps,x.block<W.heap.size)→DataW.TrodAll enc P W' 0 (fun b=>decide (b<W.heap.size)) true ts vs ds ps
 |[],[],[],ps,ht,h,hp=>h
 |t::ts,v::vs,d::ds,ps,ht,h,hp=>by
  obtain⟨p,q,h1,h2,rfl⟩:=h
  simp only[List.all_cons,Bool.and_eq_true,decide_eq_true_eq] at ht
  exact⟨p,q,Below.trod hl ht.1.1 ht.1.2 h1 hb (fun x hx=>hp x (List.mem_append_left _ hx)),b0m hl hb ts vs ds q ht.2 h2 (fun x hx=>hp x (List.mem_append_right _ hx)),rfl⟩
 |[],_::_,_,_,ht,h,hp=>h.elim
 |[],[],_::_,_,ht,h,hp=>h.elim
 |_::_,[],_,_,ht,h,hp=>h.elim
 |_::_,_::_,[],_,ht,h,hp=>h.elim
theorem c6r{H:Type}{enc:TypeId×Value→H}{P:Program}{f:Func}{s:ChangeSpec}{W W':World}{args:Array Value}{ds gs:List (DataW H)}{before:List MemPlace}{tb:TypeId}
 (hl:laidOutB P=true) (ht:f.params.toList.all (fun t=>P.readableRec t&&decide (t<P.types.size))=true) (hv:s.vars=[])
 (hs:s.fn H ds= {results:=[.lit (.bool true)],args:=ds}) (hr:f.resultTypes= #[tb]) (htb:P.underlying tb=some .bool)
 (hW:DataW.Whole enc P f.params.toList s.vars false W args.toList ds gs before) (hb:Below W.heap.size W W'):s.post enc P f false true false false W args (.bool true) W':=by
 have hW0:=hW
 obtain⟨p,q,hA,hV,rfl,hfz,hnd⟩:=hW
 rw[hv] at hV
 obtain⟨rfl,rfl⟩:=trodVars_none hV
 refine⟨ds,[],p++[],[],p,[],hW0,?_,?_,?_,hb.frame _,fun h=>by cases h⟩
 ·simp only[List.append_nil]
  rw[hs,hr]
  exact trodAll_mk1 (shut_bool htb _)
 ·simp only[List.append_nil]
  rw[hs]
  exact b0m hl hb _ _ _ _ ht hA (fun x hx=>by simpa using hW0.lt x (by simpa using hx))
 ·simp only[List.append_nil]
  rw[hs,hv]
  rfl
def noG:GInv:=⟨fun _ _=>True,fun _ _ _ _ _ _=>trivial⟩
def c6s(X:Type)(args:X→List AV)(pre:X→Prop)(n:Nat):Sig:=
 {X:=X,args:=args,pre:=pre,Y:=Unit,post:=fun _ _=>True,res:=fun _ _=> .bool true,outs:=fun _ _=>List.replicate n .top,keep:=false}
theorem c6t{H:Type}{enc:TypeId×Value→H}{P:Program}{fi:FuncId}{f:Func}{s:ChangeSpec}{W:World}{args:Array Value}{ds gs:List (DataW H)}{before:List MemPlace}{tb:TypeId}
 {X:Type} {azs:X→List AV} {pre:X→Prop} {n:Nat} {G:GInv} (hc:Ai G P fi (c6s X azs pre n)) (hG:G.p (Old W) W)
 (hl:laidOutB P=true) (ht:f.params.toList.all (fun t=>P.readableRec t&&decide (t<P.types.size))=true) (hv:s.vars=[])
 (hs:s.fn H ds= {results:=[.lit (.bool true)],args:=ds}) (hr:f.resultTypes= #[tb]) (htb:P.underlying tb=some .bool)
 (hW:DataW.Whole enc P f.params.toList s.vars false W args.toList ds gs before)
 (ho:∃x,pre x∧AZ (Old W) W (azs x) args.toList (fun _=>False)):
 Calls P fi args W fun e W'=>∃v,e= .returned v∧s.post enc P f false true false false W args v W':=by
 obtain⟨x,hx,hrel⟩:=ho
 refine(hc.2 x hx (Old W) W args.toList _ hG hrel (fun b h=>h.elim) trivial).mono fun e W' h=> ?_
 obtain⟨y,v,Z',A',_,rfl,hr2,hafter⟩:=h
 simp only[AZ] at hr2
 obtain⟨v',us,A1,A2,e1,_,h1,_⟩:=hr2
 simp only[List.cons.injEq] at e1
 obtain⟨rfl,_⟩:=e1
 have:v= .bool true:=by
  have h1:Aj Z' W' (.bool true) v A1:=h1
  simp only[Aj] at h1;exact h1.1
 subst this
 exact⟨_,rfl,c6r hl ht hv hs hr htb hW (after_below hafter)⟩
end Go.Eng
end
section
namespace Go.Eng
open Go.ChangeShapes Go.WideShapes Go.ChangeAt Go.RowKit
theorem c6u{H:Type}{enc:TypeId×Value→H}{P:Program}{t:TypeId}{α:Type}{f:α→AV}{good:α→Prop}(hO:Km P t (fun x=>[f x]) good){W:World}{v:Value}(hc:CV v)
 {d:DataW H} {ps:List MemPlace} (h:DataW.Trod enc P W 0 (fun _=>true) true t v d ps):∃x,good x∧Aj (Old W) W (f x) v (fun _=>False):=by
 obtain⟨fuel,hf⟩:=h
 rw[Ns hc] at hf
 obtain⟨x,hg,hr⟩:=hO enc W _ _ fuel _ _ hf
 exact⟨x,hg,UT.1 hr⟩
theorem c6v{H:Type}{enc:TypeId×Value→H}{P:Program}{t e:TypeId}{α:Type}{f:α→AV}{good:α→Prop}(ht:P.underlying t=some (.slice e))(hO:Km P t (fun x=>[f x]) good)
 {W:World} {r:Reach} {base:Nat} {v:Value} (hv:Value.okWide P W r base t v)
 {d:DataW H} {ps:List MemPlace} (h:DataW.Trod enc P W 0 (fun _=>true) true t v d ps):∃x,good x∧Aj (Old W) W (f x) v (fun _=>False):=
 c6u hO (by obtain⟨a,l,c,rfl⟩:=okWide_slice ht hv;trivial) h
theorem c6w{Z:FP}{w:World}:AZ Z w [] [] (fun _=>False):=⟨rfl,AW⟩
end Go.Eng
end
section
set_option maxRecDepth 100000
namespace Go.My
open Go.Eng Go.Proofs
variable {G:GInv}
theorem opens_mapP{P:Program}{t:TypeId}{α β:Type}{f:α→List AV}{g:β→List AV}{p:α→Prop}{q:β→Prop}(m:α→β)(ho:Km P t f p)(hf:∀x,p x→f x=g (m x))(hg:∀x,p x→q (m x)):Km P t g q:=by
 intro H enc w spare held fuel cs y h
 obtain⟨x,hx,hr⟩:=ho enc w _ _ fuel _ _ h
 exact⟨m x,hg x hx,by rw[←hf x hx];exact hr⟩
theorem c6x:Km Tryz.prog 5 byA (fun _=>True):=
 opens_mapP (fun n:Int=>UInt8.ofNat n.toNat) (c2i (k:= .u8) rfl) (fun x h=>by
  have h1:0≤x∧x≤255:=by have h1:IntKind.min .u8≤x:=h.1;have h2:x≤IntKind.max .u8:=h.2;have e1:IntKind.min .u8=0:=rfl;have e2:IntKind.max .u8=255:=rfl;omega
  have:(UInt8.ofNat x.toNat).toNat=x.toNat:=by simp;omega
  rw[DM,this];congr 2;omega) (fun _ _=>trivial)
theorem c6y:Km Tryz.prog 22 (fun l:List UInt8=>[.sl false 0 1 UInt8 byA l]) (fun l=>l.length<2^63):=
 opens_mapP (fun l=>l) (c2j (e:=5) rfl (by kernel_rfl) (by decide) c6x) (fun _ _=>rfl) (fun _ h=>h.1)
end Go.My
end
