/- joined -/
import Derived.Test.YtblmpjljedglaaaGreatDoorQF
set_option linter.unusedSimpArgs false
set_option linter.unusedVariables false
section
namespace Go.My
open Go.Eng Go.Proofs
variable {G:GInv}
variable {c d i j k v:Int}{l:List Int}{n:Nat}{ns:List Nd}{x y z:Nd}
def cnt(n:Nat)(l:List Int):List Int:=(List.range n).map fun(c:Nat)=>(l.count (c:Int):Int)
theorem KS:(cnt n l).length=n:=by simp [cnt]
theorem Of{c:Nat}(h:c<n):(cnt n l)[c]? =some (l.count (c:Int):Int):=by
 simp [cnt,List.getElem?_map,List.getElem?_range,h]
theorem b4h:List.replicate n 0=cnt n []:=by
 apply List.ext_getElem?
 intro c
 by_cases h:c<n
 ·rw[Of h];simp [h]
 ·rw[List.getElem?_eq_none (by simp;omega),List.getElem?_eq_none (by simp [cnt];omega)]
theorem b4i(h0:0≤c)(h1:c<n)(hv:(cnt n l)[c.toNat]? =some v):(cnt n l).set c.toNat (v+1)=cnt n (l++[c]):=by
 apply List.ext_getElem?
 intro d
 rw[List.getElem?_set]
 by_cases hd:d<n
 ·rw[Of hd,Of hd,List.count_append]
  rw[Of (by omega)] at hv
  by_cases e:c.toNat=d
  ·subst e
   rw[if_pos rfl,if_pos (by rw[KS];omega)]
   have e2:((c.toNat:Nat):Int)=c:=by omega
   rw[e2] at hv ⊢
   simp at hv ⊢;omega
  ·rw[if_neg e]
   have:¬c=(d:Int):=by omega
   simp [List.count_cons,this]
 ·rw[if_neg (by omega),List.getElem?_eq_none (by rw[KS];omega),List.getElem?_eq_none (by rw[KS];omega)]
def tk(ns:List Nd)(i j:Int):List Int:=CX (ns.take i.toNat)++(Ab ns i).kids.take j.toNat
def tI(ns:List Nd):Prop:=1≤ns.length∧ns.length≤300∧Bc ns (ns.length-1)=22∧Cx ns (ns.length-1)≠0
theorem b4j(h:tI ns)(hy:ns[n]? =some y):Cs ns n=true:=by
 exact(Qi h.2.2.2).2.2 n (by have:=(Ek hy).1;omega)
theorem SV(h:tI ns)(hy:ns[n]? =some y):y.kids.length≤12∧∀c∈y.kids,0≤c∧c<ns.length:=by
 obtain⟨h1,h2,h3,h4,h5⟩:=EF (b4j h hy)
 rw[BA (by simpa using hy)] at h2 h4
 exact⟨h2,fun c hc=>by have:=h4 c hc;omega⟩
theorem b4k{l:List Nd}(h:∀y∈l,y.kids.length≤12):(CX l).length≤12*l.length:=by
 induction l with
 |nil=>simp [CX]
 |cons y l ih=>
  have h1:=h y (by simp)
  have h2:=ih fun z hz=>h z (by simp [hz])
  simp only[CX,List.flatMap_cons,List.length_append,List.length_cons] at h2 ⊢;omega
theorem b4l{ns:List Nd}{i j:Int}(h:tI ns):(CX (ns.take i.toNat)).length≤3600:=by
 have h1:∀y∈ns.take i.toNat,y.kids.length≤12:=by
  intro y hy
  obtain⟨n,hn⟩:=List.mem_iff_getElem?.1 (List.mem_of_mem_take hy)
  exact(SV h hn).1
 have:=b4k h1
 have h2:(ns.take i.toNat).length≤300:=by have:=h.2.1;simp;omega
 omega
theorem b4m{c:Nat}(hv:(cnt n l)[c]? =some v):0≤v∧v≤l.length:=by
 have h:c<n:=by have:=(Ek hv).1;rwa [KS] at this
 rw[Of h] at hv;cases hv
 have:=List.count_le_length (a:=(c:Int)) (l:=l)
 omega
theorem b4n:tk ns i 0=CX (ns.take i.toNat):=by simp [tk]
theorem b4o(h0:0≤j)(hc:(Ab ns i).kids[j.toNat]? =some c):tk ns i (j+1)=tk ns i j++[c]:=by
 rw[tk,Dd h0,ED hc,tk,List.append_assoc]
theorem b4p(h0:0≤i)(hy:ns[i.toNat]? =some y)(hl:¬j<(Ab ns i).kids.length):tk ns i j=CX (ns.take (i+1).toNat):=by
 rw[tk,List.take_of_length_le (l:=(Ab ns i).kids) (by omega),Dd h0,ED hy,BA hy];simp [CX]
def tE(ns:List Nd)(i:Int):Prop:=0≤i∧i≤ns.length-1∧∀c:Nat,(c:Int)<i→(CX ns).count (c:Int)=1
theorem b4q(h:tI ns)(he:tE ns i)(hl:¬i<(ns.length-1:Int)):true=Dl ns:=by
 symm;unfold Dl
 have h1:decide (1≤ns.length)=true:=decide_eq_true h.1
 have h2:decide (ns.length≤300)=true:=decide_eq_true h.2.1
 have h3:decide (Bc ns (ns.length-1)=22)=true:=decide_eq_true h.2.2.1
 have h4:decide (Cx ns (ns.length-1)=0)=false:=decide_eq_false h.2.2.2
 rw[h1,h2,h3,h4]
 simp only[Bool.and_true,Bool.not_false,Bool.true_and,List.all_eq_true,decide_eq_true_eq,List.mem_range]
 exact fun c hc=>he.2.2 c (by omega)
theorem b4r(hv:(CX ns).count i=v)(h0:0≤i)(hl:i<(ns.length-1:Int))(hne:v≠1):false=Dl ns:=by
 symm;rw[Bool.eq_false_iff];intro h
 unfold Dl at h
 simp only[Bool.and_eq_true,List.all_eq_true,decide_eq_true_eq,List.mem_range] at h
 have:=h.2.2.2 i.toNat (by omega)
 have e2:((i.toNat:Nat):Int)=i:=by omega
 rw[e2] at this;omega
theorem Yr(h:¬tI ns):false=Dl ns:=by
 symm;rw[Bool.eq_false_iff];intro hh
 unfold Dl at hh
 simp only[Bool.and_eq_true,decide_eq_true_eq,Bool.not_eq_true',decide_eq_false_iff_not] at hh
 exact h ⟨hh.1.1,hh.1.2,hh.2.1,hh.2.2.1⟩
theorem b4s(h:tI ns)(hy:ns[i.toNat]? =some y):(Ab ns i).kids.length≤12:=by
 rw[BA hy];exact(SV h hy).1
theorem b4t{ns:List Nd}{i j:Int}{y:Nd}(h:tI ns)(hy:ns[i.toNat]? =some y):(tk ns i j).length≤3612:=by
 have h1:= @b4l ns i j h;have h2:=b4s h hy
 rw[tk,List.length_append,List.length_take];omega
theorem b4u{c:Nat}(h:tI ns)(hv:(cnt ns.length (tk ns i j))[c]? =some v)(hy:ns[i.toNat]? =some y):0≤v∧v≤3612:=by
 have h1:=b4m hv;have h2:= @b4t ns i j y h hy;omega
theorem BW{x a b:Int}:inn x a b=true↔a≤x∧x≤b:=by simp [inn]
theorem b4v(h:inn ns.length 1 300=true)(hy:ns[(ns.length-1:Int).toNat]? =some y)(hk:y.kind=22)(hd:Cx ns (ns.length-1)≠0):tI ns:=by
 have:=BW.1 h
 exact⟨by omega,by omega,by rw[Bc,BA hy,hk],hd⟩
theorem b4w(h:inn ns.length 1 300=false):¬tI ns:=by
 intro hh;have:inn ns.length 1 300=true:=BW.2 ⟨by have:=hh.1;omega,by have:=hh.2.1;omega⟩
 rw[h] at this;cases this
theorem b4x(hy:ns[(ns.length-1:Int).toNat]? =some y)(hk:y.kind≠22):¬tI ns:=by
 intro hh;have:=hh.2.2.1;rw[Bc,BA hy] at this;exact hk this
theorem b4y(hl:¬i<ns.length):CX (ns.take i.toNat)=CX ns:=by rw[List.take_of_length_le (by omega)]
def DW:Sig:= {X:=Int,args:=fun x=>[.q x],pre:=fun x=>True,Y:=Unit,post:=fun x y=>True,res:=fun x y=> .bool (Bf x),outs:=fun x y=>[.top],keep:=false}
theorem Qt:Ai G Tryz.prog 34 DW:=
 vcFun_okP [(45,0,BU)] [] false (fun x=>[]) Tryz.func34 rfl (by decide) ⟨Ir,trivial⟩ (fun(x:Int)=>(∀(y:Unit),True→True∧True∧True)∧cA BU [.q x,.q 1,.q 11] fun x_1 y=>rA DW x [.bool (inn x_1.1 x_1.2.1 x_1.2.2),.top]) (fun x=>by kernel_rfl) fun(x:Int) (hx:True)=>(by
 dsimp only[cA,rA,BU,DW,As,Az,mvL,lnL,mvE,lnE,AV.q]
 (repeat' first|(with_reducible first|rfl|exact True.intro|apply AK|apply And.intro|((first|apply AA|apply AI|apply AB|apply AJ)<;>intro _))|(apply Av<;>intro _)|apply AH|refine Ae () ?_ ?_|((first|apply AO|apply AN|apply AM|apply AL|apply AG|apply AF|apply AE|apply AD|apply AC)<;>try dsimp only)|apply Ae|(refine Prod.forall.2 ?_;intro _;try dsimp only)|(intro _;try dsimp only))<;>(try dsimp only at*)<;>(try simp only[An,List.length_cons,List.length_nil])<;>(try omega)
 all_goals simp [Bf,GC, *])
def Jk:Sig:= {X:=Int,args:=fun x=>[.q x],pre:=fun x=>True,Y:=Unit,post:=fun x y=>True,res:=fun x y=> .bool (Fk x),outs:=fun x y=>[.top],keep:=false}
theorem a4q:Ai G Tryz.prog 145 Jk:=
 vcFun_okP [(45,0,BU)] [] false (fun x=>[]) Tryz.func145 rfl (by decide) ⟨Ir,trivial⟩ (fun(x:Int)=>(∀(y:Unit),True→True∧True∧True)∧cA BU [.q x,.q 12,.q 17] fun x_1 y=>Aa (inn x_1.1 x_1.2.1 x_1.2.2) (rA Jk x [.bool true,.top]) (rA Jk x [.bool (x==19),.top])) (fun x=>by kernel_rfl) fun(x:Int) (hx:True)=>(by
 dsimp only[cA,rA,BU,Jk,As,Az,mvL,lnL,mvE,lnE,AV.q]
 (repeat' first|(with_reducible first|rfl|exact True.intro|apply AK|apply And.intro|((first|apply AA|apply AI|apply AB|apply AJ)<;>intro _))|(apply Av<;>intro _)|apply AH|refine Ae () ?_ ?_|((first|apply AO|apply AN|apply AM|apply AL|apply AG|apply AF|apply AE|apply AD|apply AC)<;>try dsimp only)|apply Ae|(refine Prod.forall.2 ?_;intro _;try dsimp only)|(intro _;try dsimp only))<;>(try dsimp only at*)<;>(try simp only[An,List.length_cons,List.length_nil])<;>(try omega)
 all_goals simp [Fk,KK,GC, *])
def DX:Sig:= {X:=Int,args:=fun x=>[.q x],pre:=fun x=>True,Y:=Unit,post:=fun x y=>True,res:=fun x y=> .tup [.q (Ee x).1,.q (Ee x).2],outs:=fun x y=>[.top],keep:=false}
theorem b4z:Ai G Tryz.prog 143 DX:=
 vcFun_okP [] [] false (fun x=>[]) Tryz.func143 rfl (by decide) trivial (fun(x:Int)=>(∀(y:Unit),True→(True∧True∧True)∧True∧True)∧Aa (x==4) (rA DX x [.tup [.q 0,.q 12],.top]) (Aa (x==18) (rA DX x [.tup [.q 0,.q 12],.top]) (Aa (x==21) (rA DX x [.tup [.q 0,.q 12],.top]) (Aa (x==22) (rA DX x [.tup [.q 0,.q 12],.top]) (Aa (x==5) (rA DX x [.tup [.q 1,.q 12],.top]) (Aa (x==9) (rA DX x [.tup [.q 1,.q 12],.top]) (Aa (x==20) (rA DX x [.tup [.q 1,.q 12],.top]) (Aa (x==6) (rA DX x [.tup [.q 1,.q 1],.top]) (Aa (x==11) (rA DX x [.tup [.q 1,.q 1],.top]) (Aa (x==13) (rA DX x [.tup [.q 1,.q 1],.top]) (Aa (x==14) (rA DX x [.tup [.q 1,.q 1],.top]) (Aa (x==7) (rA DX x [.tup [.q 2,.q 12],.top]) (Aa (x==10) (rA DX x [.tup [.q 2,.q 12],.top]) (Aa (x==8) (rA DX x [.tup [.q 3,.q 3],.top]) (Aa (x==12) (rA DX x [.tup [.q 0,.q 1],.top]) (Aa (x==15) (rA DX x [.tup [.q 0,.q 1],.top]) (Aa (x==16) (rA DX x [.tup [.q 2,.q 3],.top]) (Aa (x==17) (rA DX x [.tup [.q 2,.q 2],.top]) (rA DX x [.tup [.q 0,.q 0],.top]))))))))))))))))))) (fun x=>by kernel_rfl) fun(x:Int) (hx:True)=>(by
 dsimp only[rA,DX,As,Az,AV.q]
 (repeat' first|(with_reducible first|rfl|exact True.intro|apply AK|apply And.intro|((first|apply AA|apply AI|apply AB|apply AJ)<;>intro _))|(apply Av<;>intro _)|apply AH|refine Ae () ?_ ?_|((first|apply AO|apply AN|apply AM|apply AL|apply AG|apply AF|apply AE|apply AD|apply AC)<;>try dsimp only)|apply Ae|(refine Prod.forall.2 ?_;intro _;try dsimp only)|(intro _;try dsimp only))<;>(try dsimp only at*)<;>(try simp only[An,List.length_cons,List.length_nil])<;>(try omega)
 all_goals simp [Ee, *])
def Iz(x:List Nd×Int×Int):Prop:=BH x.1∧BG x.1 x.2.1=true∧((Ab x.1 x.2.1).kind=10→∀c,(Ab x.1 x.2.1).kids[x.2.2.toNat]? =some c→Bc x.1 c=5→∃h t,(Ab x.1 c).kids=h::t∧BG x.1 h=true)∧
 (0≤x.2.2∧x.2.2<(Ab x.1 x.2.1).kids.length)∧∀c,(Ab x.1 x.2.1).kids[x.2.2.toNat]? =some c→0≤c∧c<x.1.length
theorem Ys{x:List Nd×Int×Int}(h:Iz x)(hy:x.1[x.2.1.toNat]? =some y):0≤x.2.2∧x.2.2<y.kids.length:=by
 have:=h.2.2.2.1;rwa [BA hy] at this
theorem a4r{x:List Nd×Int×Int}(h:Iz x)(hy:x.1[x.2.1.toNat]? =some y)(hc:y.kids[x.2.2.toNat]? =some c):0≤c∧c<x.1.length:=by
 have:=h.2.2.2.2 c;rw[BA hy] at this;exact this hc
theorem a4s{x:List Nd×Int×Int}(h:Iz x)(hy:x.1[x.2.1.toNat]? =some y)(hc:y.kids[x.2.2.toNat]? =some c)(hz:x.1[c.toNat]? =some z)(hk:y.kind=10)(hz5:z.kind=5):∃h t,z.kids=h::t∧BG x.1 h=true:=by
 have:=h.2.2.1;rw[BA hy] at this
 have:=this hk c hc;rw[Bc,BA hz] at this;exact this hz5
theorem a4t{x:List Nd×Int×Int}(h:Iz x)(hy:x.1[x.2.1.toNat]? =some y)(hc:y.kids[x.2.2.toNat]? =some c)(hz:x.1[c.toNat]? =some z)(hk:y.kind=10)(hz5:z.kind=5)(hd:z.kids[0]? =some d):(0≤d∧d<x.1.length)∧z.kids.headD 0=d:=by
 obtain⟨a,t,e,ha⟩:=a4s h hy hc hz hk hz5
 rw[e] at hd ⊢;cases hd;exact⟨BB.1 ha,rfl⟩
theorem a4u{x:List Nd×Int×Int}(h:Iz x)(hy:x.1[x.2.1.toNat]? =some y)(hc:y.kids[x.2.2.toNat]? =some c)(hz:x.1[c.toNat]? =some z)(hk:y.kind=10)(hz5:z.kind=5):0<z.kids.length:=by
 obtain⟨a,t,e,ha⟩:=a4s h hy hc hz hk hz5
 rw[e];simp
def Mw(x:List Nd×Int×Int):Bool:=Mi x.1 (Ab x.1 x.2.1) x.2.2 ((Ab x.1 x.2.1).kids.getD x.2.2.toNat 0)
theorem a4v{x:List Nd×Int×Int}(hy:x.1[x.2.1.toNat]? =some y)(hc:y.kids[x.2.2.toNat]? =some c)(hz:x.1[c.toNat]? =some z):
 Mw x=(Ha y.kind y.kids.length x.2.2 z.kind&&(if y.kind=10∧0<x.2.2 then decide (Bc x.1 (z.kids.headD 0)=1) else true)):=by
 rw[Mw,BA hy,List.getD,hc,Option.getD_some,Mi,Bc,BA hz]
def DF:Sig:= {X:=List Nd×Int×Int,args:=fun x=>[nds x.1,.q x.2.1,.q x.2.2],pre:=fun x=>Iz x,Y:=Unit,post:=fun x y=>True,res:=fun x y=> .bool (Mw x),outs:=fun x y=>[.top,.top,.top],keep:=false}
theorem b4A:Ai G Tryz.prog 146 DF:=
 vcFun_okP [(34,0,DW),(145,0,Jk)] [] false (fun x=>[]) Tryz.func146 rfl (by decide) ⟨Qt,a4q,trivial⟩ (fun(x:List Nd×Int×Int)=>(∀(y:Unit),True→True∧True∧True∧True∧True)∧(0≤x.2.1∧x.2.1<(x.1.length:Int))∧∀(e:Nd),x.1[Int.toNat x.2.1]? =some e→(0≤x.2.2∧x.2.2<(e.kids.length:Int))∧∀(e_1:Int),e.kids[Int.toNat x.2.2]? =some e_1→(0≤e_1∧e_1<(x.1.length:Int))∧∀(e_2:Nd),x.1[Int.toNat e_1]? =some e_2→Aa (e.kind==9) (inR .i64 (x.2.2+(1:Int))∧Aa (decide (x.2.2+1<(e.kids.length:Int))) (rA DF x [.bool (e_2.kind==1),.top,.top,.top]) (cA DW [.q e_2.kind] fun x_1 y=>rA DF x [.bool (Bf x_1),.top,.top,.top])) (Aa (e.kind==20) (inR .i64 (x.2.2+(1:Int))∧Aa (decide (x.2.2+1<(e.kids.length:Int))) (rA DF x [.bool (e_2.kind==1),.top,.top,.top]) (rA DF x [.bool (e_2.kind==18),.top,.top,.top])) (Aa (e.kind==10) (Aa (decide (x.2.2>(0:Int))) (Aa (e_2.kind==5) (((0:Int)≤(0:Int)∧0<(e_2.kids.length:Int))∧∀(e:Int),e_2.kids[(0:Nat)]? =some e→(0≤e∧e<(x.1.length:Int))∧∀(e_3:Nd),x.1[Int.toNat e]? =some e_3→rA DF x [.bool (e_3.kind==1),.top,.top,.top]) (rA DF x [.bool false,.top,.top,.top])) (cA DW [.q e_2.kind] fun x_1 y=>rA DF x [.bool (Bf x_1),.top,.top,.top])) (Aa (e.kind==16) (Aa (decide (x.2.2>(0:Int))) (rA DF x [.bool (e_2.kind==18),.top,.top,.top]) (cA DW [.q e_2.kind] fun x_1 y=>rA DF x [.bool (Bf x_1),.top,.top,.top])) (Aa (e.kind==17) (Aa (decide (x.2.2>(0:Int))) (rA DF x [.bool (e_2.kind==18),.top,.top,.top]) (cA DW [.q e_2.kind] fun x_1 y=>rA DF x [.bool (Bf x_1),.top,.top,.top])) (Aa (e.kind==18) (cA Jk [.q e_2.kind] fun x_1 y=>rA DF x [.bool (Fk x_1),.top,.top,.top]) (Aa (e.kind==21) (Aa (e_2.kind==12) (rA DF x [.bool true,.top,.top,.top]) (Aa (e_2.kind==20) (rA DF x [.bool true,.top,.top,.top]) (rA DF x [.bool (e_2.kind==19),.top,.top,.top]))) (Aa (e.kind==22) (Aa (e_2.kind==21) (rA DF x [.bool true,.top,.top,.top]) (Aa (e_2.kind==12) (rA DF x [.bool true,.top,.top,.top]) (Aa (e_2.kind==20) (rA DF x [.bool true,.top,.top,.top]) (rA DF x [.bool (e_2.kind==19),.top,.top,.top])))) (cA DW [.q e_2.kind] fun x_1 y=>rA DF x [.bool (Bf x_1),.top,.top,.top]))))))))) (fun x=>by kernel_rfl) fun(x:List Nd×Int×Int) (hx:Iz x)=>(by
 dsimp only[cA,Br,nds,rA,DF,Jk,DW,As,Az,mvL,lnL,mvE,lnE,AV.q]
 have h:=hx;have h1:=h.1;have hl:=h1.1;have hn:=BB.1 h.2.1
 (repeat' first|(with_reducible first|rfl|exact True.intro|apply AK|apply And.intro|((first|apply AA|apply AI|apply AB|apply AJ)<;>intro _))|(apply Av<;>intro _)|apply AH|refine Ae () ?_ ?_|((first|apply AO|apply AN|apply AM|apply AL|apply AG|apply AF|apply AE|apply AD|apply AC)<;>try dsimp only)|apply Ae|(refine Prod.forall.2 ?_;intro _;try dsimp only)|(intro _;try dsimp only))
 all_goals first
  |omega
  |exact(Ys h ‹_›).1
  |exact(Ys h ‹_›).2
  |exact(a4r h ‹_› ‹_›).1
  |exact(a4r h ‹_› ‹_›).2
  |exact a4u h ‹_› ‹_› ‹_› ‹_› ‹_›
  |(have:=a4u h ‹_› ‹_› ‹_› ‹_› ‹_›;omega)
  |(have:=(a4t h ‹_› ‹_› ‹_› ‹_› ‹_› ‹_›).1;omega)
  |(have hk:=(h1.2 _ (Bm ‹x.1[x.2.1.toNat]? =some _›)).2;have:=Ys h ‹_›;(try simp only[An]);omega)
  |(rw[a4v ‹_› ‹_› ‹_›];simp [Ha,Ep,EE,Fj,HJ,Fx,GC, *];done)
  |(rw[a4v ‹_› ‹_› ‹_›,(a4t h ‹_› ‹_› ‹_› ‹_› ‹_› ‹_›).2,Bc,BA ‹_›];simp [Ha,Fx,GC, *];done)
  |skip)
def koI(ns:List Nd)(x:Nd)(i:Int):Prop:=0≤i∧i≤x.kids.length∧∀(j:Nat) c,(j:Int)<i→x.kids[j]? =some c→Et ns x j c=true
theorem b4B:koI ns x 0:=⟨by omega,by omega,fun j c h=>by omega⟩
theorem a4w(h:koI ns x i)(hc:x.kids[i.toNat]? =some c)(hk:Et ns x i c=true):koI ns x (i+1):=by
 obtain⟨h1,h2,h3⟩:=h
 have:=(Ek hc).1
 refine⟨by omega,by omega,fun j d hj hd=> ?_⟩
 by_cases e:(j:Int)<i
 ·exact h3 j d e hd
 ·obtain rfl:j=i.toNat:=by omega
  rw[hc] at hd;cases hd
  rwa [show((i.toNat:Nat):Int)=i by omega]
theorem b4C(h:koI ns x i)(hl:¬i<x.kids.length):BV (Et ns x) x.kids 0=true:=by
 rw[Yl];intro j c hc
 exact h.2.2 j c (by have:=(Ek hc).1;omega) hc
theorem SW(h0:0≤i)(hc:x.kids[i.toNat]? =some c)(hk:Et ns x i c=false):BV (Et ns x) x.kids 0=false:=by
 rw[Bool.eq_false_iff];intro h
 rw[Yl] at h
 have:=h _ _ hc
 rw[show((i.toNat:Nat):Int)=i by omega,hk] at this;cases this
theorem ko1(hy:ns[c.toNat]? =some y)(h:y.kind=5)(h0:(y.kids.length:Int)=0):Et ns x i c=false:=by
 have h0:=List.length_eq_zero_iff.1 (show y.kids.length=0 by omega)
 simp [Et,Bc,BA hy,h,h0]
theorem JN:inn d 0 (ns.length-1)=BG ns d:=by
 rw[Bool.eq_iff_iff];simp only[inn,BG,Bool.and_eq_true,decide_eq_true_eq];omega
theorem ko2(hy:ns[c.toNat]? =some y)(h:y.kind=5)(h0:y.kids[0]? =some d)(hd:inn d 0 (ns.length-1)=false):Et ns x i c=false:=by
 rw[JN] at hd
 match hk:y.kids with
 |[]=>rw[hk] at h0;cases h0
 |e::t=>rw[hk] at h0;cases h0;simp [Et,Bc,BA hy,h,hk,hd]
theorem ko3(hy:ns[c.toNat]? =some y)(h:y.kind=5)(h0:y.kids[0]? =some d)(hd:inn d 0 (ns.length-1)=true):Et ns x i c=Mi ns x i c:=by
 rw[JN] at hd
 match hk:y.kids with
 |[]=>rw[hk] at h0;cases h0
 |e::t=>rw[hk] at h0;cases h0;simp [Et,Bc,BA hy,h,hk,hd]
theorem ko4(hy:ns[c.toNat]? =some y)(h:y.kind≠5):Et ns x i c=Mi ns x i c:=by
 simp [Et,Bc,BA hy,h]
theorem SX{b:Bool}(hx:ns[k.toNat]? =some x)(hc:x.kids[i.toNat]? =some c)(hb:Mw (ns,k,i)=b):Mi ns x i c=b:=by
 rw[←hb,Mw,BA hx,List.getD,hc,Option.getD_some]
theorem b4D(h1:BH ns)(hn:BG ns k=true)(hx:ns[k.toNat]? =some x)(hin:Er x.kids k=true)(hi:koI ns x i)(hc:x.kids[i.toNat]? =some c)(hy:ns[c.toNat]? =some y)(h0:y.kids[0]? =some d)(hd:inn d 0 (ns.length-1)=true):Iz (ns,k,i):=by
 have hk:=BB.1 hn
 have:=(Ek hc).1
 unfold Iz;simp only[BA hx]
 refine⟨h1,hn,fun h10 c' hc' h5=> ?_,⟨hi.1,by omega⟩,fun c' hc'=> ?_⟩
 ·rw[hc] at hc';cases hc'
  rw[BA hy]
  match hkk:y.kids with
  |[]=>rw[hkk] at h0;cases h0
  |e::t=>rw[hkk] at h0;cases h0;exact⟨_,_,rfl,by rw[←JN];exact hd⟩
 ·simp only[Er,List.all_eq_true,Bool.and_eq_true,decide_eq_true_eq] at hin
  have:=hin c' (Bm hc');omega
theorem b4E(h1:BH ns)(hn:BG ns k=true)(hx:ns[k.toNat]? =some x)(hin:Er x.kids k=true)(hi:koI ns x i)(hc:x.kids[i.toNat]? =some c)(hy:ns[c.toNat]? =some y)(h5:y.kind≠5):Iz (ns,k,i):=by
 have hk:=BB.1 hn
 have:=(Ek hc).1
 unfold Iz;simp only[BA hx]
 refine⟨h1,hn,fun h10 c' hc' h5'=> ?_,⟨hi.1,by omega⟩,fun c' hc'=> ?_⟩
 ·rw[hc] at hc';cases hc'
  rw[Bc,BA hy] at h5';exact(h5 h5').elim
 ·simp only[Er,List.all_eq_true,Bool.and_eq_true,decide_eq_true_eq] at hin
  have:=hin c' (Bm hc');omega
theorem a4x:Iq k=(Fk k||(decide (k=20)||decide (k=21))):=by
 rw[Bool.eq_iff_iff]
 simp only[Iq,Fk,Fj,KK,inn,Bool.or_eq_true,Bool.and_eq_true,decide_eq_true_eq];omega
theorem a4y(h:inn k 0 (ns.length-1)=false):false=Cs ns k:=by rw[JN] at h;exact a4j h
theorem Qu(hx:ns[k.toNat]? =some x)(h:inn k 0 (ns.length-1)=true):Cs ns k=(inn x.kind 1 22&&(inn x.kids.length (Ee x.kind).1 (Ee x.kind).2&&(EO x.kind x.text&&((Iq x.kind|| !x.blank)&&((Er x.kids k&&decide x.kids.Nodup)&&BV (Et ns x) x.kids 0))))):=by
 rw[JN] at h;rw[Oe hx h,b3l]
theorem b4F(hx:ns[k.toNat]? =some x)(h:inn k 0 (ns.length-1)=true)(h1:Er x.kids k=false):false=Cs ns k:=by
 rw[Qu hx h,h1];simp
theorem b4G(hx:ns[k.toNat]? =some x)(h:inn k 0 (ns.length-1)=true)(h1:¬x.kids.Nodup):false=Cs ns k:=by
 rw[Qu hx h,decide_eq_false h1];simp
theorem SY(hx:ns[k.toNat]? =some x)(h:inn k 0 (ns.length-1)=true)(h1:BV (Et ns x) x.kids 0=false):false=Cs ns k:=by
 rw[Qu hx h,h1];simp
theorem b4H(hx:ns[k.toNat]? =some x)(h:inn k 0 (ns.length-1)=true)(h1:inn x.kind 1 22=true)(h2:inn x.kids.length (Ee x.kind).1 (Ee x.kind).2=true)(h3:EO x.kind x.text=true)(h4:(Iq x.kind|| !x.blank)=true)
 (h5:Er x.kids k=true∧x.kids.Nodup) (h6:BV (Et ns x) x.kids 0=true):true=Cs ns k:=by
 rw[Qu hx h,h1,h2,h3,h4,h5.1,h6,decide_eq_true h5.2];rfl
theorem b4I(hc:l[n]? =some c)(h:inn c 0 (k-1)=false):Er l k=false:=by
 rw[Bool.eq_false_iff];intro hh;simp only[Er,List.all_eq_true,Bool.and_eq_true,decide_eq_true_eq] at hh
 have:=hh c (Bm hc)
 have:inn c 0 (k-1)=true:=BW.2 (by omega)
 rw[h] at this;cases this
def djI(l:List Int)(i j:Int):Prop:=0≤j∧j≤i∧∀c,l[i.toNat]? =some c→(l.take j.toNat).elem c=false
theorem b4J(h:0≤i):djI l i 0:=⟨by omega,h,by simp⟩
theorem b4K(h:djI l i j)(hl:j<i)(hc:l[i.toNat]? =some c)(hd:l[j.toNat]? =some d)(hne:c≠d):djI l i (j+1):=by
 refine⟨by have:=h.1;omega,by omega,fun c' hc'=> ?_⟩
 have h3:=h.2.2 c' hc'
 rw[hc] at hc';cases hc'
 rw[Dd h.1,ED hd]
 simp at h3 ⊢
 exact⟨h3,hne⟩
theorem b4L(h0:djI l i j)(hl:j<i)(hc:l[i.toNat]? =some c)(hd:l[j.toNat]? =some d)(he:c=d):¬l.Nodup:=by
 refine a4i hc ?_
 subst he
 rw[List.elem_iff]
 rw[List.mem_take_iff_getElem]
 obtain⟨hj,e⟩:=Ek hd
 have:=h0.1
 exact⟨j.toNat,by omega,e⟩
theorem b4M(h:nkI k l i)(hd:djI l i j)(hl:¬j<i)(hc:l[i.toNat]? =some c)(hin:inn c 0 (k-1)=true):nkI k l (i+1):=by
 have:=BW.1 hin
 have h3:=hd.2.2 c hc
 obtain rfl:j=i:=by have:=hd.2.1;omega
 exact a4h h hc (by omega) (by omega) h3
def SZ(x:List Nd×Int)(i:Int):LS:= {
 ι:=Int,inv:=djI (Ab x.1 x.2).kids i,
 regs:=fun j=>[(0,nds x.1),(1,.int .i64 x.2),(5,.box 0 (ndA false (Ab x.1 x.2))),(8,.int .i64 i),(9,.int .i64 j)],als:=[],meas:=fun j=>i.toNat-j.toNat}
def Ta(x:List Nd×Int):LS:= {
 ι:=Int,inv:=nkI x.2 (Ab x.1 x.2).kids,
 regs:=fun i=>[(0,nds x.1),(1,.int .i64 x.2),(5,.box 0 (ndA false (Ab x.1 x.2))),(8,.int .i64 i)],als:=[],meas:=fun i=>(Ab x.1 x.2).kids.length-i.toNat,sub:=fun i=>[(15,SZ x i)]}
def Qv(x:List Nd×Int):LS:= {
 ι:=Int,inv:=koI x.1 (Ab x.1 x.2),
 regs:=fun i=>[(0,nds x.1),(1,.int .i64 x.2),(5,.box 0 (ndA false (Ab x.1 x.2))),(10,.int .i64 i)],als:=[],meas:=fun i=>(Ab x.1 x.2).kids.length-i.toNat}
def jI(x:Nd):Prop:=inn x.kind 1 22=true∧inn x.kids.length (Ee x.kind).1 (Ee x.kind).2=true∧EO x.kind x.text=true∧(Iq x.kind|| !x.blank)=true
def Og(x:List Nd×Int):LS:= {
 ι:=Unit,inv:=fun _=>jI (Ab x.1 x.2),
 regs:=fun _=>[(0,nds x.1),(1,.int .i64 x.2),(5,.box 0 (ndA false (Ab x.1 x.2)))],als:=[],meas:=fun _=>0}
def FB:Sig:= {X:=List Nd×Int,args:=fun x=>[nds x.1,.q x.2],pre:=fun x=>BH x.1,Y:=Unit,post:=fun x y=>True,res:=fun x y=> .bool (Cs x.1 x.2),outs:=fun x y=>[.top,.top],keep:=false}
set_option maxHeartbeats 4000000 in
theorem b4N:Ai G Tryz.prog 119 FB:=
 vcFun_okP [(45,0,BU),(143,0,DX),(144,0,FR),(145,0,Jk),(146,0,DF)] [] false (fun x=>[(10,Ta x),(20,Qv x),(200009,Og x)]) Tryz.func119 rfl (by decide) ⟨Ir,b4z,b3j,a4q,b4A,trivial⟩ (fun(x:List Nd×Int)=>(∀(y:Unit),True→True∧True∧True∧True)∧inR .i64 ((x.1.length:Int)-(1:Int))∧cA BU [.q x.2,.q 0,.q ((x.1.length:Int)-(1:Int))] fun x_1 y=>Aa (!inn x_1.1 x_1.2.1 x_1.2.2) (rA FB x [.bool false,.top,.top]) ((0≤x.2∧x.2<(x.1.length:Int))∧∀(e:Nd),x.1[Int.toNat x.2]? =some e→cA BU [.q e.kind,.q 1,.q 22] fun x_2 y=>Aa (!inn x_2.1 x_2.2.1 x_2.2.2) (rA FB x [.bool false,.top,.top]) ((0≤x.2∧x.2<(x.1.length:Int))∧∀(e:Nd),x.1[Int.toNat x.2]? =some e→cA DX [.q e.kind] fun x_3 y=>cA BU [.q (e.kids.length:Int),.q (Ee x_3).1,.q (Ee x_3).2] fun x_4 y=>Aa (!inn x_4.1 x_4.2.1 x_4.2.2) (rA FB x [.bool false,.top,.top]) (cA FR [.q e.kind,.str e.text] fun x_5 y=>Aa (!EO x_5.1 x_5.2) (rA FB x [.bool false,.top,.top]) (Aa e.blank (cA Jk [.q e.kind] fun x_6 y=>Aa (!Fk x_6) (Aa (e.kind != 20) (Aa (e.kind != 21) (rA FB x [.bool false,.top,.top]) (eA (Og x) [nds x.1,.q x.2,.box 0 (ndA false e)])) (eA (Og x) [nds x.1,.q x.2,.box 0 (ndA false e)])) (eA (Og x) [nds x.1,.q x.2,.box 0 (ndA false e)])) (eA (Og x) [nds x.1,.q x.2,.box 0 (ndA false e)])∧∀(i:Unit),jI (Ab x.1 x.2)→eA (Ta x) [nds x.1,.q x.2,.box 0 (ndA false (Ab x.1 x.2)),.q 0]∧∀(i:Int),nkI x.2 (Ab x.1 x.2).kids i→Aa (decide (i<(↑((Ab x.1 x.2).kids.length):Int))) ((0≤i∧i<(↑((Ab x.1 x.2).kids.length):Int))∧∀(e:Int),(Ab x.1 x.2).kids[Int.toNat i]? =some e→inR .i64 (x.2-(1:Int))∧cA BU [.q e,.q 0,.q (x.2-(1:Int))] fun x_6 y=>Aa (!inn x_6.1 x_6.2.1 x_6.2.2) (rA FB x [.bool false,.top,.top]) (eA (SZ x i) [nds x.1,.q x.2,.box 0 (ndA false (Ab x.1 x.2)),.q i,.q 0]∧∀(i_1:Int),djI (Ab x.1 x.2).kids i i_1→Aa (decide (i_1<i)) (true=true∧true=true∧(0≤i∧i<(↑((Ab x.1 x.2).kids.length):Int))∧∀(e:Int),(Ab x.1 x.2).kids[Int.toNat i]? =some e→(0≤i_1∧i_1<(↑((Ab x.1 x.2).kids.length):Int))∧∀(e_1:Int),(Ab x.1 x.2).kids[Int.toNat i_1]? =some e_1→Aa (e==e_1) (rA FB x [.bool false,.top,.top]) (inR .i64 (i_1+(1:Int))∧eN (SZ x i) i_1 [nds x.1,.q x.2,.box 0 (ndA false (Ab x.1 x.2)),.q i,.q (i_1+(1:Int))])) (inR .i64 (i+1)∧eN (Ta x) i [nds x.1,.q x.2,.box 0 (ndA false (Ab x.1 x.2)),.q (i+1)]))) (eA (Qv x) [nds x.1,.q x.2,.box 0 (ndA false (Ab x.1 x.2)),.q 0]∧∀(i:Int),koI x.1 (Ab x.1 x.2) i→Aa (decide (i<(↑((Ab x.1 x.2).kids.length):Int))) ((0≤i∧i<(↑((Ab x.1 x.2).kids.length):Int))∧∀(e:Int),(Ab x.1 x.2).kids[Int.toNat i]? =some e→(0≤e∧e<(x.1.length:Int))∧∀(e_1:Nd),x.1[Int.toNat e]? =some e_1→Aa (e_1.kind==5) (Aa ((e_1.kids.length:Int)==(0:Int)) (rA FB x [.bool false,.top,.top]) (((0:Int)≤(0:Int)∧0<(e_1.kids.length:Int))∧∀(e:Int),e_1.kids[(0:Nat)]? =some e→inR .i64 ((x.1.length:Int)-(1:Int))∧cA BU [.q e,.q 0,.q ((x.1.length:Int)-(1:Int))] fun x_6 y=>Aa (!inn x_6.1 x_6.2.1 x_6.2.2) (rA FB x [.bool false,.top,.top]) (cA DF [nds x.1,.q x.2,.q i] fun x_7 y=>Aa (!Mw x_7) (rA FB x [.bool false,.top,.top]) (inR .i64 (i+1)∧(eN (Qv x) i [nds x.1,.q x.2,.box 0 (ndA false (Ab x.1 x.2)),.q (i+1)]))))) (cA DF [nds x.1,.q x.2,.q i] fun x_6 y=>Aa (!Mw x_6) (rA FB x [.bool false,.top,.top]) (inR .i64 (i+1)∧(eN (Qv x) i [nds x.1,.q x.2,.box 0 (ndA false (Ab x.1 x.2)),.q (i+1)])))) (rA FB x [.bool true,.top,.top]))))))) (fun x=>by kernel_rfl) fun(x:List Nd×Int) (hx:BH x.1)=>(by
 dsimp only[cA,eA,eN,Og,Ta,SZ,Qv,Br,nds,rA,BU,DX,DF,Jk,FR,FB,As,Az,mvL,lnL,mvE,lnE,Bl,AV.q]
 have h1:BH x.1:=hx;have hl:=h1.1
 by_cases hn:BG x.1 x.2=true
 case neg=>
  (repeat' first|(with_reducible first|rfl|exact True.intro|apply AK|apply And.intro|((first|apply AA|apply AI|apply AB|apply AJ)<;>intro _))|(apply Av<;>intro _)|apply AH|refine Ae () ?_ ?_|((first|apply AO|apply AN|apply AM|apply AL|apply AG|apply AF|apply AE|apply AD|apply AC)<;>try dsimp only)|apply Ae|(refine Prod.forall.2 ?_;intro _;try dsimp only)|(intro _;try dsimp only))
  all_goals first
   |exact a4y ‹_›
   |(have hh:= ‹inn x.2 0 (x.1.length-1)=true›;rw[JN] at hh;exact(hn hh).elim)
   |((try simp only[An]);omega)
 case pos=>
 have hr:=BB.1 hn
 obtain⟨z,hz⟩:∃z,x.1[x.2.toNat]? =some z:=⟨x.1[x.2.toNat],by simp⟩
 have hzo:=h1.2 _ (Bm hz)
 have hi:inn x.2 0 (x.1.length-1)=true:=by rw[JN];exact hn
 simp only[hz,Option.some.injEq,forall_eq',BA hz]
 (repeat' first|(with_reducible first|rfl|exact True.intro|apply AK|apply And.intro|((first|apply AA|apply AI|apply AB|apply AJ)<;>intro _))|(apply Av<;>intro _)|apply AH|refine Ae () ?_ ?_|((first|apply AO|apply AN|apply AM|apply AL|apply AG|apply AF|apply AE|apply AD|apply AC)<;>try dsimp only)|apply Ae|(refine Prod.forall.2 ?_;intro _;try dsimp only)|(intro _;try dsimp only))
 all_goals first
  |rfl
  |assumption
  |exact a4g
  |exact b4B
  |exact b4J (‹nkI _ _ _›.1)
  |exact a4y ‹_›
  |exact⟨by assumption,by assumption,by assumption,by simp [a4x, *]⟩
  |exact b4F hz hi (b4I ‹_› ‹_›)
  |exact b4G hz hi (b4L ‹_› ‹_› ‹_› ‹_› ‹_›)
  |exact b4K ‹_› ‹_› ‹_› ‹_› ‹_›
  |exact b4M ‹_› ‹_› ‹_› ‹_› ‹_›
  |exact SY hz hi (SW (‹koI _ _ _›.1) ‹_› (ko1 ‹_› ‹_› ‹_›))
  |exact SY hz hi (SW (‹koI _ _ _›.1) ‹_› (ko2 ‹_› ‹_› ‹_› ‹_›))
  |exact SY hz hi (SW (‹koI _ _ _›.1) ‹_› ((ko4 ‹_› ‹_›).trans (SX hz ‹_› ‹_›)))
  |exact SY hz hi (SW (‹koI _ _ _›.1) ‹_› ((ko3 ‹_› ‹_› ‹_› ‹_›).trans (SX hz ‹_› ‹_›)))
  |exact a4w ‹_› ‹_› ((ko4 ‹_› ‹_›).trans (SX hz ‹_› ‹_›))
  |exact a4w ‹_› ‹_› ((ko3 ‹_› ‹_› ‹_› ‹_›).trans (SX hz ‹_› ‹_›))
  |exact b4D h1 hn hz (Qs ‹_› ‹_›).1 ‹_› ‹_› ‹_› ‹_› ‹_›
  |exact b4E h1 hn hz (Qs ‹_› ‹_›).1 ‹_› ‹_› ‹_› ‹_›
  |exact b4H hz hi (‹jI _›.1) (‹jI _›.2.1) (‹jI _›.2.2.1) (‹jI _›.2.2.2) (Qs ‹_› ‹_›) (b4C ‹_› ‹_›)
  |(rw[Qu hz hi];simp [a4x, *];done)
  |exact hzo.1
  |(have:=Yp ‹_› ‹_› hr.2 (Bm ‹z.kids[_]? =some _›);omega)
  |((try simp only[An]);omega)
  |(have hko:= ‹koI _ _ _›;have hk2:=hzo.2;have:=hko.1;have:=hko.2.1;(try simp only[An]);omega)
  |(have hko:= ‹djI _ _ _›;have hk1:= ‹nkI _ _ _›;have hk2:=hzo.2;have:=hko.1;have:=hko.2.1;have:=hk1.1;have:=hk1.2.1;(try simp only[An]);omega)
  |(have hk1:= ‹nkI _ _ _›;have hk2:=hzo.2;have:=hk1.1;have:=hk1.2.1;(try simp only[An]);omega)
  |skip)
def sdp(ns:List Nd)(i:Nat)(ds:List Int):Int:=
 if Cs ns i=true∧(i=0∨ds.getD (i-1) 0≠0) then(if 14≤mx ds (Ab ns i).kids 0 then 0 else mx ds (Ab ns i).kids 0+1) else 0
def sds(ns:List Nd):Nat→List Int
 |0=>[]
 |n+1=>sds ns n++[sdp ns n (sds ns n)]
theorem IA{ns:List Nd}:∀ {n:Nat},(sds ns n).length=n
 |0=>rfl
 |n+1=>by rw[sds,List.length_append,IA];rfl
theorem a4z{ns:List Nd}:∀ {n:Nat},(match CW ns n with|some ds=>sds ns n=ds|none=>0<n∧(sds ns n).getD (n-1) 0=0)
 |0=>by simp [CW,sds]
 |n+1=>by
  have ih:= @a4z ns n
  unfold CW
  cases hd:CW ns n with
  |none=>
   rw[hd] at ih
   simp only
   refine⟨by omega,?_⟩
   have hz:sdp ns n (sds ns n)=0:=by
    unfold sdp;rw[if_neg];rintro⟨_,h|h⟩
    ·omega
    ·exact h ih.2
   rw[sds,hz,List.getD,List.getElem?_append_right (by rw[IA];omega),IA];simp
  |some ds=>
   rw[hd] at ih
   simp only at ih ⊢
   by_cases hn:Cs ns n=true
   ·rw[if_pos hn]
    have hprev:n=0∨(sds ns n).getD (n-1) 0≠0:=by
     by_cases e:n=0
     ·exact .inl e
     ·right
      rw[ih,List.getD]
      have hl:=KL hd
      have:ds[n-1]? =some ds[n-1]:=by simp
      rw[this];have:=NO hd ds[n-1] (by simp);simp;omega
    have hs:sdp ns n (sds ns n)=if 14≤mx ds (Ab ns n).kids 0 then 0 else mx ds (Ab ns n).kids 0+1:=by
     unfold sdp;rw[if_pos ⟨hn,hprev⟩,ih]
    by_cases hm:14≤mx ds (Ab ns n).kids 0
    ·rw[if_pos hm];simp only
     refine⟨by omega,?_⟩
     rw[sds,hs,if_pos hm,List.getD,List.getElem?_append_right (by rw[IA];omega),IA];simp
    ·rw[if_neg hm];simp only
     rw[sds,hs,if_neg hm,ih]
   ·rw[if_neg hn];simp only
    refine⟨by omega,?_⟩
    have hz:sdp ns n (sds ns n)=0:=by unfold sdp;rw[if_neg (fun h=>hn h.1)]
    rw[sds,hz,List.getD,List.getElem?_append_right (by rw[IA];omega),IA];simp
theorem b4O(h:BG ns k=true)(hv:(sds ns (k.toNat+1))[k.toNat]? =some v):v=Cx ns k:=by
 have ih:= @a4z ns (k.toNat+1)
 unfold Cx;rw[if_pos h]
 cases hd:CW ns (k.toNat+1) with
 |none=>rw[hd] at ih;simp only at ih ⊢;have:=ih.2;rw[List.getD] at this;simp [hv] at this;exact this
 |some ds=>rw[hd] at ih;simp only at ih ⊢;rw[←ih,List.getD,hv];rfl
theorem Yt{ns:List Nd}:∀ {n:Nat},∀d∈sds ns n,0≤d∧d≤14
 |0,d,h=>by simp [sds] at h
 |n+1,d,h=>by
  rw[sds] at h
  rcases List.mem_append.1 h with h|h
  ·exact Yt d h
  ·simp at h;subst h
   have:=SA (sds ns n) (Ab ns n).kids 0
   unfold sdp;split
   ·split<;>omega
   ·omega
def okB(ns:List Nd)(i:Int):Bool:=Cs ns i&&(decide (i=0)|| !decide ((sds ns i.toNat).getD (i.toNat-1) 0=0))
theorem a4A(h:0≤i):sdp ns i.toNat (sds ns i.toNat)=if okB ns i then(if 14≤mx (sds ns i.toNat) (Ab ns i).kids 0 then 0 else mx (sds ns i.toNat) (Ab ns i).kids 0+1) else 0:=by
 have e:((i.toNat:Nat):Int)=i:=by omega
 unfold sdp;rw[e]
 have hb:okB ns i=true↔Cs ns i=true∧(i.toNat=0∨(sds ns i.toNat).getD (i.toNat-1) 0≠0):=by
  unfold okB
  simp only[Bool.and_eq_true,Bool.or_eq_true,decide_eq_true_eq,Bool.not_eq_true',decide_eq_false_iff_not]
  constructor
  ·rintro⟨h1,h2⟩;exact⟨h1,h2.imp (fun h=>by omega) id⟩
  ·rintro⟨h1,h2⟩;exact⟨h1,h2.imp (fun h=>by omega) id⟩
 by_cases h1:okB ns i=true
 ·rw[if_pos h1,if_pos (hb.1 h1)]
 ·rw[if_neg h1,if_neg (fun h2=>h1 (hb.2 h2))]
def eI(ns:List Nd)(i j d:Int):Prop:=(okB ns i=true→j≤(Ab ns i).kids.length∧1≤d∧d≤15∧mx (sds ns i.toNat) ((Ab ns i).kids.drop j.toNat) (d-1)=mx (sds ns i.toNat) (Ab ns i).kids 0)∧0≤j∧(okB ns i=false→d=0)
theorem b4P:eI ns i 0 (if okB ns i then 1 else 0):=by
 refine⟨fun h=> ?_,by omega,fun h=> ?_⟩
 ·rw[if_pos h];refine⟨by omega,by omega,by omega,by simp⟩
 ·rw[h];rfl
theorem Tc(h:eI ns i j d)(hd:d>0):okB ns i=true:=by
 cases hb:okB ns i
 ·have:=h.2.2 hb;omega
 ·rfl
theorem a4B(h:okB ns i=true):Cs ns i=true:=by
 simp only[okB,Bool.and_eq_true] at h;exact h.1
theorem b4Q(h:eI ns i j d)(hd:d>0)(hy:ns[i.toNat]? =some y)(hc:y.kids[j.toNat]? =some c):0≤c∧c<i:=by
 have:=(EF (a4B (Tc h hd))).2.2.2.1
 rw[BA hy] at this;exact this c (Bm hc)
theorem b4R(h:eI ns i j d)(hd:d>0)(hy:ns[i.toNat]? =some y):y.kids.length≤12:=by
 have:=(EF (a4B (Tc h hd))).2.1
 rwa [BA hy] at this
theorem b4S{d':Int}(h:eI ns i j d)(hd:d>0)(hy:ns[i.toNat]? =some y)(hc:y.kids[j.toNat]? =some c)(hv:(sds ns i.toNat)[c.toNat]? =some v)(hd':d'-1=max (d-1) v):eI ns i (j+1) d':=by
 have hb:=Tc h hd
 obtain⟨h1,h2,h3,h4⟩:=h.1 hb
 have h0:=h.2.1
 have hr:=Yt v (Bm hv)
 rw[BA hy] at h4 h1
 have:=(Ek hc).1
 refine⟨fun _=> ?_,by omega,fun hh=>by rw[hb] at hh;cases hh⟩
 rw[BA hy]
 refine⟨by omega,by omega,by omega,?_⟩
 rw[←h4,HI hc,Dd h0,mx,List.getD,hv,Option.getD_some,hd']
theorem b4T{c:Nat}(hv:(sds ns i.toNat)[c]? =some v):0≤v∧v≤14:=Yt v (Bm hv)
theorem b4U(hi:0≤i)(h:eI ns i j d)(hd:d>0)(hy:ns[i.toNat]? =some y)(hl:¬j<y.kids.length):sds ns i.toNat++[if d>14 then 0 else d]=sds ns (i+1).toNat:=by
 have hb:=Tc h hd
 obtain⟨h1,h2,h3,h4⟩:=h.1 hb
 rw[BA hy,List.drop_eq_nil_of_le (by omega),mx] at h4
 rw[Dd hi,sds,a4A hi,if_pos hb,BA hy,←h4]
 congr 2
 by_cases h5:d>14
 ·rw[if_pos h5,if_pos (by omega)]
 ·rw[if_neg h5,if_neg (by omega)];omega
theorem b4V(hi:0≤i)(h:eI ns i j d)(hd:¬d>0):sds ns i.toNat++[d]=sds ns (i+1).toNat:=by
 have hb:okB ns i=false:=by
  cases hb:okB ns i
  ·rfl
  ·have:=(h.1 hb).2.1;omega
 rw[Dd hi,sds,a4A hi,hb,h.2.2 hb];rfl
theorem b4W(h:Cs ns i=false):0=if okB ns i=true then(1:Int) else 0:=by simp [okB,h]
theorem b4X(h:i>0)(hv:(sds ns i.toNat)[(i-1).toNat]? =some v)(h0:v=0):0=if okB ns i=true then(1:Int) else 0:=by
 have e:(i-1).toNat=i.toNat-1:=by omega
 rw[e] at hv;subst h0
 have:(sds ns i.toNat).getD (i.toNat-1) 0=0:=by rw[List.getD,hv];rfl
 simp only[okB,this,decide_true,Bool.not_true,Bool.or_false]
 rw[decide_eq_false (by omega)];simp
theorem b4Y(h:Cs ns i=true)(h0:0≤i)(h1:¬i>0):1=if okB ns i=true then(1:Int) else 0:=by
 obtain rfl:i=0:=by omega
 simp [okB,h]
theorem b4Z(h:Cs ns i=true)(h0:i>0)(hv:(sds ns i.toNat)[(i-1).toNat]? =some v)(h1:v≠0):1=if okB ns i=true then(1:Int) else 0:=by
 have e:(i-1).toNat=i.toNat-1:=by omega
 rw[e] at hv
 have:(sds ns i.toNat).getD (i.toNat-1) 0≠0:=by rw[List.getD,hv];exact h1
 simp only[okB,h,this,decide_false,Bool.not_false,Bool.or_true,Bool.and_true,if_true]
def Qw(x:List Nd×Int)(o:Int):LS:= {
 ι:=Int×Int,inv:=fun i=>eI x.1 o i.1 i.2,
 regs:=fun i=>[(0,nds x.1),(1,.int .i64 x.2),(5,Al (sds x.1 o.toNat)),(6,.int .i64 o),(7,.int .i64 i.2),(8,.int .i64 i.1)],als:=[],meas:=fun i=>(Ab x.1 o).kids.length-i.1.toNat}
def Oh(x:List Nd×Int)(o:Int):LS:= {
 ι:=Unit,inv:=fun _=>True,
 regs:=fun i=>[(0,nds x.1),(1,.int .i64 x.2),(5,Al (sds x.1 o.toNat)),(6,.int .i64 o),(7,.int .i64 (if okB x.1 o then 1 else 0))],als:=[],meas:=fun i=>0}
def lDs(x:List Nd×Int):LS:= {
 ι:=Int,inv:=fun i=>0≤i∧i≤x.2+1,
 regs:=fun i=>[(0,nds x.1),(1,.int .i64 x.2),(5,Al (sds x.1 i.toNat)),(6,.int .i64 i)],als:=[],meas:=fun i=>(x.2+1-i).toNat,sub:=fun i=>[(9,Qw x i),(200008,Oh x i)]}
def Mx:Sig:= {X:=List Nd×Int,args:=fun x=>[nds x.1,.q x.2],pre:=fun x=>BH x.1∧x.1.length≤2^30∧BG x.1 x.2=true,Y:=Unit,post:=fun x y=>True,res:=fun x y=>Al (sds x.1 (x.2.toNat+1)),outs:=fun x y=>[.top,.top],keep:=false}
def Qx(x:List Nd×Int)(i:Int)(x_1:Int):Prop:=∃(zs:List Int),Al [x_1]=Al zs∧(BI Bx∧(Bb ((sds x.1 (Int.toNat i)).length+zs.length) (8:Nat)∧inR .i64 (i+1)∧(eN (lDs x) i [nds x.1,.q x.2,Al (sds x.1 (Int.toNat i)++zs),.q (i+1)])))
theorem b5a:Ai G Tryz.prog 84 Mx:=
 vcFun_okP [(119,0,FB)] [(38,⟨Int,Bx⟩)] false (fun x=>[(3,lDs x)]) Tryz.func84 rfl (by decide) ⟨b4N,trivial⟩ (fun(x:List Nd×Int)=>(∀(y:Unit),True→(∀(x:Int),True∧True)∧True∧True∧True)∧eA (lDs x) [nds x.1,.q x.2,Al [],.q 0]∧∀(i:Int),0≤i∧i≤x.2+(1:Int)→Aa (decide (i≤x.2)) (Aa (decide (i<(x.1.length:Int))) ((cA FB [nds x.1,.q i] fun x_1 y=>Aa (!Cs x_1.1 x_1.2) (eA (Oh x i) [nds x.1,.q x.2,Al (sds x.1 (Int.toNat i)),.q i,.q 0]) (Aa (decide (i>0)) (inR .i64 (i-1)∧(0≤i-1∧i-1<(↑((sds x.1 (Int.toNat i)).length):Int))∧Int.toNat (i-1)<(sds x.1 (Int.toNat i)).length∧∀(x_2:Int),(sds x.1 (Int.toNat i))[Int.toNat (i-1)]? =some x_2→Aa (x_2==(0:Int)) (eA (Oh x i) [nds x.1,.q x.2,Al (sds x.1 (Int.toNat i)),.q i,.q 0]) (eA (Oh x i) [nds x.1,.q x.2,Al (sds x.1 (Int.toNat i)),.q i,.q 1])) (eA (Oh x i) [nds x.1,.q x.2,Al (sds x.1 (Int.toNat i)),.q i,.q 1])))∧∀(i_1:Unit),True→eA (Qw x i) [nds x.1,.q x.2,Al (sds x.1 (Int.toNat i)),.q i,.q (if okB x.1 i=true then(1:Int) else(0:Int)),.q 0]∧∀(i_2:Int×Int),eI x.1 i i_2.1 i_2.2→Aa (decide (i_2.2>(0:Int))) ((0≤i∧i<(x.1.length:Int))∧∀(e:Nd),x.1[Int.toNat i]? =some e→Aa (decide (i_2.1<(e.kids.length:Int))) ((0≤i∧i<(x.1.length:Int))∧∀(e:Nd),x.1[Int.toNat i]? =some e→(0≤i_2.1∧i_2.1<(e.kids.length:Int))∧∀(e_1:Int),e.kids[Int.toNat i_2.1]? =some e_1→(0≤e_1∧e_1<(↑((sds x.1 (Int.toNat i)).length):Int))∧Int.toNat e_1<(sds x.1 (Int.toNat i)).length∧∀(x_1:Int),(sds x.1 (Int.toNat i))[Int.toNat e_1]? =some x_1→inR .i64 (x_1+(1:Int))∧Aa (decide (x_1+1>i_2.2)) ((0≤i∧i<(x.1.length:Int))∧∀(e:Nd),x.1[Int.toNat i]? =some e→(0≤i_2.1∧i_2.1<(e.kids.length:Int))∧∀(e_2:Int),e.kids[Int.toNat i_2.1]? =some e_2→(0≤e_2∧e_2<(↑((sds x.1 (Int.toNat i)).length):Int))∧Int.toNat e_2<(sds x.1 (Int.toNat i)).length∧∀(x_2:Int),(sds x.1 (Int.toNat i))[Int.toNat e_2]? =some x_2→inR .i64 (x_2+(1:Int))∧inR .i64 (i_2.1+(1:Int))∧eN (Qw x i) i_2 [nds x.1,.q x.2,Al (sds x.1 (Int.toNat i)),.q i,.q (x_2+(1:Int)),.q (i_2.1+(1:Int))]) (inR .i64 (i_2.1+(1:Int))∧eN (Qw x i) i_2 [nds x.1,.q x.2,Al (sds x.1 (Int.toNat i)),.q i,.q i_2.2,.q (i_2.1+(1:Int))])) (Aa (decide (i_2.2>(14:Int))) (∃(x_1:Int),0=x_1∧(Qx x i x_1)) (∃(x_1:Int),i_2.2=x_1∧(Qx x i x_1)))) (Aa (decide (i_2.2>(14:Int))) (∃(x_1:Int),0=x_1∧(Qx x i x_1)) (∃(x_1:Int),i_2.2=x_1∧(Qx x i x_1)))) (rA Mx x [Al (sds x.1 (Int.toNat i)),.top,.top])) (rA Mx x [Al (sds x.1 (Int.toNat i)),.top,.top])) (fun x=>by kernel_rfl) fun(x:List Nd×Int) (hx:BH x.1∧x.1.length≤2^30∧BG x.1 x.2=true)=>(by
 dsimp only[Qx,cA,eA,eN,lDs,Qw,Oh,Br,nds,Al,rA,Mx,FB,As,Az,mvL,lnL,mvE,lnE,Bl,AV.q]
 obtain⟨h1,h2,h3⟩:=hx;have hl:=h1.1;have hn:=BB.1 h3
 (repeat' first|(with_reducible first|rfl|exact True.intro|apply AK|apply And.intro|((first|apply AA|apply AI|apply AB|apply AJ)<;>intro _))|(apply Av<;>intro _)|apply AH|refine Ae () ?_ ?_|((first|apply AO|apply AN|apply AM|apply AL|apply AG|apply AF|apply AE|apply AD|apply AC)<;>try dsimp only)|apply Ae|(refine Prod.forall.2 ?_;intro _;try dsimp only)|(intro _;try dsimp only))
 all_goals first
  |rfl
  |omega
  |exact b4W ‹_›
  |exact b4X ‹_› ‹_› ‹_›
  |exact b4Y ‹_› (by omega) ‹_›
  |exact b4Z ‹_› ‹_› ‹_› ‹_›
  |exact b4P
  |(rw[IA];omega)
  |skip
 all_goals try(repeat(rename x.1[Int.toNat _]? =some _=>hq;revert hq;rename x.1[Int.toNat _]? =some _=>hr;intro hq;rw[hr] at hq;cases hq))
 all_goals try(repeat(rename(Nd.kids _)[Int.toNat _]? =some _=>hq;revert hq;rename(Nd.kids _)[Int.toNat _]? =some _=>hr;intro hq;rw[hr] at hq;cases hq))
 all_goals try(rename(sds x.1 _)[Int.toNat _]? =some _=>hq;revert hq;rename(sds x.1 _)[Int.toNat _]? =some _=>hr2;intro hq;have hqq:=hr2.symm.trans hq;simp only[Option.some.injEq] at hqq;subst hqq)
 all_goals try(have hke:=b4Q ‹_› ‹_› ‹_› ‹_›)
 all_goals try(have hle:=b4R ‹_› ‹_› ‹_›)
 all_goals try(have hve:=b4T ‹_›)
 all_goals try(have hse:= ‹eI _ _ _ _›.2.1)
 all_goals first
  |omega
  |(rw[IA];omega)
  |((try simp only[An]);omega)
  |exact b4S ‹_› ‹_› ‹_› ‹_› ‹_› (by omega)
  |(rw[←b4U (by omega) ‹_› ‹_› ‹_› ‹_›];simp [*];done)
  |exact b4V (by omega) ‹_› ‹_›
  |(rw[BA ‹_›];omega)
  |(congr 1;omega)
  |(simp only[Bb,IA,List.length_cons,List.length_nil];omega)
  |skip)
def Hb:Sig:= {X:=List Nd×Int,args:=fun x=>[nds x.1,.q x.2],pre:=fun x=>BH x.1∧x.1.length≤2^30,Y:=Unit,post:=fun x y=>True,res:=fun x y=> .q (Cx x.1 x.2),outs:=fun x y=>[.top,.top],keep:=false}
theorem Yu:Ai G Tryz.prog 44 Hb:=
 vcFun_okP [(45,0,BU),(84,0,Mx)] [] false (fun x=>[]) Tryz.func44 rfl (by decide) ⟨Ir,b5a,trivial⟩ (fun(x:List Nd×Int)=>(∀(y:Unit),True→True∧True∧True∧True)∧inR .i64 ((x.1.length:Int)-(1:Int))∧cA BU [.q x.2,.q 0,.q ((x.1.length:Int)-(1:Int))] fun x_1 y=>Aa (!inn x_1.1 x_1.2.1 x_1.2.2) (rA Hb x [.q 0,.top,.top]) (cA Mx [nds x.1,.q x.2] fun x_2 y=>(0≤x.2∧x.2<(↑((sds x_2.1 (Int.toNat x_2.2+(1:Nat))).length):Int))∧Int.toNat x.2<(sds x_2.1 (Int.toNat x_2.2+(1:Nat))).length∧∀(x_3:Int),(sds x_2.1 (Int.toNat x_2.2+(1:Nat)))[Int.toNat x.2]? =some x_3→rA Hb x [.q x_3,.top,.top])) (fun x=>by kernel_rfl) fun(x:List Nd×Int) (hx:BH x.1∧x.1.length≤2^30)=>(by
 dsimp only[cA,Br,nds,Al,rA,BU,Mx,Hb,As,Az,mvL,lnL,mvE,lnE,AV.q]
 obtain⟨h1,h2⟩:=hx;have hl:=h1.1
 (repeat' first|(with_reducible first|rfl|exact True.intro|apply AK|apply And.intro|((first|apply AA|apply AI|apply AB|apply AJ)<;>intro _))|(apply Av<;>intro _)|apply AH|refine Ae () ?_ ?_|((first|apply AO|apply AN|apply AM|apply AL|apply AG|apply AF|apply AE|apply AD|apply AC)<;>try dsimp only)|apply Ae|(refine Prod.forall.2 ?_;intro _;try dsimp only)|(intro _;try dsimp only))
 all_goals first
  |exact h1
  |exact h2
  |((try simp only[An]);omega)
  |(rw[JN] at*;exact a4p ‹_›)
  |(have hh:= ‹inn x.2 0 (x.1.length-1)=true›;rw[JN] at hh;have:=BB.1 hh;first|exact hh|omega|exact b4O hh ‹_› |(rw[IA];omega))
  |skip)
theorem a4C(hv:(cnt ns.length (CX ns))[i.toNat]? =some v)(h0:0≤i):((CX ns).count i:Int)=v:=by
 have h:i.toNat<ns.length:=by have:=(Ek hv).1;rwa [KS] at this
 rw[Of h] at hv
 have e2:((i.toNat:Nat):Int)=i:=by omega
 rw[e2] at hv;exact Option.some.inj hv
theorem b5b(h:tE ns i)(hl:i+1<(ns.length:Int))(hv:(cnt ns.length (CX ns))[i.toNat]? =some v)(h1:v=1):tE ns (i+1):=by
 have:=a4C hv h.1
 refine⟨by have:=h.1;omega,by omega,fun c hc=> ?_⟩
 by_cases e:(c:Int)<i
 ·exact h.2.2 c e
 ·have:=h.1
  obtain rfl:i=(c:Int):=by omega
  omega
theorem Yv(h:tI ns)(hy:ns[i.toNat]? =some y)(hc:y.kids[j.toNat]? =some c):0≤c∧c<ns.length:=(SV h hy).2 c (Bm hc)
theorem b5c(h:tI ns)(hy:ns[i.toNat]? =some y):y.kids.length≤12:=(SV h hy).1
theorem b5d(h0:0≤j)(hy:ns[i.toNat]? =some y)(hc:y.kids[j.toNat]? =some c):tk ns i (j+1)=tk ns i j++[c]:=b4o h0 (by rw[BA hy];exact hc)
theorem b5e(h0:0≤i)(hy:ns[i.toNat]? =some y)(hl:¬j<y.kids.length):tk ns i j=CX (ns.take (i+1).toNat):=b4p h0 hy (by rw[BA hy];exact hl)
def Td(x:List Nd)(o:Int):LS:= {
 ι:=Int,inv:=fun j=>0≤j∧j≤(Ab x o).kids.length,
 regs:=fun j=>[(0,nds x),(3,.int .i64 x.length),(4,Al (cnt x.length (tk x o j))),(5,.int .i64 o),(6,.int .i64 j)],als:=[],meas:=fun j=>(Ab x o).kids.length-j.toNat}
def Te(x:List Nd):LS:= {
 ι:=Int,inv:=fun i=>0≤i∧i≤x.length,
 regs:=fun i=>[(0,nds x),(3,.int .i64 x.length),(4,Al (cnt x.length (CX (x.take i.toNat)))),(5,.int .i64 i)],als:=[],meas:=fun i=>x.length-i.toNat,
 sub:=fun i=>[(9,Td x i)]}
def Tf(x:List Nd):LS:= {
 ι:=Int,inv:=tE x,
 regs:=fun i=>[(3,.int .i64 x.length),(4,Al (cnt x.length (CX x))),(7,.int .i64 i)],als:=[],meas:=fun i=>x.length-i.toNat}
def Jl:Sig:= {X:=List Nd,args:=fun x=>[nds x],pre:=fun x=>BH x∧x.length≤2^30,Y:=Unit,post:=fun x y=>True,res:=fun x y=> .bool (Dl x),outs:=fun x y=>[.top],keep:=false}
theorem b5f:Ai G Tryz.prog 68 Jl:=
 vcFun_okP [(45,0,BU),(44,0,Hb)] [(38,⟨Int,Bx⟩)] false (fun x=>[(6,Te x),(13,Tf x)]) Tryz.func68 rfl (by decide) ⟨Ir,Yu,trivial⟩ (fun(x:List Nd)=>(∀(y:Unit),True→True∧True∧True)∧cA BU [.q (x.length:Int),.q 1,.q 300] fun x_1 y=>Aa (!inn x_1.1 x_1.2.1 x_1.2.2) (rA Jl x [.bool false,.top]) (inR .i64 ((x.length:Int)-(1:Int))∧(0≤(x.length:Int)-(1:Int)∧(x.length:Int)-1<(x.length:Int))∧∀(e:Nd),x[Int.toNat ((x.length:Int)-(1:Int))]? =some e→Aa (e.kind != 22) (rA Jl x [.bool false,.top]) (inR .i64 ((x.length:Int)-(1:Int))∧cA Hb [nds x,.q ((x.length:Int)-(1:Int))] fun x_2 y=>Aa (Cx x_2.1 x_2.2==(0:Int)) (rA Jl x [.bool false,.top]) ((0≤(x.length:Int)∧(x.length:Int)≤(x.length:Int)∧(↑(8:Nat):Int)*(x.length:Int)≤(2:Int)^(46:Nat)∧(x.length:Int)≤(2:Int)^(46:Nat))∧∃(x_3:Int),0=x_3∧eA (Te x) [nds x,.q (x.length:Int),Al (List.replicate (Int.toNat (x.length:Int)) x_3),.q 0]∧∀(i:Int),0≤i∧i≤(x.length:Int)→Aa (decide (i<(x.length:Int))) (eA (Td x i) [nds x,.q (x.length:Int),Al (cnt (x.length) (CX (List.take (Int.toNat i) x))),.q i,.q 0]∧∀(i_1:Int),0≤i_1∧i_1≤(↑((Ab x i).kids.length):Int)→(0≤i∧i<(x.length:Int))∧∀(e:Nd),x[Int.toNat i]? =some e→Aa (decide (i_1<(e.kids.length:Int))) ((0≤i∧i<(x.length:Int))∧∀(e:Nd),x[Int.toNat i]? =some e→(0≤i_1∧i_1<(e.kids.length:Int))∧∀(e_1:Int),e.kids[Int.toNat i_1]? =some e_1→(0≤e_1∧e_1<(↑((cnt (List.length x) (tk x i i_1)).length):Int))∧Int.toNat e_1<(cnt (List.length x) (tk x i i_1)).length∧∀(x_4:Int),(cnt (x.length) (tk x i i_1))[Int.toNat e_1]? =some x_4→inR .i64 (x_4+(1:Int))∧(0≤e_1∧e_1<(↑((cnt (List.length x) (tk x i i_1)).length):Int))∧Int.toNat e_1<(cnt (List.length x) (tk x i i_1)).length∧∀(x_5:Int),(cnt (x.length) (tk x i i_1))[Int.toNat e_1]? =some x_5→∃(x':Int),((@List.nil AV)=[]∧(@List.nil AV)=[])∧x_4+1=x'∧inR .i64 (i_1+(1:Int))∧eN (Td x i) i_1 [nds x,.q (x.length:Int),Al (List.set (cnt (x.length) (tk x i i_1)) (Int.toNat e_1) x'),.q i,.q (i_1+(1:Int))]) (inR .i64 (i+1)∧eN (Te x) i [nds x,.q (x.length:Int),Al (cnt (x.length) (tk x i i_1)),.q (i+1)])) (eA (Tf x) [.q (x.length:Int),Al (cnt (x.length) (CX (List.take (Int.toNat i) x))),.q 0]∧∀(i:Int),tE x i→inR .i64 (i+1)∧Aa (decide (i+1<(x.length:Int))) ((0≤i∧i<(↑((cnt (List.length x) (CX x)).length):Int))∧Int.toNat i<(cnt (List.length x) (CX x)).length∧∀(x_4:Int),(cnt (x.length) (CX x))[Int.toNat i]? =some x_4→Aa (x_4 != (1:Int)) (rA Jl x [.bool false,.top]) (inR .i64 (i+1)∧eN (Tf x) i [.q (x.length:Int),Al (cnt (x.length) (CX x)),.q (i+1)])) (rA Jl x [.bool true,.top])))))) (fun x=>by kernel_rfl) fun(x:List Nd) (hx:BH x∧x.length≤2^30)=>(by
 dsimp only[cA,eA,eN,Te,Td,Tf,Br,nds,Al,rA,BU,Hb,Jl,As,Az,mvL,lnL,mvE,lnE,Bl,AV.q]
 obtain⟨h1,h2⟩:=hx;have hl:=h1.1
 (repeat' first|(with_reducible first|rfl|exact True.intro|apply AK|apply And.intro|((first|apply AA|apply AI|apply AB|apply AJ)<;>intro _))|(apply Av<;>intro _)|apply AH|refine Ae () ?_ ?_|((first|apply AO|apply AN|apply AM|apply AL|apply AG|apply AF|apply AE|apply AD|apply AC)<;>try dsimp only)|apply Ae|(refine Prod.forall.2 ?_;intro _;try dsimp only)|(intro _;try dsimp only))
 all_goals try(have t1:=BW.1 ‹inn x.length 1 300=true›)
 all_goals try(have t0:=b4v ‹_› ‹_› ‹_› ‹_›)
 all_goals try(repeat(rename x[Int.toNat _]? =some _=>hq;revert hq;rename x[Int.toNat _]? =some _=>hr;intro hq;rw[hr] at hq;cases hq))
 all_goals try(repeat(rename(Nd.kids _)[Int.toNat _]? =some _=>hq;revert hq;rename(Nd.kids _)[Int.toNat _]? =some _=>hr;intro hq;rw[hr] at hq;cases hq))
 all_goals try(simp only[BA ‹x[Int.toNat _]? =some _›] at*)
 all_goals first
  |rfl
  |exact Yr (b4w ‹_›)
  |exact Yr (b4x ‹_› ‹_›)
  |exact Yr (fun h=>h.2.2.2 ‹_›)
  |exact b4h
  |(rw[b4n];done)
  |(have:=Yv ‹_› ‹_› ‹(Nd.kids _)[Int.toNat _]? =some _›;(try rw[KS]);omega)
  |(rw[b5d (by omega) ‹_› ‹_›];exact b4i (Yv ‹_› ‹_› ‹_›).1 (Yv ‹_› ‹_› ‹_›).2 ‹_›)
  |(rw[b5e (by omega) ‹_› ‹_›];done)
  |(rw[b4y ‹_›];done)
  |(have:=b4u ‹_› ‹_› ‹_›;omega)
  |exact b4q ‹_› ‹_› (by omega)
  |exact b4r (a4C ‹_› (‹tE _ _›.1)) (‹tE _ _›.1) (by omega) ‹_›
  |exact b5b ‹_› ‹_› ‹_› ‹_›
  |exact⟨by omega,by omega,fun c hc=>by omega⟩
  |((try simp only[An,Bb,List.length_replicate,KS] at*);omega)
  |(have:=b5c ‹_› ‹_›;(try simp only[An] at*);omega)
  |(have hte:= ‹tE x _›;have:=hte.1;have:=hte.2.1;(try rw[KS]);(try simp only[An] at*);omega)
  |skip)
end Go.My
end
section
namespace Go.My
open Go.Eng
variable {i k n:Int}{m t:List UInt8}{ns:List Nd}{x:Nd}
def CS(ns:List Nd)(k:Int):Prop:=BG ns k=true∧∀i:Nat,(i:Int)≤k→Cs ns i=true
theorem KT(h:Cx ns k≠0):CS ns k:=⟨(Qi h).1,(Qi h).2.2⟩
theorem Jm(h:CS ns k):Cs ns k=true:=by
 have:=BB.1 h.1
 have h2:=h.2 k.toNat (by omega)
 rwa [show((k.toNat:Nat):Int)=k by omega] at h2
theorem FC{c:Int}(h:CS ns k)(hc:c∈(Ab ns k).kids):CS ns c∧0≤c∧c<k:=by
 have h1:=(EF (Jm h)).2.2.2.1 c hc
 have h2:=BB.1 h.1
 exact⟨⟨BB.2 (by omega),fun i hi=>h.2 i (by omega)⟩,h1⟩
def FD(ns:List Nd)(k:Int):List Int:=(Ab ns k).kids
def vis(ns:List Nd):Nat→Int→List Int
 |0,_=>[]
 |n+1,k=>k::(FD ns k).flatMap (vis ns n)
def WL(ns:List Nd):Nat→List Int→List Int
 |0,_=>[]
 |n+1,l=>l++WL ns n (l.flatMap (FD ns))
theorem b5g{ns:List Nd}:∀ {n:Nat} {l:List Int},(l.flatMap (vis ns n)).length=(WL ns n l).length
 |0,l=>by
  have:l.flatMap (vis ns 0)=[]:=by simp [vis]
  rw[this];rfl
 |n+1,l=>by
  rw[WL,List.length_append,←b5g (l:=l.flatMap (FD ns)),List.flatMap_assoc]
  have:∀l:List Int,(l.flatMap (vis ns (n+1))).length=l.length+(l.flatMap fun x=>(FD ns x).flatMap (vis ns n)).length:=by
   intro l
   induction l with
   |nil=>rfl
   |cons k l ih=>
    rw[List.flatMap_cons,List.flatMap_cons,List.length_append,List.length_append,ih,vis,List.length_cons,List.length_cons];omega
  rw[this]
theorem a4D{ns:List Nd}:∀ {n:Nat} {l:List Int},WL ns n (l.flatMap (FD ns))=(WL ns n l).flatMap (FD ns)
 |0,l=>rfl
 |n+1,l=>by rw[WL,WL,List.flatMap_append,a4D (l:=l.flatMap (FD ns))]
theorem b5h{n:Nat}{l:List Int}:WL ns (n+1) l=l++(WL ns n l).flatMap (FD ns):=by rw[WL,a4D]
theorem Tg(f:Int→Nat):∀(n:Nat) (V:List Int),V.Nodup→(∀p∈V,0≤p∧p<n)→(V.map f).sum≤((List.range n).map fun i:Nat=>f i).sum
 |0,V,_,h=>by
  have:V=[]:=by
   cases V with
   |nil=>rfl
   |cons p V=>have:=h p (by simp);omega
  subst this;simp
 |n+1,V,hn,h=>by
  rw[List.range_succ,List.map_append,List.sum_append]
  by_cases hm:(n:Int)∈V
  ·have hp:=List.perm_cons_erase hm
   have e:(V.map f).sum=f n+((V.erase n).map f).sum:=by
    have:=(hp.map f).sum_nat
    rw[this];simp
   have h2:=Tg f n (V.erase n) (hn.erase _) (fun p hp=>by
    have h3:=(List.Nodup.mem_erase_iff hn).1 hp
    have:=h p h3.2
    have h4:=h3.1
    omega)
   rw[e];simp;omega
  ·have h2:=Tg f n V hn (fun p hp=>by
    have:=h p hp
    have:p≠n:=fun e=>hm (e▸hp)
    omega)
   simp;omega
theorem b5i:ns=(List.range ns.length).map fun i:Nat=>Ab ns i:=by
 apply List.ext_getElem?
 intro i
 by_cases h:i<ns.length
 ·have:ns[i]? =some ns[i]:=by simp
  rw[List.getElem?_map,List.getElem?_range h,this]
  simp only[Option.map_some]
  congr 1
  exact(BA (c:=(i:Int)) (by simp)).symm
 ·rw[List.getElem?_eq_none (by omega),List.getElem?_eq_none (by simp;omega)]
theorem b5j{j:Int}:(CX ns).count j=((List.range ns.length).map fun i:Nat=>(FD ns i).count j).sum:=by
 have h:CX ns=((List.range ns.length).map fun i:Nat=>Ab ns i).flatMap (·.kids):=by rw[←b5i];rfl
 rw[h,List.count_flatMap,List.map_map];rfl
theorem a4E:∀ {l:List Nat},(∀m∈l,m=0)→l.sum=0
 |[],_=>rfl
 |m::l,h=>by rw[List.sum_cons,h m (by simp),a4E fun n hn=>h n (by simp [hn])]
def a4F(ns:List Nd):Prop:=(∀i:Nat,i<ns.length→Cs ns i=true)∧∀i:Nat,i<ns.length-1→(CX ns).count (i:Int)=1
theorem a4G{ns:List Nd}(h:a4F ns)(h0:1≤ns.length):∀n:Nat,(WL ns n [(ns.length:Int)-1]).Nodup∧∀p∈WL ns n [(ns.length:Int)-1],0≤p∧p<ns.length
 |0=>⟨List.nodup_nil,fun p hp=>by cases hp⟩
 |n+1=>by
  obtain⟨ih1,ih2⟩:=a4G h h0 n
  rw[b5h]
  have hk:∀p∈WL ns n [(ns.length:Int)-1],∀c∈FD ns p,0≤c∧c<p:=by
   intro p hp c hc
   have h2:=ih2 p hp
   have h3:=h.1 p.toNat (by omega)
   have e:((p.toNat:Nat):Int)=p:=by omega
   rw[e] at h3
   exact(EF h3).2.2.2.1 c hc
  refine⟨?_,?_⟩
  ·rw[List.nodup_iff_count]
   intro j
   rw[List.count_append,List.count_flatMap]
   by_cases hj:j=(ns.length:Int)-1
   ·subst hj
    have:((WL ns n [(ns.length:Int)-1]).map (List.count ((ns.length:Int)-1)∘FD ns)).sum=0:=by
     refine a4E fun m hm=> ?_
     obtain⟨p,hp,rfl⟩:=List.mem_map.1 hm
     simp only[Function.comp]
     rw[List.count_eq_zero]
     intro hc
     have:=hk p hp _ hc
     have:=ih2 p hp
     omega
    rw[this];simp
   ·have h1:List.count j [(ns.length:Int)-1]=0:=by
     rw[List.count_eq_zero];simpa using hj
    have h2:=Tg (fun p=>(FD ns p).count j) ns.length _ ih1 ih2
    rw[←b5j] at h2
    have h3:(CX ns).count j≤1:=by
     by_cases hr:0≤j∧j<ns.length
     ·have:=h.2 j.toNat (by omega)
      rw[show((j.toNat:Nat):Int)=j by omega] at this;omega
     ·have:(CX ns).count j=0:=by
       rw[List.count_eq_zero]
       intro hm
       obtain⟨y,hy,hc⟩:=List.mem_flatMap.1 hm
       obtain⟨i,hi⟩:=List.mem_iff_getElem?.1 hy
       have hlt:=(Ek hi).1
       have:=(EF (h.1 i hlt)).2.2.2.1 j
       rw[BA (c:=(i:Int)) (by simpa using hi)] at this
       have:=this hc
       omega
      omega
    rw[h1]
    have e:(List.count j∘FD ns)=fun p=>(FD ns p).count j:=rfl
    rw[e];omega
  ·intro p hp
   rcases List.mem_append.1 hp with hp|hp
   ·simp at hp;omega
   ·obtain⟨q,hq,hc⟩:=List.mem_flatMap.1 hp
    have:=hk q hq p hc
    have:=ih2 q hq
    omega
theorem Qy(h:Dl ns=true):a4F ns∧1≤ns.length∧ns.length≤300∧CS ns ((ns.length:Int)-1):=by
 simp only[Dl,Bool.and_eq_true,decide_eq_true_eq,Bool.not_eq_true',decide_eq_false_iff_not,List.all_eq_true,List.mem_range] at h
 have hu:=KT h.2.2.1
 refine⟨⟨fun i hi=>hu.2 i (by omega),fun i hi=> ?_⟩,h.1.1,h.1.2,hu⟩
 exact h.2.2.2 i hi
structure Sg where
 kind:Int
 text:List UInt8
 pos:Int
 blank:Bool
variable {sg:List Sg}
def sgA:Sg→List AV:=fun s=>[.int .i64 s.kind,.str s.text,.int .i64 s.pos,.bool s.blank]
theorem Du(s:Sg):sgA s=[.int .i64 s.kind,.str s.text,.int .i64 s.pos,.bool s.blank]:=rfl
def sgs(l:List Sg):AV:= .sl false 0 4 Sg sgA l
def HR(l:List Sg):AV:= .sl true 0 4 Sg sgA l
def kd(x:Nd)(i:Nat):Int:=x.kids.getD i 0
theorem KU{i:Nat}{c:Int}(h:x.kids[i]? =some c):kd x i=c:=by simp [kd,List.getD,h]
theorem Th(h:CS ns k):(1≤(Ab ns k).kind∧(Ab ns k).kind≤22)∧(Ee (Ab ns k).kind).1≤(Ab ns k).kids.length∧(Ab ns k).kids.length≤(Ee (Ab ns k).kind).2:=by
 have h1:=EF (Jm h)
 have hk:=h1.2.2.2.2.2.1
 have hin:inn (Ab ns k).kind 1 22=true:=by
  cases hh:inn (Ab ns k).kind 1 22
  ·rw[a3Z hh] at hk;cases hk
  ·rfl
 have h2:=BW.1 hin
 have hb:=a3Y (l:=(Ab ns k).kids.map (Bc ns)) h2.1 h2.2
 rw[hk] at hb
 have hl:decide (((Ab ns k).kids.map (Bc ns)).length≤12)=true:=decide_eq_true (by rw[List.length_map];exact h1.2.1)
 rw[hl] at hb
 simp only[Bool.and_true,Bool.and_eq_true,List.length_map] at hb
 exact⟨h2,BW.1 hb.1⟩
def Fl(t:List UInt8):Nat→Int→Int→Option (List Sg)
 |0,_,_=>none
 |n+1,at_,br=>match t[at_.toNat]? with
  |none=>some []
  |some c=>if c.toNat=32 then Fl t n (at_+1) br
   else if c.toNat=10 then Fl t n (at_+1) (br+1)
   else if(Bg (t.drop at_.toNat)).ok then(Fl t n (at_+(Bg (t.drop at_.toNat)).size) 0).map (⟨(Bg (t.drop at_.toNat)).kind,(Bg (t.drop at_.toNat)).text,at_,decide (br>1)⟩:: ·)
   else none
def CT(t:List UInt8):Option (List Sg):=if 3000<t.length then none else Fl t (t.length+1) 0 0
structure Ps where
 pos:Int
 deep:Int
 nodes:List Nd
variable {s:Ps}
abbrev PR:=Option (Int×Ps)
abbrev PL:=Option (List Int×Ps)
def EQ:Sg:=⟨0,[],0,false⟩
def sgO(sg:List Sg)(i:Int):Sg:=sg.getD i.toNat EQ
def isT(sg:List Sg)(s:Ps)(k:Int)(t:List UInt8):Bool:=decide ((sgO sg s.pos).kind=k)&&((sgO sg s.pos).text==t)
def isM(sg:List Sg)(s:Ps)(t:List UInt8):Bool:=isT sg s 4 t
def isW(sg:List Sg)(s:Ps)(t:List UInt8):Bool:=isT sg s 1 t
def DY(sg:List Sg)(i:Int):Bool:=decide ((sgO sg i).kind=1)&& !kw (sgO sg i).text
def adv(s:Ps):Ps:=⟨s.pos+1,s.deep,s.nodes⟩
def dp(s:Ps)(d:Int):Ps:=⟨s.pos,s.deep+d,s.nodes⟩
def BE(sg:List Sg)(t:List UInt8)(s:Ps):Option Ps:=if isM sg s t then some (adv s) else none
def Bd(x:Nd)(s:Ps):PR:=if 300≤s.nodes.length then none else some (s.nodes.length,⟨s.pos,s.deep,s.nodes++[x]⟩)
def Gq(r:PR):PR:=r.map fun p=>(p.1,adv p.2)
def FT(sg:List Sg)(k:Int)(b:Bool)(s:Ps):PR:=Gq (Bd ⟨k,(sgO sg s.pos).text,[],b⟩ s)
def BQ(sg:List Sg)(s:Ps):PR:=if DY sg s.pos then FT sg 1 false s else none
def FE(sg:List Sg)(s:Ps):Option (List UInt8×Ps):=if DY sg s.pos then some ((sgO sg s.pos).text,adv s) else none
def Bq(sg:List Sg)(m:List UInt8)(x:Nd)(s:Ps):PR:=if isM sg s m then Gq (Bd x s) else none
def Bw(sg:List Sg)(one:Ps→PR)(m:List UInt8):Nat→List Int→Ps→PL
 |0,_,_=>none
 |n+1,ks,s=>if isM sg s m then some (ks,s) else(one s).bind fun p=>if isM sg p.2 [44] then Bw sg one m n (ks++[p.1]) (adv p.2) else some (ks++[p.1],p.2)
def EH(sg:List Sg):Nat→Int→Int
 |0,i=>i
 |n+1,i=>if DY sg i then(if(sgO sg (i+1)).text=[44] then EH sg n (i+2) else i+1) else i
def KV(sg:List Sg)(s:Ps):Bool:=((sgO sg (EH sg (sg.length+1) (s.pos+1))).text==[41])&&((sgO sg (EH sg (sg.length+1) (s.pos+1)+1)).text==[61,62])
def BN(l:Nat):List (List UInt8):=match l with
 |0=>[[124,124]]
 |1=>[[38,38]]
 |2=>[[61,61]]
 |3=>[[60]]
 |4=>[[43],[45]]
 |_=>[[42]]
def IB(sg:List Sg)(l:Nat)(s:Ps):List UInt8:=((BN l).find? fun m=>isM sg s m).getD []
def Gr(sg:List Sg)(l:Nat)(one:Ps→PR):Nat→List UInt8→List Int→Ps→PR
 |0,_,_,_=>none
 |n+1,t,ks,s=>
  if t≠[]∧IB sg l s≠t then(Bd ⟨7,t,ks,false⟩ s).bind fun p=>Gr sg l one n [] [p.1] p.2
  else if IB sg l s=[] then some (ks.headD 0,s)
  else(one (adv s)).bind fun p=>Gr sg l one n (IB sg l s) (ks++[p.1]) p.2
def Dq(sg:List Sg)(val:Ps→PR)(k:Int)(s:Ps):PR:=(BE sg [40] s).bind fun s=>(Bw sg val [41] (sg.length+1) [k] s).bind fun p=>Bq sg [41] ⟨5,[],p.1,false⟩ p.2
def FU(sg:List Sg)(val:Ps→PR):Nat→Int→Ps→PR
 |0,_,_=>none
 |n+1,k,s=>
  if isM sg s [40] then(Dq sg val k s).bind fun p=>FU sg val n p.1 p.2
  else if isM sg s [46] then(if DY sg (s.pos+1) then(Gq (Bd ⟨6,(sgO sg (s.pos+1)).text,[k],false⟩ (adv s))).bind fun p=>FU sg val n p.1 p.2 else none)
  else some (k,s)
def FF(sg:List Sg)(val:Ps→PR):Nat→List Int→Ps→PL
 |0,_,_=>none
 |n+1,ks,s=>if isM sg s [46,46] then(BQ sg (adv s)).bind fun p=>(Dq sg val p.1 p.2).bind fun q=>FF sg val n (ks++[q.1]) q.2 else some (ks,s)
inductive NT where
 |value|pick|chain (l:Nat)|fin|base
def pE(sg:List Sg):Nat→NT→Ps→PR
 |0,_,_=>none
 |n+1,.value,s=>(pE sg n .pick s).bind fun p=>if isM sg p.2 [46,46] then(FF sg (pE sg n .value) (sg.length+1) [p.1] p.2).bind fun q=>Bd ⟨10,[],q.1,false⟩ q.2 else some p
 |n+1,.pick,s=>if 20≤s.deep then none else(pE sg n (.chain 0) (dp s 1)).bind fun p=>
   if isM sg p.2 [63] then(pE sg n .pick (adv p.2)).bind fun a=>(BE sg [58] a.2).bind fun s1=>(pE sg n .pick s1).bind fun b=>(Bd ⟨8,[],[p.1,a.1,b.1],false⟩ b.2).map fun q=>(q.1,dp q.2 (-1))
   else some (p.1,dp p.2 (-1))
 |n+1,.chain l,s=>if l=6 then pE sg n .fin s else(pE sg n (.chain (l+1)) s).bind fun p=>Gr sg l (pE sg n (.chain (l+1))) (2*sg.length+4) [] [p.1] p.2
 |n+1,.fin,s=>(pE sg n .base s).bind fun p=>FU sg (pE sg n .value) (sg.length+1) p.1 p.2
 |n+1,.base,s=>
  if(sgO sg s.pos).kind=1 then BQ sg s
  else if(sgO sg s.pos).kind=2 then FT sg 2 false s
  else if(sgO sg s.pos).kind=3 then FT sg 3 false s
  else if isM sg s [91] then(Bw sg (pE sg n .value) [93] (sg.length+1) [] (adv s)).bind fun p=>Bq sg [93] ⟨4,[],p.1,false⟩ p.2
  else if isM sg s [40]&&KV sg s then(Bw sg (BQ sg) [41] (sg.length+1) [] (adv s)).bind fun p=>(BE sg [41] p.2).bind fun s1=>(BE sg [61,62] s1).bind fun s2=>(pE sg n .pick s2).bind fun q=>Bd ⟨9,[],p.1++[q.1],false⟩ q.2
  else if isM sg s [40] then(pE sg n .value (adv s)).bind fun p=>Bq sg [41] ⟨11,[],[p.1],false⟩ p.2
  else none
def peN:Nat:=40000
def Cl(sg:List Sg):Ps→PR:=pE sg peN .value
def DN(sg:List Sg)(b:Bool)(s:Ps):PR:=(FE sg s).bind fun p=>
 if isM sg p.2 [61] then(Cl sg (adv p.2)).bind fun q=>Bq sg [59] ⟨12,p.1,[q.1],b⟩ q.2 else Bq sg [59] ⟨12,p.1,[],b⟩ p.2
def DZ(sg:List Sg)(s:Ps):PR:=(BE sg [40] s).bind fun s1=>(Cl sg s1).bind fun p=>(BE sg [41] p.2).map fun s2=>(p.1,s2)
def CY(sg:List Sg)(one:Bool→Ps→PR)(m:List UInt8):Nat→List Int→Ps→PL
 |0,_,_=>none
 |n+1,ks,s=>if isM sg s m then some (ks,s) else(one ((sgO sg s.pos).blank&&decide (0<ks.length)) s).bind fun p=>CY sg one m n (ks++[p.1]) p.2
def BO(sg:List Sg)(one:Bool→Ps→PR)(s:Ps):PR:=if 20≤s.deep then none else(BE sg [123] (dp s 1)).bind fun s1=>(CY sg one [125] (sg.length+1) [] s1).bind fun p=>(Bq sg [125] ⟨18,[],p.1,false⟩ p.2).map fun q=>(q.1,dp q.2 (-1))
def stR(sg:List Sg):Nat→Bool→Ps→PR
 |0,_,_=>none
 |n+1,b,s=>
  if(sgO sg s.pos).kind=5 then FT sg 19 b s
  else if isW sg s [118,97,114] then DN sg b (adv s)
  else if isW sg s [114,101,116,117,114,110] then(if isM sg (adv s) [59] then Bq sg [59] ⟨15,[],[],b⟩ (adv s) else(Cl sg (adv s)).bind fun p=>Bq sg [59] ⟨15,[],[p.1],b⟩ p.2)
  else if isW sg s [105,102] then(DZ sg (adv s)).bind fun p=>(BO sg (stR sg n) p.2).bind fun q=>
   if isW sg q.2 [101,108,115,101] then(BO sg (stR sg n) (adv q.2)).bind fun r=>Bd ⟨16,[],[p.1,q.1,r.1],b⟩ r.2 else Bd ⟨16,[],[p.1,q.1],b⟩ q.2
  else if isW sg s [119,104,105,108,101] then(DZ sg (adv s)).bind fun p=>(BO sg (stR sg n) p.2).bind fun q=>Bd ⟨17,[],[p.1,q.1],b⟩ q.2
  else if DY sg s.pos&&isM sg (adv s) [61] then(Cl sg (adv (adv s))).bind fun p=>Bq sg [59] ⟨13,(sgO sg s.pos).text,[p.1],b⟩ p.2
  else(Cl sg s).bind fun p=>Bq sg [59] ⟨14,[],[p.1],b⟩ p.2
def stN:Nat:=30
def FV(sg:List Sg):Ps→PR:=BO sg (stR sg stN)
def GE(sg:List Sg)(b:Bool)(s:Ps):PR:=(FE sg s).bind fun p=>(BE sg [40] p.2).bind fun s1=>(Bw sg (BQ sg) [41] (sg.length+1) [] s1).bind fun q=>(BE sg [41] q.2).bind fun s2=>(FV sg s2).bind fun r=>Bd ⟨20,p.1,q.1++[r.1],b⟩ r.2
def Dv(sg:List Sg)(b:Bool)(s:Ps):PR:=
 if(sgO sg s.pos).kind=5 then FT sg 19 b s else if isW sg s [118,97,114] then DN sg b (adv s) else GE sg b s
def Hc(sg:List Sg)(b:Bool)(s:Ps):PR:=(FE sg s).bind fun p=>(BE sg [123] p.2).bind fun s1=>(CY sg (Dv sg) [125] (sg.length+1) [] s1).bind fun q=>Bq sg [125] ⟨21,p.1,q.1,b⟩ q.2
def DG(sg:List Sg)(b:Bool)(s:Ps):PR:=
 if(sgO sg s.pos).kind=5 then FT sg 19 b s else if isW sg s [118,97,114] then DN sg b (adv s) else if isW sg s [99,108,97,115,115] then Hc sg b (adv s) else GE sg b s
def JO(sg:List Sg):Nat→List Int→List (Int×Int)→Ps→Option ((List Int×List (Int×Int))×Ps)
 |0,_,_,_=>none
 |n+1,ks,ms,s=>if s.pos<sg.length then(DG sg ((sgO sg s.pos).blank&&decide (0<ks.length)) s).bind fun p=>JO sg n (ks++[p.1]) (ms++[(s.pos,p.2.pos)]) p.2 else some ((ks,ms),s)
def ps0:Ps:=⟨0,0,[]⟩
def JP(sg:List Sg):Option (List (Int×Int)×List Nd):=(JO sg (sg.length+1) [] [] ps0).bind fun p=>(Bd ⟨22,[],p.1.1,false⟩ p.2).bind fun q=>if Dl q.2.nodes then some (p.1.2,q.2.nodes) else none
def DH(t:List UInt8):Option (List Nd):=(CT t).bind fun sg=>(JP sg).map (·.2)
structure Gs where
 pos:Int
 deep:Int
 bad:Bool
 nodes:List Nd
variable {g:Gs}
def Dw(x:Nd):Prop:=x.text.length≤3000∧x.kids.length≤4000
def sgB(sg:List Sg):Prop:=sg.length≤3000∧∀e∈sg,e.text.length≤3000
def gsOk(sg:List Sg)(g:Gs):Prop:=(0≤g.pos∧g.pos≤sg.length)∧(0≤g.deep∧g.deep≤21)∧g.nodes.length≤300∧∀x∈g.nodes,Dw x
def pur(g:Gs):Option Ps:=if g.bad then none else some ⟨g.pos,g.deep,g.nodes⟩
theorem Ev(h:g.bad=true):pur g=none:=by simp [pur,h]
theorem Dx(h:g.bad=false):pur g=some ⟨g.pos,g.deep,g.nodes⟩:=by simp [pur,h]
theorem a4H:pur g=none↔g.bad=true:=by
 cases h:g.bad<;>simp [pur,h]
theorem Fm:pur g=some s↔g.bad=false∧s=⟨g.pos,g.deep,g.nodes⟩:=by
 cases h:g.bad<;>simp [pur,h,eq_comm]
def Yw(sg:List Sg)(x:Gs)(f:Ps→Option Ps)(y:Gs):Prop:=gsOk sg y∧y.deep=x.deep∧x.pos≤y.pos∧pur y=(pur x).bind f
def BF{α:Type}(sg:List Sg)(x:Gs)(f:Ps→Option (α×Ps))(y:α×Gs):Prop:=
 gsOk sg y.2∧y.2.deep=x.deep∧x.pos≤y.2.pos∧pur y.2=((pur x).bind f).map (·.2)∧∀p,(pur x).bind f=some p→y.1=p.1
def Ah{α:Type}(sg:List Sg)(x:Gs)(f:Ps→Option (α×Ps))(y:α×Gs):Prop:=BF sg x f y∧(y.2.bad=false→x.pos<y.2.pos)
def pkG(sg:List Sg)(g:Gs)(n:Int):Sg:=if g.bad=true∨(sg.length:Int)≤g.pos+n then EQ else sgO sg (g.pos+n)
theorem b5k(h:(sg.length:Int)≤i):sgO sg i=EQ:=by
 unfold sgO;rw[List.getD_eq_getElem?_getD,List.getElem?_eq_none (by omega)];rfl
theorem JQ{e:Sg}(h:sg[i.toNat]? =some e):sgO sg i=e:=by simp [sgO,List.getD,h]
theorem JR(h:g.bad=false):pkG sg g n=sgO sg (g.pos+n):=by
 unfold pkG
 split
 ·rename_i hh
  rcases hh with hh|hh
  ·rw[h] at hh;cases hh
  ·exact(b5k hh).symm
 ·rfl
theorem b5l(h:g.bad=true):pkG sg g n=EQ:=by unfold pkG;rw[if_pos (.inl h)]
def isG(sg:List Sg)(g:Gs)(k:Int)(t:List UInt8):Bool:=decide ((pkG sg g 0).kind=k)&&((pkG sg g 0).text==t)
def nmG(sg:List Sg)(g:Gs)(n:Int):Bool:=decide ((pkG sg g n).kind=1)&& !kw (pkG sg g n).text
theorem Tj(h:pur g=some s):isG sg g k t=isT sg s k t:=by
 obtain⟨h1,rfl⟩:=Fm.1 h
 simp [isG,isT,JR h1]
theorem a4I(h:pur g=none)(hk:k≠0):isG sg g k t=false:=by
 simp [isG,b5l (a4H.1 h),EQ,Ne.symm hk]
theorem Mz(h:pur g=some s):nmG sg g n=DY sg (s.pos+n):=by
 obtain⟨h1,rfl⟩:=Fm.1 h
 simp [nmG,DY,JR h1]
theorem Dy(h:isG sg g k t=true)(hk:k≠0):g.bad=false∧g.pos<sg.length:=by
 unfold isG pkG at h
 split at h
 ·simp [EQ,Ne.symm hk] at h
 ·rename_i hh
  simp only[Int.add_zero] at hh
  exact⟨by cases hb:g.bad<;>simp_all,by omega⟩
theorem Tk(h:nmG sg g n=true):g.bad=false∧g.pos+n<sg.length:=by
 unfold nmG pkG at h
 split at h
 ·simp [EQ] at h
 ·rename_i hh;exact⟨by cases hb:g.bad<;>simp_all,by omega⟩
def Aw(g:Gs):Gs:=⟨g.pos+1,g.deep,g.bad,g.nodes⟩
def Bu(g:Gs):Gs:=⟨g.pos,g.deep,true,g.nodes⟩
def gDp(g:Gs)(d:Int):Gs:=⟨g.pos,g.deep+d,g.bad,g.nodes⟩
def AS(sg:List Sg)(g:Gs)(m:List UInt8):Gs:=if isG sg g 4 m then Aw g else g
def AP(sg:List Sg)(g:Gs)(m:List UInt8):Gs:=if isG sg g 4 m then Aw g else Bu g
def Dz(g:Gs):Gs:=if g.bad then g else Aw g
def Ef(g:Gs):Bool:=g.bad||decide (g.nodes.length=300)
def Ax(g:Gs)(x:Nd):Gs:=if Ef g then Bu g else⟨g.pos,g.deep,g.bad,g.nodes++[x]⟩
def AY(g:Gs):Int:=if Ef g then 0 else g.nodes.length
def CZ(sg:List Sg)(g:Gs)(m:List UInt8)(x:Nd):Gs:=if isG sg g 4 m then Dz (Ax g x) else Bu g
def Da(sg:List Sg)(g:Gs)(m:List UInt8):Int:=if isG sg g 4 m then AY g else 0
def ER(sg:List Sg)(g:Gs)(k:Int)(b:Bool):Gs:=Dz (Ax g ⟨k,(pkG sg g 0).text,[],b⟩)
def Ew(sg:List Sg)(g:Gs):Gs:=if nmG sg g 0 then ER sg g 1 false else Bu g
def EI(sg:List Sg)(g:Gs):Int:=if nmG sg g 0 then AY g else 0
def De(sg:List Sg)(g:Gs):Gs:=if nmG sg g 0 then Aw g else Bu g
def Dr(sg:List Sg)(g:Gs):List UInt8:=if nmG sg g 0 then(pkG sg g 0).text else []
theorem GF(h:gsOk sg g)(hl:g.pos<sg.length):gsOk sg (Aw g):=by
 obtain⟨h1,h2⟩:=h
 exact⟨by simp only[Aw];omega,h2⟩
theorem MA(h:gsOk sg g):gsOk sg (Bu g):=h
theorem Yx:pur (Aw g)=(pur g).map adv:=by
 cases h:g.bad<;>simp [pur,Aw,h,adv]
theorem JS:pur (Bu g)=none:=by simp [pur,Bu]
theorem a4J(h:gsOk sg g)(hk:k≠0)(hm:isG sg g k m=true):Yw sg g (fun s=>if isT sg s k m then some (adv s) else none) (Aw g)∧(Aw g).bad=false∧g.pos<(Aw g).pos:=by
 obtain⟨h1,h2⟩:=Dy hm hk
 refine⟨⟨GF h h2,rfl,by simp only[Aw];omega,?_⟩,h1,by simp only[Aw];omega⟩
 rw[Yx,Dx h1]
 have:isT sg ⟨g.pos,g.deep,g.nodes⟩ k m=true:=by rw[←Tj (Dx h1)];exact hm
 simp [this]
theorem Tl(hm:isG sg g k m=false)(hs:pur g=some s):isT sg s k m=false:=by rw[←Tj hs];exact hm
theorem Yy(hm:isG sg g k m=true)(hs:pur g=some s):isT sg s k m=true:=by rw[←Tj hs];exact hm
theorem Qz(h:gsOk sg g):Yw sg g (BE sg m) (AP sg g m)∧((AP sg g m).bad=false→g.pos<(AP sg g m).pos):=by
 unfold AP
 cases hm:isG sg g 4 m with
 |true=>
  obtain⟨h1,h2,h3⟩:=a4J h (by omega) hm
  simp only[if_true]
  exact⟨h1,fun _=>h3⟩
 |false=>
  simp only[Bool.false_eq_true,if_false]
  refine⟨⟨MA h,rfl,Int.le_refl _,?_⟩,fun hb=>by simp [Bu] at hb⟩
  rw[JS]
  cases hs:pur g with
  |none=>rfl
  |some s=>
   simp only[Option.bind_some,BE,isM,Tl hm hs];rfl
theorem Tm(h:Ef g=false):g.bad=false∧g.nodes.length≠300:=by
 simpa [Ef] using h
theorem QA(h:gsOk sg g)(hx:Dw x):gsOk sg (Ax g x):=by
 unfold Ax
 cases hf:Ef g with
 |true=>exact MA h
 |false=>
  obtain⟨h1,h2⟩:=Tm hf
  obtain⟨a,b,c,d⟩:=h
  refine⟨a,b,?_,?_⟩
  ·simp;omega
  ·simp only[Bool.false_eq_true,if_false]
   intro y hy
   rcases List.mem_append.1 hy with hy|hy
   ·exact d y hy
   ·simp at hy;subst hy;exact hx
theorem a4K(h:gsOk sg g):pur (Ax g x)=((pur g).bind (Bd x)).map (·.2)∧∀p,(pur g).bind (Bd x)=some p→AY g=p.1:=by
 unfold Ax AY
 cases hf:Ef g with
 |true=>
  simp only[if_true,JS]
  have:(pur g).bind (Bd x)=none:=by
   cases hs:pur g with
   |none=>rfl
   |some s=>
    obtain⟨h1,rfl⟩:=Fm.1 hs
    have h3:g.nodes.length=300:=by simpa [Ef,h1] using hf
    simp [Bd,h3]
  rw[this];exact⟨rfl,fun p hp=>by cases hp⟩
 |false=>
  obtain⟨h1,h2⟩:=Tm hf
  have h3:g.nodes.length≤300:=h.2.2.1
  have h4:¬300≤g.nodes.length:=by omega
  simp [pur,h1,Bd,h4]
theorem Tn(h:gsOk sg g)(hx:Dw x):BF sg g (Bd x) (AY g,Ax g x):=by
 refine⟨QA h hx,?_,?_,(a4K h).1,(a4K h).2⟩
 ·simp only[Ax];split<;>rfl
 ·simp only[Ax];split<;>exact Int.le_refl _
theorem Yz(h:gsOk sg g)(hx:Dw x)(hl:g.bad=false→g.pos<sg.length):Ah sg g (fun s=>Gq (Bd x s)) (AY g,Dz (Ax g x)):=by
 obtain⟨h1,h2,h3,h4,h5⟩:=Tn h hx
 simp only at h1 h2 h3 h4 h5
 have hp:pur (Dz (Ax g x))=(pur (Ax g x)).map adv:=by
  unfold Dz
  cases hb:(Ax g x).bad with
  |true=>rw[Ev hb];simp [Ev hb]
  |false=>simp only[Bool.false_eq_true,if_false];exact Yx
 have hpos:(Ax g x).pos=g.pos:=by simp only[Ax];split<;>rfl
 have hbad:(Ax g x).bad=false→g.bad=false:=by
  intro hb;simp only[Ax] at hb;split at hb
  ·simp [Bu] at hb
  ·exact hb
 refine⟨⟨?_,?_,?_,?_,?_⟩,?_⟩
 ·simp only[Dz];split
  ·exact h1
  ·rename_i hb
   exact GF h1 (by rw[hpos];exact hl (hbad (by simpa using hb)))
 ·simp only[Dz];split<;>simpa [Aw] using h2
 ·simp only[Dz];split
  ·exact h3
  ·simp only[Aw];omega
 ·simp only;rw[hp,h4]
  cases hs:pur g with
  |none=>rfl
  |some s=>simp only[Option.bind_some,Gq];cases Bd x s<;>rfl
 ·intro p hp2
  simp only
  cases hs:pur g with
  |none=>rw[hs] at hp2;cases hp2
  |some s=>
   rw[hs] at hp2 h5
   simp only[Option.bind_some,Gq,Option.map_eq_some_iff] at hp2
   obtain⟨q,hq,rfl⟩:=hp2
   exact h5 q (by simpa using hq)
 ·simp only[Dz]
  split
  ·rename_i hb;intro hh;rw[hb] at hh;cases hh
  ·intro _;simp only[Aw];omega
theorem Oi(h:gsOk sg g)(hx:Dw x):Ah sg g (Bq sg m x) (Da sg g m,CZ sg g m x):=by
 unfold CZ Da
 cases hm:isG sg g 4 m with
 |true=>
  obtain⟨hb,hl⟩:=Dy hm (by omega)
  have:=Yz h hx (fun _=>hl)
  simp only[if_true]
  have e:(pur g).bind (Bq sg m x)=(pur g).bind fun s=>Gq (Bd x s):=by
   rw[Dx hb]
   have:isM sg ⟨g.pos,g.deep,g.nodes⟩ m=true:=Yy hm (Dx hb)
   simp [Bq,this]
  obtain⟨⟨a1,a2,a3,a4,a5⟩,a6⟩:=this
  exact⟨⟨a1,a2,a3,by rw[e];exact a4,by rw[e];exact a5⟩,a6⟩
 |false=>
  simp only[Bool.false_eq_true,if_false]
  have e:(pur g).bind (Bq sg m x)=none:=by
   cases hs:pur g with
   |none=>rfl
   |some s=>
    have:isM sg s m=false:=Tl hm hs
    simp [Bq,this]
  refine⟨⟨MA h,rfl,Int.le_refl _,by rw[e];exact JS,fun p hp=>by rw[e] at hp;cases hp⟩,fun hb=>by simp [Bu] at hb⟩
theorem b5m(h:sgB sg):(sgO sg i).text.length≤3000:=by
 unfold sgO;rw[List.getD]
 cases hx:sg[i.toNat]? with
 |none=>simp [EQ]
 |some e=>exact h.2 e (Bm hx)
theorem QB(h:sgB sg):(pkG sg g n).text.length≤3000:=by
 unfold pkG;split
 ·simp [EQ]
 ·exact b5m h
theorem QC{b:Bool}(hs:sgB sg)(h:gsOk sg g)(hl:g.bad=false→g.pos<sg.length):Ah sg g (FT sg k b) (AY g,ER sg g k b):=by
 have hx:Dw ⟨k,(pkG sg g 0).text,[],b⟩:=⟨QB hs,by simp⟩
 have:=Yz (x:=⟨k,(pkG sg g 0).text,[],b⟩) h hx hl
 have e:(pur g).bind (FT sg k b)=(pur g).bind fun s=>Gq (Bd ⟨k,(pkG sg g 0).text,[],b⟩ s):=by
  cases hs:pur g with
  |none=>rfl
  |some s=>
   obtain⟨h1,rfl⟩:=Fm.1 hs
   simp [FT,JR h1]
 obtain⟨⟨a1,a2,a3,a4,a5⟩,a6⟩:=this
 exact⟨⟨a1,a2,a3,by rw[e];exact a4,by rw[e];exact a5⟩,a6⟩
theorem To(hs:sgB sg)(h:gsOk sg g):Ah sg g (BQ sg) (EI sg g,Ew sg g):=by
 unfold Ew EI
 cases hm:nmG sg g 0 with
 |true=>
  obtain⟨hb,hl⟩:=Tk hm
  simp only[if_true]
  obtain⟨⟨a1,a2,a3,a4,a5⟩,a6⟩:=QC (k:=1) (b:=false) hs h (fun _=>by omega)
  have e:(pur g).bind (BQ sg)=(pur g).bind (FT sg 1 false):=by
   rw[Dx hb]
   have:DY sg g.pos=true:=by have:=Mz (sg:=sg) (n:=0) (Dx hb);rw[hm] at this;simpa using this.symm
   simp [BQ,this]
  exact⟨⟨a1,a2,a3,by rw[e];exact a4,by rw[e];exact a5⟩,a6⟩
 |false=>
  simp only[Bool.false_eq_true,if_false]
  have e:(pur g).bind (BQ sg)=none:=by
   cases hs:pur g with
   |none=>rfl
   |some s=>
    have:DY sg s.pos=false:=by have:=Mz (sg:=sg) (n:=0) hs;rw[hm] at this;simpa using this.symm
    simp [BQ,this]
  refine⟨⟨MA h,rfl,Int.le_refl _,by rw[e];exact JS,fun p hp=>by rw[e] at hp;cases hp⟩,fun hb=>by simp [Bu] at hb⟩
theorem Oj(h:gsOk sg g):Ah sg g (FE sg) (Dr sg g,De sg g):=by
 unfold De Dr
 cases hm:nmG sg g 0 with
 |true=>
  obtain⟨hb,hl⟩:=Tk hm
  simp only[if_true]
  have hn:DY sg g.pos=true:=by have:=Mz (sg:=sg) (n:=0) (Dx hb);rw[hm] at this;simpa using this.symm
  refine⟨⟨GF h (by omega),rfl,by simp only[Aw];omega,?_,?_⟩,fun _=>by simp only[Aw];omega⟩
  ·simp only;rw[Yx,Dx hb];simp [FE,hn]
  ·intro p hp;rw[Dx hb] at hp
   simp [FE,hn] at hp
   rw[←hp,JR hb];simp
 |false=>
  simp only[Bool.false_eq_true,if_false]
  have e:(pur g).bind (FE sg)=none:=by
   cases hs:pur g with
   |none=>rfl
   |some s=>
    have:DY sg s.pos=false:=by have:=Mz (sg:=sg) (n:=0) hs;rw[hm] at this;simpa using this.symm
    simp [FE,this]
  refine⟨⟨MA h,rfl,Int.le_refl _,by rw[e];exact JS,fun p hp=>by rw[e] at hp;cases hp⟩,fun hb=>by simp [Bu] at hb⟩
theorem AL{α β γ δ ε ζ η:Type}{p q:α×β×γ×δ×ε×ζ×η→Prop}(a:α)(b:β)(c:γ)(d:δ)(e:ε)(f:ζ)(g:η)(h2:q (a,b,c,d,e,f,g))(h1:p (a,b,c,d,e,f,g)):∃x,p x∧q x:=⟨_,h1,h2⟩
theorem AM{α β γ δ ε ζ η θ:Type}{p q:α×β×γ×δ×ε×ζ×η×θ→Prop}(a:α)(b:β)(c:γ)(d:δ)(e:ε)(f:ζ)(g:η)(h:θ)(h2:q (a,b,c,d,e,f,g,h))(h1:p (a,b,c,d,e,f,g,h)):∃x,p x∧q x:=⟨_,h1,h2⟩
theorem AN{α β γ δ ε ζ η θ ι:Type}{p q:α×β×γ×δ×ε×ζ×η×θ×ι→Prop}(a:α)(b:β)(c:γ)(d:δ)(e:ε)(f:ζ)(g:η)(h:θ)(i:ι)(h2:q (a,b,c,d,e,f,g,h,i))(h1:p (a,b,c,d,e,f,g,h,i)):∃x,p x∧q x:=⟨_,h1,h2⟩
theorem AO{α β γ δ ε ζ η θ ι κ:Type}{p q:α×β×γ×δ×ε×ζ×η×θ×ι×κ→Prop}(a:α)(b:β)(c:γ)(d:δ)(e:ε)(f:ζ)(g:η)(h:θ)(i:ι)(j:κ)(h2:q (a,b,c,d,e,f,g,h,i,j))(h1:p (a,b,c,d,e,f,g,h,i,j)):∃x,p x∧q x:=⟨_,h1,h2⟩
end Go.My
end
section
namespace Go.My
open Go.Eng Go.Proofs
variable {G:GInv}
variable {g:Gs}
theorem b5n{a:Int}{b:List UInt8}{c:List Int}{d:Bool}{o:Bool}{i:Nat}{q:Nd→Prop}(h:q ⟨a,b,c,d⟩):∃x:Nd,a=x.kind∧b=x.text∧AV.sl o i 1 Int Bx c=AV.sl o i 1 Int Bx x.kids∧d=x.blank∧q x:=⟨⟨a,b,c,d⟩,rfl,rfl,rfl,rfl,h⟩
structure ST where
 sg:List Sg
 z:Int
 ms:List (Int×Int)
abbrev xg (x:ST×Int×Int×Bool×List Nd):Gs:=⟨x.2.1,x.2.2.1,x.2.2.2.1,x.2.2.2.2⟩
abbrev xh {α:Type} (x:ST×Int×Int×Bool×List Nd×α):Gs:=⟨x.2.1,x.2.2.1,x.2.2.2.1,x.2.2.2.2.1⟩
abbrev yG (y:Int×Int×Bool×List Nd):Gs:=⟨y.1,y.2.1,y.2.2.1,y.2.2.2⟩
abbrev yS {α:Type} (y:α×Int×Int×Bool×List Nd):α×Gs:=(y.1,⟨y.2.1,y.2.2.1,y.2.2.2.1,y.2.2.2.2⟩)
def rOk(s:ST)(g:Gs):Prop:=sgB s.sg∧gsOk s.sg g
theorem Hd{s:ST}(h:rOk s g):((0≤g.pos∧g.pos≤s.sg.length)∧(0≤g.deep∧g.deep≤21))∧g.nodes.length≤300∧s.sg.length≤3000:=⟨⟨h.2.1,h.2.2.1⟩,h.2.2.2.1,h.1.1⟩
theorem b5o{sg:List Sg}{n:Int}(h:g.bad=true∨(sg.length:Int)≤g.pos+n):pkG sg g n=EQ:=if_pos h
theorem b5p{sg:List Sg}{n:Int}{e:Sg}(he:sg[(g.pos+n).toNat]? =some e)(hb:g.bad=false)(hl:¬(sg.length:Int)≤g.pos+n):pkG sg g n=e:=by
 rw[pkG,if_neg (by simp [hb];omega),JQ he]
end Go.My
end
section
namespace Go.My
open Go.Eng
variable {N n:Nat}{d i:Int}{g x y:Gs}{ks:List Int}{m:List UInt8}{one:Ps→PR}{s:Ps}{sg:List Sg}{z:Int×Gs}
def restP{α:Type}(sg:List Sg)(x:Gs)(f:Ps→Option (α×Ps))(y:Gs)(g:Ps→Option (α×Ps))(d:Int):Prop:=
 gsOk sg y∧y.deep=x.deep+d∧x.pos≤y.pos∧(pur y).bind g=(pur x).bind f
theorem DA{α:Type}{f:Ps→Option (α×Ps)}(h:gsOk sg x):restP sg x f x f 0:=⟨h,by omega,Int.le_refl _,rfl⟩
theorem Ey{α:Type}{f g g':Ps→Option (α×Ps)}(h:restP sg x f y g d)(e:∀s,pur y=some s→g s=g' s):restP sg x f y g' d:=by
 refine⟨h.1,h.2.1,h.2.2.1,?_⟩
 rw[←h.2.2.2]
 cases hs:pur y with
 |none=>rfl
 |some s=>exact(e s hs).symm
theorem a4L{α:Type}{z:Gs}{f g g':Ps→Option (α×Ps)}{h:Ps→Option Ps}(h1:restP sg x f y g d)(h2:Yw sg y h z)(e:∀s,pur y=some s→g s=(h s).bind g'):restP sg x f z g' d:=by
 obtain⟨a1,a2,a3,a4⟩:=h1;obtain⟨b1,b2,b3,b4⟩:=h2
 refine⟨b1,by omega,by omega,?_⟩
 rw[b4,←a4]
 cases hs:pur y with
 |none=>rfl
 |some s=>simp only[Option.bind_some];rw[e s hs]
theorem BR{α β:Type}{z:β×Gs}{f g:Ps→Option (α×Ps)}{k:β→Ps→Option (α×Ps)}{h:Ps→Option (β×Ps)}(h1:restP sg x f y g d)(h2:BF sg y h z)
 (e:∀s,pur y=some s→g s=(h s).bind fun p=>k p.1 p.2):restP sg x f z.2 (k z.1) d:=by
 obtain⟨a1,a2,a3,a4⟩:=h1;obtain⟨b1,b2,b3,b4,b5⟩:=h2
 refine⟨b1,by omega,by omega,?_⟩
 rw[b4,←a4]
 cases hs:pur y with
 |none=>rfl
 |some s=>
  simp only[Option.bind_some];rw[e s hs]
  rw[hs] at b5
  simp only[Option.bind_some] at b5
  cases hp:h s with
  |none=>rfl
  |some p=>simp only[Option.map_some,Option.bind_some];rw[b5 p hp]
theorem He{α:Type}{f:Ps→Option (α×Ps)}{a:α}(h:restP sg x f y (fun s=>some (a,s)) 0):BF sg x f (a,y):=by
 obtain⟨a1,a2,a3,a4⟩:=h
 refine⟨a1,by simp only;omega,a3,?_,?_⟩
 ·rw[←a4];cases pur y<;>rfl
 ·intro p hp;rw[←a4] at hp
  cases hs:pur y with
  |none=>rw[hs] at hp;cases hp
  |some s=>rw[hs] at hp;simp only[Option.bind_some,Option.some.injEq] at hp;rw[←hp]
theorem QD{α:Type}{f g:Ps→Option (α×Ps)}{a:α}(h:restP sg x f y g 0)(hb:y.bad=true):BF sg x f (a,y):=by
 obtain⟨a1,a2,a3,a4⟩:=h
 rw[Ev hb] at a4
 have hn:(pur x).bind f=none:=a4.symm
 refine⟨a1,by simp only;omega,a3,?_,fun p hp=>by rw[hn] at hp;cases hp⟩
 rw[hn,Ev hb];rfl
theorem a4M{α:Type}{f g:Ps→Option (α×Ps)}(h:restP sg x f y g d)(e:∀s,pur y=some s→g s=none):(pur x).bind f=none:=by
 rw[←h.2.2.2]
 cases hs:pur y with
 |none=>rfl
 |some s=>exact e s hs
theorem a4N{α:Type}{f g:Ps→Option (α×Ps)}{a:α}(h:restP sg x f y g 0)(e:∀s,pur y=some s→g s=none):BF sg x f (a,Bu y):=by
 have hn:=a4M h e
 refine⟨MA h.1,by simp only[Bu];have:=h.2.1;omega,h.2.2.1,?_,fun p hp=>by rw[hn] at hp;cases hp⟩
 rw[hn,JS];rfl
theorem MB{α:Type}{f g g':Ps→Option (α×Ps)}{e:Int}(h:restP sg x f y g d)(hd:0≤y.deep+e∧y.deep+e≤21)(hg:∀s,pur y=some s→g s=g' (dp s e)):restP sg x f (gDp y e) g' (d+e):=by
 obtain⟨a1,a2,a3,a4⟩:=h
 refine⟨⟨a1.1,hd,a1.2.2⟩,by simp only[gDp];omega,a3,?_⟩
 rw[←a4]
 cases hb:y.bad with
 |true=>rw[Ev hb,Ev (by simpa [gDp] using hb)];rfl
 |false=>
  rw[Dx hb,Dx (g:=gDp y e) (by simpa [gDp] using hb)]
  simp only[Option.bind_some]
  rw[hg _ (Dx hb)];rfl
theorem a4O{α:Type}{f g g':Ps→Option (α×Ps)}(h:restP sg x f y g d)(hg:∀s,pur y=some s→g s=none):restP sg x f (Bu y) g' d:=by
 have hn:=a4M h hg
 refine⟨MA h.1,h.2.1,h.2.2.1,?_⟩
 rw[JS,hn];rfl
theorem JT(hs:pur g=some s)(hm:isG sg g 4 m=true):isM sg s m=true:=Yy hm hs
theorem Fo(hs:pur g=some s)(hm:isG sg g 4 m=false):isM sg s m=false:=Tl hm hs
theorem ET(hs:pur g=some s)(hm:isG sg g 1 m=false):isW sg s m=false:=Tl hm hs
theorem Hf{α:Type}{f g g':Ps→Option (α×Ps)}{k:Int}(h:restP sg x f y g d)(hk:k≠0)(hm:isG sg y k m=true)(hg:∀s,pur y=some s→isT sg s k m=true→g s=g' (adv s)):
 restP sg x f (Aw y) g' d:=by
 obtain⟨h1,h2,h3⟩:=a4J h.1 hk hm
 refine a4L h h1 fun s hs=> ?_
 have ht:=Yy hm hs
 rw[hg s hs ht,ht];rfl
theorem HS{α:Type}{f g g':Ps→Option (α×Ps)}(h:restP sg x f y g d)(hg:∀s,pur y=some s→g s=(BE sg m s).bind g'):restP sg x f (AP sg y m) g' d:=
 a4L h (Qz h.1).1 hg
theorem b5q{α:Type}{y:α×Gs}{f:Ps→Option (α×Ps)}(h:BF sg x f y):restP sg x f y.2 (fun s=>some (y.1,s)) 0:=by
 obtain⟨a1,a2,a3,a4,a5⟩:=h
 refine⟨a1,by omega,a3,?_⟩
 cases hp:(pur x).bind f with
 |none=>rw[a4,hp];rfl
 |some p=>rw[a4,hp,a5 p hp];rfl
theorem b5r(h:isM sg s m=true):Bw sg one m (n+1) ks s=some (ks,s):=by rw[Bw,if_pos h]
theorem b5s(h:isM sg s m=false):Bw sg one m (n+1) ks s=(one s).bind fun p=>if isM sg p.2 [44] then Bw sg one m n (ks++[p.1]) (adv p.2) else some (ks++[p.1],p.2):=by
 rw[Bw,if_neg (by simp [h])]
def EU(sg:List Sg):Nat→Int→Int
 |0,i=>i
 |n+1,i=>if i+1<sg.length∧(sgO sg i).kind=1 then(if(sgO sg (i+1)).text=[44] then EU sg n (i+2) else i+1) else i
def JU(sg:List Sg)(i k:Int)(t:List UInt8):Bool:=decide ((sgO sg i).kind=k)&&((sgO sg i).text==t)
def FW(sg:List Sg)(i:Int):Bool:=decide (i+1<sg.length)&&(JU sg i 4 [41]&&JU sg (i+1) 4 [61,62])
def KW(sg:List Sg)(s:Ps):Bool:=FW sg (EU sg (sg.length+1) (s.pos+1))
def sgM(sg:List Sg):Prop:=∀e∈sg,(e.text=[41]∨e.text=[61,62]∨e.text=[44])→e.kind=4
theorem YA(h:(sgO sg i).text≠[]∨(sgO sg i).kind≠0):i.toNat<sg.length∧sgO sg i∈sg:=by
 unfold sgO at h ⊢
 rw[List.getD_eq_getElem?_getD] at h ⊢
 cases hx:sg[i.toNat]? with
 |none=>rw[hx] at h;simp [EQ] at h
 |some e=>exact⟨(List.getElem?_eq_some_iff.1 hx).1,by simpa using List.mem_of_getElem? hx⟩
theorem Tp(hm:sgM sg)(h:(sgO sg i).text=[41]∨(sgO sg i).text=[61,62]∨(sgO sg i).text=[44]):(sgO sg i).kind=4:=by
 refine hm _ (YA (.inl ?_)).2 h
 rcases h with h|h|h<;>rw[h]<;>simp
def a4P(sg:List Sg)(i:Int):Bool:=((sgO sg i).text==[41])&&((sgO sg (i+1)).text==[61,62])
theorem YB(hm:sgM sg)(h0:0≤i):a4P sg i=FW sg i:=by
 unfold a4P FW JU
 cases h1:((sgO sg i).text==[41]) with
 |false=>simp
 |true=>
  have k1:=Tp hm (.inl (by simpa using h1))
  cases h2:((sgO sg (i+1)).text==[61,62]) with
  |false=>simp
  |true=>
   have k2:=Tp hm (.inr (.inl (by simpa using h2)))
   have:=(YA (sg:=sg) (i:=i+1) (.inl (by simp at h2;rw[h2];simp))).1
   simp [k1,k2];omega
theorem Tq(h:DY sg i=true):(sgO sg i).kind=1:=by
 simp [DY] at h;exact h.1
theorem a4Q{sg:List Sg}(hm:sgM sg):∀(n:Nat) (i:Int),0≤i→FW sg (EH sg n i)=true→FW sg (EU sg n i)=true
 |0,i,h0,h=>by simpa [EH,EU] using h
 |n+1,i,h0,h=>by
  rw[EH] at h;rw[EU]
  cases hn:DY sg i with
  |false=>
   rw[hn] at h;simp only[Bool.false_eq_true,if_false] at h
   have h4:(sgO sg i).kind=4:=by
    simp only[FW,JU,Bool.and_eq_true,decide_eq_true_eq] at h;exact h.2.1.1
   rw[if_neg (by rw[h4];omega)];exact h
  |true=>
   rw[hn,if_pos rfl] at h
   have hk:=Tq hn
   have hlt:i+1<sg.length:=by
    split at h
    ·rename_i ht
     have:=(YA (sg:=sg) (i:=i+1) (.inl (by rw[ht];simp))).1;omega
    ·simp only[FW,Bool.and_eq_true,decide_eq_true_eq] at h;omega
   rw[if_pos ⟨hlt,hk⟩]
   split at h
   ·rename_i ht;rw[if_pos ht];exact a4Q hm n (i+2) (by omega) h
   ·rename_i ht;rw[if_neg ht];exact h
theorem a4R{sg:List Sg}(hm:sgM sg):∀(n:Nat) (i:Int),0≤i→FW sg (EU sg n i)=true→FW sg (EH sg n i)=false→∀(N:Nat) (ks:List Int) (s:Ps),s.pos=i→Bw sg (BQ sg) [41] N ks s=none
 |0,i,h0,h1,h2=>by simp [EH,EU] at h1 h2;rw[h1] at h2;cases h2
 |n+1,i,h0,h1,h2=>by
  intro N ks s hs
  match N with
  |0=>rfl
  |N+1=>
  rw[EU] at h1;rw[EH] at h2
  cases hn:DY sg i with
  |false=>
   rw[hn] at h2;simp only[Bool.false_eq_true,if_false] at h2
   split at h1
   ·rename_i hh
    have hm4:isM sg s [41]=false:=by simp [isM,isT,hs,hh.2]
    rw[Bw,if_neg (by simp [hm4]),BQ,hs,if_neg (by simp [hn])];rfl
   ·rw[h1] at h2;cases h2
  |true=>
   rw[hn,if_pos rfl] at h2
   have hk:=Tq hn
   have hm4:isM sg s [41]=false:=by simp [isM,isT,hs,hk]
   split at h1
   ·split at h1
    ·rename_i ht;rw[if_pos ht] at h2
     have hk2:=Tp hm (.inr (.inr ht))
     rw[Bw,if_neg (by simp [hm4]),BQ,hs,if_pos hn,FT,Gq,Bd]
     split
     ·rfl
     ·simp only[Option.map_some,Option.bind_some,adv]
      have hc:isM sg ⟨s.pos+1,s.deep,s.nodes++[⟨1,(sgO sg s.pos).text,[],false⟩]⟩ [44]=true:=by simp [isM,isT,hs,ht,hk2]
      rw[if_pos hc]
      exact a4R hm n (i+2) (by omega) h1 h2 N _ _ (by simp only;omega)
    ·rename_i ht;rw[if_neg ht] at h2;rw[h1] at h2;cases h2
   ·exfalso
    have:(sgO sg i).kind=4:=by simp only[FW,JU,Bool.and_eq_true,decide_eq_true_eq] at h1;exact h1.2.1.1
    omega
theorem Ok{sg:List Sg}(hm:sgM sg):∀(n:Nat) (t:NT) (s:Ps),DY sg s.pos=true→(sgO sg (s.pos+1)).text=[44]→0≤s.pos→(pE sg n t s=none∨∃p,pE sg n t s=some p∧p.2.pos=s.pos+1)
 |0,t,s,h1,h2,h0=> .inl (by cases t<;>rfl)
 |n+1,t,s,h1,h2,h0=>by
  have hk:=Tp hm (.inr (.inr h2))
  have tst:∀(q:Ps) (m:List UInt8),q.pos=s.pos+1→m≠[44]→isM sg q m=false:=by
   intro q m hq hne;simp only[isM,isT,hq,h2]
   simp;intro _;exact fun e=>hne e.symm
  cases t with
  |value=>
   rw[pE]
   rcases Ok hm n .pick s h1 h2 h0 with h|⟨p,h,hp⟩
   ·left;rw[h];rfl
   ·right;refine⟨p,?_,hp⟩
    rw[h,Option.bind_some,if_neg (by simp [tst p.2 [46,46] hp (by simp)])]
  |pick=>
   rw[pE]
   split
   ·exact .inl rfl
   ·rcases Ok hm n (.chain 0) (dp s 1) h1 h2 h0 with h|⟨p,h,hp⟩
    ·left;rw[h];rfl
    ·right;refine⟨(p.1,dp p.2 (-1)),?_,hp⟩
     rw[h,Option.bind_some,if_neg (by simp [tst p.2 [63] hp (by simp)])]
  |chain l=>
   rw[pE]
   split
   ·exact Ok hm n .fin s h1 h2 h0
   ·rcases Ok hm n (.chain (l+1)) s h1 h2 h0 with h|⟨p,h,hp⟩
    ·left;rw[h];rfl
    ·right
     have hc:IB sg l p.2=[]:=by
      have:∀m∈BN l,isM sg p.2 m=false:=by
       intro m hmm
       refine tst p.2 m hp ?_
       intro e;subst e
       unfold BN at hmm
       split at hmm<;>simp at hmm
      rw[IB,List.find?_eq_none.2 (by intro m hmm;simp [this m hmm])];rfl
     refine⟨(p.1,p.2),?_,hp⟩
     rw[h,Option.bind_some,Gr,if_neg (by simp),if_pos hc];rfl
  |fin=>
   rw[pE]
   rcases Ok hm n .base s h1 h2 h0 with h|⟨p,h,hp⟩
   ·left;rw[h];rfl
   ·right;refine⟨p,?_,hp⟩
    rw[h,Option.bind_some,FU,if_neg (by simp [tst p.2 [40] hp (by simp)]),if_neg (by simp [tst p.2 [46] hp (by simp)])]
  |base=>
   rw[pE,if_pos (Tq h1),BQ,if_pos h1,FT,Gq,Bd]
   split
   ·exact .inl rfl
   ·exact .inr ⟨_,rfl,rfl⟩
theorem Ol{sg:List Sg}:∀(n:Nat) (t:NT) (s:Ps),DY sg s.pos=false→(sgO sg s.pos).kind=1→pE sg n t s=none
 |0,t,s,h1,h2=>by cases t<;>rfl
 |n+1,t,s,h1,h2=>by
  cases t with
  |value=>rw[pE,Ol n .pick s h1 h2];rfl
  |pick=>rw[pE];split
         ·rfl
         ·rw[Ol n (.chain 0) (dp s 1) h1 h2];rfl
  |chain l=>rw[pE];split
            ·exact Ol n .fin s h1 h2
            ·rw[Ol n (.chain (l+1)) s h1 h2];rfl
  |fin=>rw[pE,Ol n .base s h1 h2];rfl
  |base=>rw[pE,if_pos h2,BQ,if_neg (by simp [h1])]
theorem b5t(hm:sgM sg){x:Nd}(h0:0≤s.pos)(h1:KW sg s=true)(h2:KV sg s=false)(k:Int→Nd):
 ((pE sg n .value (adv s)).bind fun p=>Bq sg [41] (k p.1) p.2)=none:=by
 have h2':FW sg (EH sg (sg.length+1) (s.pos+1))=false:=by
  have hp:∀(n:Nat) (i:Int),0≤i→0≤EH sg n i:=by
   intro n
   induction n with
   |zero=>intro i hi;simpa [EH] using hi
   |succ n ih=>intro i hi;rw[EH];split
               ·split
                ·exact ih _ (by omega)
                ·omega
               ·exact hi
  rw[←YB hm (hp _ _ (by omega))];exact h2
 unfold KW at h1
 rw[EU] at h1;rw[EH] at h2'
 cases hn:DY sg (s.pos+1) with
 |false=>
  rw[hn] at h2';simp only[Bool.false_eq_true,if_false] at h2'
  split at h1
  ·rename_i hh
   rw[Ol n .value (adv s) hn hh.2];rfl
  ·rw[h1] at h2';cases h2'
 |true=>
  rw[hn,if_pos rfl] at h2'
  split at h1
  ·split at h1
   ·rename_i ht
    rcases Ok hm n .value (adv s) hn (by simpa [adv] using ht) (by simp only[adv];omega) with h|⟨p,h,hp⟩
    ·rw[h];rfl
    ·rw[h,Option.bind_some,Bq]
     have:isM sg p.2 [41]=false:=by
      simp only[isM,isT,hp,adv]
      rw[show s.pos+1+1=s.pos+1+1 from rfl,ht];simp
     rw[if_neg (by simp [this])]
   ·rename_i ht;rw[if_neg ht] at h2';rw[h1] at h2';cases h2'
  ·exfalso
   have:(sgO sg (s.pos+1)).kind=4:=by simp only[FW,JU,Bool.and_eq_true,decide_eq_true_eq] at h1;exact h1.2.1.1
   have:=Tq hn
   omega
theorem a4S:pE sg (n+1) .pick s=if 20≤s.deep then none else(pE sg n (.chain 0) (dp s 1)).bind fun p=>
 if isM sg p.2 [63] then(pE sg n .pick (adv p.2)).bind fun a=>(BE sg [58] a.2).bind fun s1=>(pE sg n .pick s1).bind fun b=>(Bd ⟨8,[],[p.1,a.1,b.1],false⟩ b.2).map fun q=>(q.1,dp q.2 (-1))
 else some (p.1,dp p.2 (-1)):=rfl
theorem b5u{l:Nat}:pE sg (n+1) (.chain l) s=if l=6 then pE sg n .fin s else(pE sg n (.chain (l+1)) s).bind fun p=>Gr sg l (pE sg n (.chain (l+1))) (2*sg.length+4) [] [p.1] p.2:=rfl
theorem Gt{α:Type}{f:Ps→Option (α×Ps)}{y:α×Gs}(h:Ah sg x f y):gsOk sg y.2:=h.1.1
theorem Dh{α:Type}{f:Ps→Option (α×Ps)}{y:α×Gs}(h:Ah sg x f y):y.2.deep=x.deep∧x.pos≤y.2.pos∧y.2.pos≤sg.length∧(y.2.bad=false→x.bad=false∧x.pos<y.2.pos):=by
 refine⟨h.1.2.1,h.1.2.2.1,h.1.1.1.2,fun hb=>⟨?_,h.2 hb⟩⟩
 cases hx:x.bad with
 |false=>rfl
 |true=>
  have:=h.1.2.2.2.1
  rw[Ev hx,Dx hb] at this;cases this
theorem JV{g:Gs}{x:Nd}:(Ax g x).deep=g.deep∧(Ax g x).pos=g.pos∧((Ax g x).bad=false→g.bad=false):=by
 unfold Ax;split
 ·rename_i h;exact⟨rfl,rfl,fun hb=>by simp [Bu] at hb⟩
 ·exact⟨rfl,rfl,fun hb=>hb⟩
theorem Tr{f:Ps→PR}{w:Nd}(h:restP sg x f y (Bd w) 0)(hw:Dw w):BF sg x f (AY y,Ax y w):=by
 have h2:=BR (k:=fun a s=>some (a,s)) h (Tn h.1 hw) (fun s _=>by cases Bd w s<;>rfl)
 exact He h2
theorem Ts{f:Ps→PR}{w:Nd}(h:restP sg x f y (Bq sg m w) 0)(hw:Dw w):BF sg x f (Da sg y m,CZ sg y m w):=by
 have h2:=BR (k:=fun a s=>some (a,s)) h (Oi h.1 hw).1 (fun s _=>by cases Bq sg m w s<;>rfl)
 exact He h2
theorem b5v(h:gsOk sg x)(hd:x.deep≤20):restP sg x (pE sg (n+1) .pick) (gDp (if x.deep=20 then Bu x else x) 1)
 (fun s=>(pE sg n (.chain 0) s).bind fun p=>if isM sg p.2 [63] then(pE sg n .pick (adv p.2)).bind fun a=>(BE sg [58] a.2).bind fun s1=>(pE sg n .pick s1).bind fun b=>(Bd ⟨8,[],[p.1,a.1,b.1],false⟩ b.2).map fun q=>(q.1,dp q.2 (-1)) else some (p.1,dp p.2 (-1))) 1:=by
 split
 ·rename_i h20
  have h2:=a4O (d:=0) (g':=pE sg (n+1) .pick) (DA (f:=pE sg (n+1) .pick) h) (fun s hs=>by
   obtain⟨_,rfl⟩:=Fm.1 hs
   rw[a4S,if_pos (by simp only;omega)])
  refine MB (d:=0) h2 ⟨by simp only[Bu];omega,by simp only[Bu];omega⟩ (fun s hs=> ?_)
  rw[JS] at hs;cases hs
 ·rename_i h20
  refine MB (d:=0) (DA h) ⟨by have:=h.2.1.1;omega,by omega⟩ (fun s hs=> ?_)
  obtain⟨_,rfl⟩:=Fm.1 hs
  rw[a4S,if_neg (by simp only;omega)]
theorem a4T(h:gsOk sg x)(hd:x.deep≤20)(h1:Ah sg (gDp (if x.deep=20 then Bu x else x) 1) (pE sg n (.chain 0)) z):
 restP sg x (pE sg (n+1) .pick) z.2 (fun s=>if isM sg s [63] then(pE sg n .pick (adv s)).bind fun a=>(BE sg [58] a.2).bind fun s1=>(pE sg n .pick s1).bind fun b=>(Bd ⟨8,[],[z.1,a.1,b.1],false⟩ b.2).map fun q=>(q.1,dp q.2 (-1)) else some (z.1,dp s (-1))) 1:=
 BR (k:=fun k s=>if isM sg s [63] then(pE sg n .pick (adv s)).bind fun a=>(BE sg [58] a.2).bind fun s1=>(pE sg n .pick s1).bind fun b=>(Bd ⟨8,[],[k,a.1,b.1],false⟩ b.2).map fun q=>(q.1,dp q.2 (-1)) else some (k,dp s (-1))) (b5v h hd) h1.1 (fun _ _=>rfl)
theorem QE{x:Gs}:(gDp (if x.deep=20 then Bu x else x) 1).pos=x.pos∧(gDp (if x.deep=20 then Bu x else x) 1).deep=x.deep+1∧((gDp (if x.deep=20 then Bu x else x) 1).bad=false→x.bad=false∧x.deep≠20):=by
 split
 ·exact⟨rfl,rfl,fun h=>by simp [gDp,Bu] at h⟩
 ·rename_i h;exact⟨rfl,rfl,fun h2=>⟨h2,h⟩⟩
theorem b5w(h:gsOk sg x)(hd:x.deep≤20)(h1:Ah sg (gDp (if x.deep=20 then Bu x else x) 1) (pE sg n (.chain 0)) z)(hq:isG sg z.2 4 [63]=false):
 Ah sg x (pE sg (n+1) .pick) (z.1,gDp z.2 (-1)):=by
 have h2:=Ey (a4T h hd h1) (g':=fun s=>some (z.1,dp s (-1))) (fun s hs=>by rw[if_neg (by simp [Fo hs hq])])
 obtain⟨e1,e2,e3,e4⟩:=Dh h1
 obtain⟨p1,p2,p3⟩:= @QE x
 refine⟨He (MB (e:= -1) h2 ?_ (fun s hs=>rfl)),fun hb=> ?_⟩
 ·have:=h.2.1;omega
 ·have:=e4 hb;show x.pos<z.2.pos;omega
theorem b5x{a b:Int×Gs}(h:gsOk sg x)(hd:x.deep≤20)(h1:Ah sg (gDp (if x.deep=20 then Bu x else x) 1) (pE sg n (.chain 0)) z)(hq:isG sg z.2 4 [63]=true)
 (h2:Ah sg (Aw z.2) (pE sg n .pick) a) (h3:Ah sg (AP sg a.2 [58]) (pE sg n .pick) b):
 Ah sg x (pE sg (n+1) .pick) (AY b.2,gDp (Ax b.2 ⟨8,[],[z.1,a.1,b.1],false⟩) (-1)):=by
 have k1:=Hf (g':=fun s=>(pE sg n .pick s).bind fun a=>(BE sg [58] a.2).bind fun s1=>(pE sg n .pick s1).bind fun b=>(Bd ⟨8,[],[z.1,a.1,b.1],false⟩ b.2).map fun q=>(q.1,dp q.2 (-1)))
  (a4T h hd h1) (by omega) hq (fun s hs ht=>by rw[if_pos (show isM sg s [63]=true from ht)])
 have k2:=BR (k:=fun a s=>(BE sg [58] s).bind fun s1=>(pE sg n .pick s1).bind fun b=>(Bd ⟨8,[],[z.1,a,b.1],false⟩ b.2).map fun q=>(q.1,dp q.2 (-1))) k1 h2.1 (fun _ _=>rfl)
 have k3:=HS (g':=fun s1=>(pE sg n .pick s1).bind fun b=>(Bd ⟨8,[],[z.1,a.1,b.1],false⟩ b.2).map fun q=>(q.1,dp q.2 (-1))) k2 (fun _ _=>rfl)
 have k4:=BR (k:=fun b s=>(Bd ⟨8,[],[z.1,a.1,b],false⟩ s).map fun q=>(q.1,dp q.2 (-1))) k3 h3.1 (fun _ _=>rfl)
 have hw:Dw ⟨8,[],[z.1,a.1,b.1],false⟩:=⟨by simp,by simp⟩
 have k5:=BR (k:=fun k s=>some (k,dp s (-1))) k4 (Tn k4.1 hw) (fun s _=>by cases Bd ⟨8,[],[z.1,a.1,b.1],false⟩ s<;>rfl)
 simp only at k5
 obtain⟨d1,d2,d3⟩:= @JV b.2 ⟨8,[],[z.1,a.1,b.1],false⟩
 refine⟨He (MB (e:= -1) k5 ?_ (fun s hs=>rfl)),fun hb=> ?_⟩
 ·have:=k5.2.1;have:=h.2.1;omega
 ·have hb2:=d3 hb
  obtain⟨p1,p2,p3⟩:= @QE x
  have e1:=Dh h1;have e2:=Dh h2;have e3:=Dh h3
  have e4:=Qz (m:=[58]) (Gt h2)
  have e5:=(Qz (m:=[58]) (Gt h2)).1.2.2.1
  show x.pos<(Ax b.2 ⟨8,[],[z.1,a.1,b.1],false⟩).pos
  have ea:(Aw z.2).pos=z.2.pos+1:=rfl
  have:=e3.2.1
  omega
def KX(sg:List Sg)(n:Nat)(x y:Gs)(ks:List Int)(N:Nat):Prop:=
 restP sg x (pE sg (n+1) .value) y (fun s=>(FF sg (pE sg n .value) N ks s).bind fun q=>Bd ⟨10,[],q.1,false⟩ q.2) 0∧(sg.length:Int)-y.pos<N∧(ks.length:Int)≤y.pos+1∧(y.bad=false→x.pos<y.pos)
theorem b5y(h:gsOk sg x)(h1:Ah sg x (pE sg n .pick) z)(hq:isG sg z.2 4 [46,46]=false):Ah sg x (pE sg (n+1) .value) z:=by
 have k1:=BR (k:=fun k s=>if isM sg s [46,46] then(FF sg (pE sg n .value) (sg.length+1) [k] s).bind fun q=>Bd ⟨10,[],q.1,false⟩ q.2 else some (k,s)) (DA (f:=pE sg (n+1) .value) h) h1.1 (fun _ _=>rfl)
 have k2:=Ey k1 (g':=fun s=>some (z.1,s)) (fun s hs=>by rw[if_neg (by simp [Fo hs hq])])
 exact⟨He k2,h1.2⟩
theorem b5z(h:gsOk sg x)(h1:Ah sg x (pE sg n .pick) z)(hq:isG sg z.2 4 [46,46]=true):KX sg n x z.2 [z.1] (sg.length+1):=by
 have k1:=BR (k:=fun k s=>if isM sg s [46,46] then(FF sg (pE sg n .value) (sg.length+1) [k] s).bind fun q=>Bd ⟨10,[],q.1,false⟩ q.2 else some (k,s)) (DA (f:=pE sg (n+1) .value) h) h1.1 (fun _ _=>rfl)
 have k2:=Ey k1 (g':=fun s=>(FF sg (pE sg n .value) (sg.length+1) [z.1] s).bind fun q=>Bd ⟨10,[],q.1,false⟩ q.2) (fun s hs=>by rw[if_pos (JT hs hq)])
 have:=k2.1.1
 exact⟨k2,by omega,by simp;omega,h1.2⟩
theorem val_go{w:Int×Gs}(hs:sgB sg)(h:KX sg n x y ks N)(hq:isG sg y 4 [46,46]=true)
 (h2:Ah sg (Ew sg (Aw y)) (Dq sg (pE sg n .value) (EI sg (Aw y))) w):∃M,N=M+1∧KX sg n x w.2 (ks++[w.1]) M:=by
 obtain⟨h1,hN,hk,hb⟩:=h
 obtain⟨hl1,hl⟩:=Dy hq (by omega)
 match N with
 |0=>omega
 |M+1=>
  refine⟨M,rfl,?_⟩
  have k1:=Hf (g':=fun s=>((BQ sg s).bind fun p=>(Dq sg (pE sg n .value) p.1 p.2).bind fun q=>FF sg (pE sg n .value) M (ks++[q.1]) q.2).bind fun q=>Bd ⟨10,[],q.1,false⟩ q.2)
   h1 (by omega) hq (fun s hs ht=>by rw[FF,if_pos (show isM sg s [46,46]=true from ht)])
  have k2:=BR (k:=fun k s=>((Dq sg (pE sg n .value) k s).bind fun q=>FF sg (pE sg n .value) M (ks++[q.1]) q.2).bind fun q=>Bd ⟨10,[],q.1,false⟩ q.2) k1 (To hs k1.1).1 (fun s _=>by simp only[Option.bind_assoc])
  have k3:=BR (k:=fun k s=>(FF sg (pE sg n .value) M (ks++[k]) s).bind fun q=>Bd ⟨10,[],q.1,false⟩ q.2) k2 h2.1 (fun s _=>by simp only[Option.bind_assoc])
  have e0:(Aw y).pos≤(Ew sg (Aw y)).pos:=(To hs k1.1).1.2.2.1
  have e1:=Dh h2
  have ea:(Aw y).pos=y.pos+1:=rfl
  refine⟨k3,by omega,by simp;omega,fun hb2=> ?_⟩
  have:=h1.2.2.1
  omega
theorem b5A(h:KX sg n x y ks N)(hq:isG sg y 4 [46,46]=false)(hs:sgB sg):Ah sg x (pE sg (n+1) .value) (AY y,Ax y ⟨10,[],ks,false⟩):=by
 obtain⟨h1,hN,hk,hb⟩:=h
 have hp:=h1.1.1
 match N with
 |0=>omega
 |M+1=>
  have k1:=Ey h1 (g':=Bd ⟨10,[],ks,false⟩) (fun s hs=>by rw[FF,if_neg (by simp [Fo hs hq])];rfl)
  have:=hs.1
  refine⟨Tr k1 ⟨by simp,by simp only;omega⟩,fun hb2=> ?_⟩
  obtain⟨d1,d2,d3⟩:= @JV y ⟨10,[],ks,false⟩
  simp only[d2];exact hb (d3 hb2)
theorem a4U{sg:List Sg}{one:Ps→PR}{m:List UInt8}{a:List Int}:∀(n:Nat) (ks:List Int) (s:Ps),Bw sg one m n (a++ks) s=(Bw sg one m n ks s).map fun p=>(a++p.1,p.2)
 |0,ks,s=>rfl
 |n+1,ks,s=>by
  rw[Bw,Bw]
  split
  ·rfl
  ·cases one s with
   |none=>rfl
   |some p=>
    simp only[Option.bind_some]
    split
    ·rw[List.append_assoc,a4U n (ks++[p.1])]
    ·simp
def Jn(sg:List Sg)(one:Ps→PR)(m:List UInt8)(x y:Gs)(ks:List Int)(N:Nat):Prop:=
 restP sg x (Bw sg one m (sg.length+1) []) y (Bw sg one m N ks) 0∧(sg.length:Int)-y.pos<N∧(ks.length:Int)≤y.pos
theorem b5B(h:gsOk sg x):Jn sg one m x x [] (sg.length+1):=by
 have:=h.1
 exact⟨DA h,by omega,by simp;omega⟩
theorem b5C(h:Jn sg one m x y ks N)(hb:y.bad=true):BF sg x (Bw sg one m (sg.length+1) []) (ks,y):=QD h.1 hb
theorem b5D(h:Jn sg one m x y ks N)(hq:isG sg y 4 m=true):BF sg x (Bw sg one m (sg.length+1) []) (ks,y):=by
 obtain⟨h1,hN,hk⟩:=h
 have:=h1.1.1
 match N with
 |0=>omega
 |M+1=>exact He (Ey h1 (g':=fun s=>some (ks,s)) (fun s hs=>b5r (JT hs hq)))
theorem a4V{M:Nat}(h:Jn sg one m x y ks (M+1))(hq:isG sg y 4 m=false)(hz:Ah sg y one z):
 restP sg x (Bw sg one m (sg.length+1) []) z.2 (fun s=>if isM sg s [44] then Bw sg one m M (ks++[z.1]) (adv s) else some (ks++[z.1],s)) 0:=by
 have k1:=Ey h.1 (g':=fun s=>(one s).bind fun p=>if isM sg p.2 [44] then Bw sg one m M (ks++[p.1]) (adv p.2) else some (ks++[p.1],p.2)) (fun s hs=>b5s (Fo hs hq))
 exact BR (k:=fun k s=>if isM sg s [44] then Bw sg one m M (ks++[k]) (adv s) else some (ks++[k],s)) k1 hz.1 (fun _ _=>rfl)
theorem a4W(h:Jn sg one m x y ks N):∃M,N=M+1:=by
 obtain⟨h1,hN,hk⟩:=h
 have:=h1.1.1
 match N with
 |0=>omega
 |M+1=>exact⟨M,rfl⟩
theorem b5E(h:Jn sg one m x y ks N)(hq:isG sg y 4 m=false)(hz:Ah sg y one z)(hc:isG sg z.2 4 [44]=false):
 BF sg x (Bw sg one m (sg.length+1) []) (ks++[z.1],z.2):=by
 obtain⟨M,rfl⟩:=a4W h
 exact He (Ey (a4V h hq hz) (g':=fun s=>some (ks++[z.1],s)) (fun s hs=>by rw[if_neg (by simp [Fo hs hc])]))
theorem b5F(h:Jn sg one m x y ks N)(hq:isG sg y 4 m=false)(hz:Ah sg y one z)(hc:isG sg z.2 4 [44]=true):
 ∃M,N=M+1∧Jn sg one m x (Aw z.2) (ks++[z.1]) M:=by
 obtain⟨M,rfl⟩:=a4W h
 have k1:=Hf (g':=Bw sg one m M (ks++[z.1])) (a4V h hq hz) (by omega) hc (fun s hs ht=>by rw[if_pos (show isM sg s [44]=true from ht)])
 have e:=Dh hz
 obtain⟨h1,hN,hk⟩:=h
 refine⟨M,rfl,k1,?_,?_⟩
 ·simp only[Aw];omega
 ·simp only[Aw,List.length_append,List.length_cons,List.length_nil];omega
theorem b5G{val:Ps→PR}{k:Int}{l:List Int×Gs}(hx:gsOk sg x)(hl:BF sg (AP sg x [40]) (Bw sg val [41] (sg.length+1) []) l)(hll:l.1.length≤3001):
 Ah sg x (Dq sg val k) (Da sg l.2 [41],CZ sg l.2 [41] ⟨5,[],k::l.1,false⟩):=by
 have k1:=HS (g':=fun s=>(Bw sg val [41] (sg.length+1) [k] s).bind fun p=>Bq sg [41] ⟨5,[],p.1,false⟩ p.2) (DA (f:=Dq sg val k) hx) (fun _ _=>rfl)
 have k2:=BR (k:=fun ks s=>Bq sg [41] ⟨5,[],k::ks,false⟩ s) k1 hl (fun s _=>by
  rw[show([k]:List Int)=[k]++[] from rfl,a4U]
  cases Bw sg val [41] (sg.length+1) [] s<;>rfl)
 have hw:Dw ⟨5,[],k::l.1,false⟩:=⟨by simp,by simp;omega⟩
 refine⟨Ts k2 hw,fun hb=> ?_⟩
 have:=(Oi (m:=[41]) hl.1 hw).2 hb
 have e1:=hl.2.2.1
 have e2:=(Qz (m:=[40]) hx).1.2.2.1
 simp only at this ⊢
 omega
end Go.My
end
