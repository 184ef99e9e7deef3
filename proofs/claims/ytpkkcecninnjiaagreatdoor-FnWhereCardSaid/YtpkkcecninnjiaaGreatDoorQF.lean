/- joined -/
import Derived.Test.YtpkkcecninnjiaaGreatDoorQE
set_option linter.unusedSimpArgs false
set_option linter.unusedVariables false
section
namespace Go.My
open Go.Eng Go.Proofs
variable {G:GInv}
variable {c d i j k v:Int}{l:Ad}{ns:List Nd}{x y:Nd}
def koI(ns:List Nd)(x:Nd)(i:Int):Prop:=0≤i∧i≤x.kids.length∧∀(j:Nat) c,(j:Int)<i→x.kids[j]? =some c→Fk ns x j c=true
theorem b9r:koI ns x 0:=⟨by omega,by omega,fun j c h=>by omega⟩
theorem a8U(h:koI ns x i)(hc:x.kids[i.toNat]? =some c)(hk:Fk ns x i c=true):koI ns x (i+1):=by
 obtain⟨h1,h2,h3⟩:=h
 have:=(Ec hc).1
 refine⟨by omega,by omega,fun j d hj hd=> ?_⟩
 by_cases e:(j:Int)<i
 ·exact h3 j d e hd
 ·obtain rfl:j=i.toNat:=by omega
  rw[hc] at hd;cases hd
  rwa [show((i.toNat:Nat):Int)=i by omega]
theorem b9s(h:koI ns x i)(hl:¬i<x.kids.length):Cs (Fk ns x) x.kids 0=true:=by
 rw[a8I];intro j c hc
 exact h.2.2 j c (by have:=(Ec hc).1;omega) hc
theorem WR(h0:0≤i)(hc:x.kids[i.toNat]? =some c)(hk:Fk ns x i c=false):Cs (Fk ns x) x.kids 0=false:=by
 rw[FI];intro h
 rw[a8I] at h
 have:=h _ _ hc
 rw[show((i.toNat:Nat):Int)=i by omega,hk] at this;cases this
theorem ko1(hy:ns[c.toNat]? =some y)(h:y.kind=5)(h0:(y.kids.length:Int)=0):Fk ns x i c=false:=by
 have h0:=Hq.1 (show y.kids.length=0 by omega)
 simp [Fk,Ai,BR hy,h,h0]
theorem Mm:inn d 0 (ns.length-1)=DW ns d:=by
 rw[DR];simp only[inn,DW,AY,Bf];omega
theorem ko2(hy:ns[c.toNat]? =some y)(h:y.kind=5)(h0:y.kids[0]? =some d)(hd:inn d 0 (ns.length-1)=false):Fk ns x i c=false:=by
 rw[Mm] at hd
 match hk:y.kids with
 |[]=>rw[hk] at h0;cases h0
 |e::t=>rw[hk] at h0;cases h0;simp [Fk,Ai,BR hy,h,hk,hd]
theorem ko3(hy:ns[c.toNat]? =some y)(h:y.kind=5)(h0:y.kids[0]? =some d)(hd:inn d 0 (ns.length-1)=true):Fk ns x i c=Pg ns x i c:=by
 rw[Mm] at hd
 match hk:y.kids with
 |[]=>rw[hk] at h0;cases h0
 |e::t=>rw[hk] at h0;cases h0;simp [Fk,Ai,BR hy,h,hk,hd]
theorem ko4(hy:ns[c.toNat]? =some y)(h:y.kind≠5):Fk ns x i c=Pg ns x i c:=by
 simp [Fk,Ai,BR hy,h]
theorem WS{b:Bool}(hx:ns[k.toNat]? =some x)(hc:x.kids[i.toNat]? =some c)(hb:Ph (ns,k,i)=b):Pg ns x i c=b:=by
 rw[←hb,Ph,BR hx,List.getD,hc,LT]
theorem b9t(h1:Ew ns)(hn:DW ns k=true)(hx:ns[k.toNat]? =some x)(hin:Gu x.kids k=true)(hi:koI ns x i)(hc:x.kids[i.toNat]? =some c)(hy:ns[c.toNat]? =some y)(h0:y.kids[0]? =some d)(hd:inn d 0 (ns.length-1)=true):Kt (ns,k,i):=by
 have hk:=BF.1 hn
 have:=(Ec hc).1
 unfold Kt;simp only[BR hx]
 refine⟨h1,hn,fun h10 c' hc' h5=> ?_,⟨hi.1,by omega⟩,fun c' hc'=> ?_⟩
 ·rw[hc] at hc';cases hc'
  rw[BR hy]
  match hkk:y.kids with
  |[]=>rw[hkk] at h0;cases h0
  |e::t=>rw[hkk] at h0;cases h0;exact⟨_,_,rfl,by rw[←Mm];exact hd⟩
 ·simp only[Gu,CC,AY,Bf] at hin
  have:=hin c' (Bq hc');omega
theorem b9u(h1:Ew ns)(hn:DW ns k=true)(hx:ns[k.toNat]? =some x)(hin:Gu x.kids k=true)(hi:koI ns x i)(hc:x.kids[i.toNat]? =some c)(hy:ns[c.toNat]? =some y)(h5:y.kind≠5):Kt (ns,k,i):=by
 have hk:=BF.1 hn
 have:=(Ec hc).1
 unfold Kt;simp only[BR hx]
 refine⟨h1,hn,fun h10 c' hc' h5'=> ?_,⟨hi.1,by omega⟩,fun c' hc'=> ?_⟩
 ·rw[hc] at hc';cases hc'
  rw[Ai,BR hy] at h5';exact(h5 h5').elim
 ·simp only[Gu,CC,AY,Bf] at hin
  have:=hin c' (Bq hc');omega
theorem a8V:NA k=(Gt k||(decide (k=20)||decide (k=21))):=by
 rw[DR]
 simp only[NA,Gt,GJ,TU,inn,CG,AY,Bf];omega
theorem a8W(h:inn k 0 (ns.length-1)=false):false=DC ns k:=by rw[Mm] at h;exact b8T h
theorem Uh(hx:ns[k.toNat]? =some x)(h:inn k 0 (ns.length-1)=true):DC ns k=(inn x.kind 1 22&&(inn x.kids.length (Ci x.kind).1 (Ci x.kind).2&&(Fz x.kind x.text&&((NA x.kind|| !x.blank)&&((Gu x.kids k&&decide x.kids.Nodup)&&Cs (Fk ns x) x.kids 0))))):=by
 rw[Mm] at h;rw[b8U hx h,b8O]
theorem b9v(hx:ns[k.toNat]? =some x)(h:inn k 0 (ns.length-1)=true)(h1:Gu x.kids k=false):false=DC ns k:=by
 rw[Uh hx h,h1];simp
theorem b9w(hx:ns[k.toNat]? =some x)(h:inn k 0 (ns.length-1)=true)(h1:¬x.kids.Nodup):false=DC ns k:=by
 rw[Uh hx h,Gj h1];simp
theorem WT(hx:ns[k.toNat]? =some x)(h:inn k 0 (ns.length-1)=true)(h1:Cs (Fk ns x) x.kids 0=false):false=DC ns k:=by
 rw[Uh hx h,h1];simp
theorem b9x(hx:ns[k.toNat]? =some x)(h:inn k 0 (ns.length-1)=true)(h1:inn x.kind 1 22=true)(h2:inn x.kids.length (Ci x.kind).1 (Ci x.kind).2=true)(h3:Fz x.kind x.text=true)(h4:(NA x.kind|| !x.blank)=true)
 (h5:Gu x.kids k=true∧x.kids.Nodup) (h6:Cs (Fk ns x) x.kids 0=true):true=DC ns k:=by
 rw[Uh hx h,h1,h2,h3,h4,h5.1,h6,Ht h5.2];rfl
theorem b9y{n:Nat}(hc:l[n]? =some c)(h:inn c 0 (k-1)=false):Gu l k=false:=by
 rw[FI];intro hh;simp only[Gu,CC,AY,Bf] at hh
 have:=hh c (Bq hc)
 have:inn c 0 (k-1)=true:=Cm.2 (by omega)
 rw[h] at this;cases this
def djI(l:Ad)(i j:Int):Prop:=0≤j∧j≤i∧∀c,l[i.toNat]? =some c→(l.take j.toNat).elem c=false
theorem b9z(h:0≤i):djI l i 0:=⟨by omega,h,by simp⟩
theorem b9A(h:djI l i j)(hl:j<i)(hc:l[i.toNat]? =some c)(hd:l[j.toNat]? =some d)(hne:c≠d):djI l i (j+1):=by
 refine⟨by have:=h.1;omega,by omega,fun c' hc'=> ?_⟩
 have h3:=h.2.2 c' hc'
 rw[hc] at hc';cases hc'
 rw[CW h.1,FS hd]
 simp at h3 ⊢
 exact⟨h3,hne⟩
theorem b9B(h0:djI l i j)(hl:j<i)(hc:l[i.toNat]? =some c)(hd:l[j.toNat]? =some d)(he:c=d):¬l.Nodup:=by
 refine b8S hc ?_
 subst he
 rw[List.elem_iff]
 rw[List.mem_take_iff_getElem]
 obtain⟨hj,e⟩:=Ec hd
 have:=h0.1
 exact⟨j.toNat,by omega,e⟩
theorem b9C(h:nkI k l i)(hd:djI l i j)(hl:¬j<i)(hc:l[i.toNat]? =some c)(hin:inn c 0 (k-1)=true):nkI k l (i+1):=by
 have:=Cm.1 hin
 have h3:=hd.2.2 c hc
 obtain rfl:j=i:=by have:=hd.2.1;omega
 exact b8R h hc (by omega) (by omega) h3
def WU(x:List Nd×Int)(i:Int):LS:= {
 ι:=Int,inv:=djI (Ab x.1 x.2).kids i,
 regs:=fun j=>[(0,nds x.1),(1,.int .i64 x.2),(5,.box 0 (ndA false (Ab x.1 x.2))),(8,.int .i64 i),(9,.int .i64 j)],als:=[],meas:=fun j=>i.toNat-j.toNat}
def WV(x:List Nd×Int):LS:= {
 ι:=Int,inv:=nkI x.2 (Ab x.1 x.2).kids,
 regs:=fun i=>[(0,nds x.1),(1,.int .i64 x.2),(5,.box 0 (ndA false (Ab x.1 x.2))),(8,.int .i64 i)],als:=[],meas:=fun i=>(Ab x.1 x.2).kids.length-i.toNat,sub:=fun i=>[(15,WU x i)]}
def Ui(x:List Nd×Int):LS:= {
 ι:=Int,inv:=koI x.1 (Ab x.1 x.2),
 regs:=fun i=>[(0,nds x.1),(1,.int .i64 x.2),(5,.box 0 (ndA false (Ab x.1 x.2))),(10,.int .i64 i)],als:=[],meas:=fun i=>(Ab x.1 x.2).kids.length-i.toNat}
def jI(x:Nd):Prop:=inn x.kind 1 22=true∧inn x.kids.length (Ci x.kind).1 (Ci x.kind).2=true∧Fz x.kind x.text=true∧(NA x.kind|| !x.blank)=true
def Rs(x:List Nd×Int):LS:= {
 ι:=Unit,inv:=fun _=>jI (Ab x.1 x.2),
 regs:=fun _=>[(0,nds x.1),(1,.int .i64 x.2),(5,.box 0 (ndA false (Ab x.1 x.2)))],als:=[],meas:=fun _=>0}
def GL:Sig:=⟨List Nd×Int,fun x=>[nds x.1,.q x.2],fun x=>Ew x.1,Unit,fun x y=>True,fun x y=> .bool (DC x.1 x.2),fun x y=>[.top,.top],false,[],[]⟩
set_option maxHeartbeats 4000000 in
theorem b9D:CtG G 96 GL:=
 vFq [(20,0,BZ),(109,0,EK),(110,0,He),(111,0,Ln),(112,0,Ep)] [] (fun x=>[(10,WV x),(20,Ui x),(200009,Rs x)]) Tryz.func96 ⟨JK,b9p,b8M,a8O,b9q,trivial⟩ (fun x=>U4∧inR .i64 ((nL x.1)-(1:Int))∧cA BZ [.q x.2,.q 0,.q ((nL x.1)-(1:Int))] fun x_1 y=>Ae (!inn x_1.1 x_1.2.1 x_1.2.2) (rA GL x [.bool false,.top,.top]) ((0≤x.2∧x.2<(nL x.1))∧∀(e:Nd),x.1[Int.toNat x.2]? =some e→cA BZ [.q e.kind,.q 1,.q 22] fun x_2 y=>Ae (!inn x_2.1 x_2.2.1 x_2.2.2) (rA GL x [.bool false,.top,.top]) ((0≤x.2∧x.2<(nL x.1))∧∀(e:Nd),x.1[Int.toNat x.2]? =some e→cA EK [.q e.kind] fun x_3 y=>cA BZ [.q (nL e.kids),.q (Ci x_3).1,.q (Ci x_3).2] fun x_4 y=>Ae (!inn x_4.1 x_4.2.1 x_4.2.2) (rA GL x [.bool false,.top,.top]) (cA He [.q e.kind,.str e.text] fun x_5 y=>Ae (!Fz x_5.1 x_5.2) (rA GL x [.bool false,.top,.top]) (Ae e.blank (cA Ln [.q e.kind] fun x_6 y=>Ae (!Gt x_6) (Ae (e.kind != 20) (Ae (e.kind != 21) (rA GL x [.bool false,.top,.top]) (eA (Rs x) [nds x.1,.q x.2,.box 0 (ndA false e)])) (eA (Rs x) [nds x.1,.q x.2,.box 0 (ndA false e)])) (eA (Rs x) [nds x.1,.q x.2,.box 0 (ndA false e)])) (eA (Rs x) [nds x.1,.q x.2,.box 0 (ndA false e)])∧∀(i:Unit),jI (Ab x.1 x.2)→eA (WV x) [nds x.1,.q x.2,.box 0 (ndA false (Ab x.1 x.2)),.q 0]∧∀(i:Int),nkI x.2 (Ab x.1 x.2).kids i→Ae (decide (i<(↑((Ab x.1 x.2).kids.length):Int))) ((0≤i∧i<(↑((Ab x.1 x.2).kids.length):Int))∧∀(e:Int),(Ab x.1 x.2).kids[Int.toNat i]? =some e→inR .i64 (x.2-(1:Int))∧cA BZ [.q e,.q 0,.q (x.2-(1:Int))] fun x_6 y=>Ae (!inn x_6.1 x_6.2.1 x_6.2.2) (rA GL x [.bool false,.top,.top]) (eA (WU x i) [nds x.1,.q x.2,.box 0 (ndA false (Ab x.1 x.2)),.q i,.q 0]∧∀(i_1:Int),djI (Ab x.1 x.2).kids i i_1→Ae (decide (i_1<i)) (true=true∧true=true∧(0≤i∧i<(↑((Ab x.1 x.2).kids.length):Int))∧∀(e:Int),(Ab x.1 x.2).kids[Int.toNat i]? =some e→(0≤i_1∧i_1<(↑((Ab x.1 x.2).kids.length):Int))∧∀(e_1:Int),(Ab x.1 x.2).kids[Int.toNat i_1]? =some e_1→Ae (e==e_1) (rA GL x [.bool false,.top,.top]) (inR .i64 (i_1+(1:Int))∧eN (WU x i) i_1 [nds x.1,.q x.2,.box 0 (ndA false (Ab x.1 x.2)),.q i,.q (i_1+(1:Int))])) (inR .i64 (i+1)∧eN (WV x) i [nds x.1,.q x.2,.box 0 (ndA false (Ab x.1 x.2)),.q (i+1)]))) (eA (Ui x) [nds x.1,.q x.2,.box 0 (ndA false (Ab x.1 x.2)),.q 0]∧∀(i:Int),koI x.1 (Ab x.1 x.2) i→Ae (decide (i<(↑((Ab x.1 x.2).kids.length):Int))) ((0≤i∧i<(↑((Ab x.1 x.2).kids.length):Int))∧∀(e:Int),(Ab x.1 x.2).kids[Int.toNat i]? =some e→(0≤e∧e<(nL x.1))∧∀(e_1:Nd),x.1[Int.toNat e]? =some e_1→Ae (e_1.kind==5) (Ae ((nL e_1.kids)==(0:Int)) (rA GL x [.bool false,.top,.top]) (((0:Int)≤(0:Int)∧0<(nL e_1.kids))∧∀(e:Int),e_1.kids[(0:Nat)]? =some e→inR .i64 ((nL x.1)-(1:Int))∧cA BZ [.q e,.q 0,.q ((nL x.1)-(1:Int))] fun x_6 y=>Ae (!inn x_6.1 x_6.2.1 x_6.2.2) (rA GL x [.bool false,.top,.top]) (cA Ep [nds x.1,.q x.2,.q i] fun x_7 y=>Ae (!Ph x_7) (rA GL x [.bool false,.top,.top]) (inR .i64 (i+1)∧(eN (Ui x) i [nds x.1,.q x.2,.box 0 (ndA false (Ab x.1 x.2)),.q (i+1)]))))) (cA Ep [nds x.1,.q x.2,.q i] fun x_6 y=>Ae (!Ph x_6) (rA GL x [.bool false,.top,.top]) (inR .i64 (i+1)∧(eN (Ui x) i [nds x.1,.q x.2,.box 0 (ndA false (Ab x.1 x.2)),.q (i+1)])))) (rA GL x [.bool true,.top,.top]))))))) (by kernel_rfl) fun(x:List Nd×Int) (hx:Ew x.1)=>(by
 dsimp only[nL,U4,cA,eA,eN,Rs,WV,WU,Ui,Ce,nds,rA,BZ,EK,Ep,Ln,He,GL,AB,AF,mvL,lnL,mvE,lnE,Bn,AV.q]
 have h1:Ew x.1:=hx;have hl:=h1.1
 by_cases hn:DW x.1 x.2=true
 case neg=>
  (repeat' first|(with_reducible first|rfl|exact⟨⟩|apply AG|apply AM)|apply AL|(apply AK<;>try dsimp only)|apply AJ|((try refine AH.2 ?_);intro _;try dsimp only))
  all_goals first
   |exact a8W ‹_›
   |(have hh:= ‹inn x.2 0 (x.1.length-1)=true›;rw[Mm] at hh;exact(hn hh).elim)
   |((try simp only[Aw]);omega)
 case pos=>
 have hr:=BF.1 hn
 obtain⟨z,hz⟩:∃z,x.1[x.2.toNat]? =some z:=⟨x.1[x.2.toNat],by simp⟩
 have hzo:=h1.2 _ (Bq hz)
 have hi:inn x.2 0 (x.1.length-1)=true:=by rw[Mm];exact hn
 simp only[hz,AS,forall_eq',BR hz]
 (repeat' first|(with_reducible first|rfl|exact⟨⟩|apply AG|apply AM)|apply AL|(apply AK<;>try dsimp only)|apply AJ|((try refine AH.2 ?_);intro _;try dsimp only))
 all_goals first
  |rfl
  |assumption
  |exact b8Q
  |exact b9r
  |exact b9z (‹nkI _ _ _›.1)
  |exact a8W ‹_›
  |exact⟨by assumption,by assumption,by assumption,by simp [a8V, *]⟩
  |exact b9v hz hi (b9y ‹_› ‹_›)
  |exact b9w hz hi (b9B ‹_› ‹_› ‹_› ‹_› ‹_›)
  |exact b9A ‹_› ‹_› ‹_› ‹_› ‹_›
  |exact b9C ‹_› ‹_› ‹_› ‹_› ‹_›
  |exact WT hz hi (WR (‹koI _ _ _›.1) ‹_› (ko1 ‹_› ‹_› ‹_›))
  |exact WT hz hi (WR (‹koI _ _ _›.1) ‹_› (ko2 ‹_› ‹_› ‹_› ‹_›))
  |exact WT hz hi (WR (‹koI _ _ _›.1) ‹_› ((ko4 ‹_› ‹_›).trans (WS hz ‹_› ‹_›)))
  |exact WT hz hi (WR (‹koI _ _ _›.1) ‹_› ((ko3 ‹_› ‹_› ‹_› ‹_›).trans (WS hz ‹_› ‹_›)))
  |exact a8U ‹_› ‹_› ((ko4 ‹_› ‹_›).trans (WS hz ‹_› ‹_›))
  |exact a8U ‹_› ‹_› ((ko3 ‹_› ‹_› ‹_› ‹_›).trans (WS hz ‹_› ‹_›))
  |exact b9t h1 hn hz (WP ‹_› ‹_›).1 ‹_› ‹_› ‹_› ‹_› ‹_›
  |exact b9u h1 hn hz (WP ‹_› ‹_›).1 ‹_› ‹_› ‹_› ‹_›
  |exact b9x hz hi (‹jI _›.1) (‹jI _›.2.1) (‹jI _›.2.2.1) (‹jI _›.2.2.2) (WP ‹_› ‹_›) (b9s ‹_› ‹_›)
  |(rw[Uh hz hi];simp [a8V, *];done)
  |exact hzo.1
  |(have:=b8V ‹_› ‹_› hr.2 (Bq ‹z.kids[_]? =some _›);omega)
  |((try simp only[Aw]);omega)
  |(have hko:= ‹koI _ _ _›;have hk2:=hzo.2;have:=hko.1;have:=hko.2.1;(try simp only[Aw]);omega)
  |(have hko:= ‹djI _ _ _›;have hk1:= ‹nkI _ _ _›;have hk2:=hzo.2;have:=hko.1;have:=hko.2.1;have:=hk1.1;have:=hk1.2.1;(try simp only[Aw]);omega)
  |(have hk1:= ‹nkI _ _ _›;have hk2:=hzo.2;have:=hk1.1;have:=hk1.2.1;(try simp only[Aw]);omega)
  |skip)
def sdp(ns:List Nd)(i:Nat)(ds:Ad):Int:=
 if DC ns i=true∧(i=0∨ds.getD (i-1) 0≠0) then(if 14≤mx ds (Ab ns i).kids 0 then 0 else mx ds (Ab ns i).kids 0+1) else 0
def sds(ns:List Nd):Nat→Ad
 |0=>[]
 |n+1=>sds ns n++[sdp ns n (sds ns n)]
theorem Ku{ns:List Nd}:∀ {n:Nat},(sds ns n).length=n
 |0=>rfl
 |n+1=>by rw[sds,Ba,Ku];rfl
theorem a8X{ns:List Nd}:∀ {n:Nat},(match Da ns n with|some ds=>sds ns n=ds|none=>0<n∧(sds ns n).getD (n-1) 0=0)
 |0=>by simp [Da,sds]
 |n+1=>by
  have ih:= @a8X ns n
  unfold Da
  cases hd:Da ns n with
  |none=>
   rw[hd] at ih
   simp only
   refine⟨by omega,?_⟩
   have hz:sdp ns n (sds ns n)=0:=by
    unfold sdp;rw[if_neg];rintro⟨_,h|h⟩
    ·omega
    ·exact h ih.2
   rw[sds,hz,List.getD,LQ (by rw[Ku];omega),Ku];simp
  |some ds=>
   rw[hd] at ih
   simp only at ih ⊢
   by_cases hn:DC ns n=true
   ·rw[if_pos hn]
    have hprev:n=0∨(sds ns n).getD (n-1) 0≠0:=by
     by_cases e:n=0
     ·exact .inl e
     ·right
      rw[ih,List.getD]
      have hl:=TY hd
      have:ds[n-1]? =some ds[n-1]:=by simp
      rw[this];have:=TZ hd ds[n-1] (by simp);simp;omega
    have hs:sdp ns n (sds ns n)=if 14≤mx ds (Ab ns n).kids 0 then 0 else mx ds (Ab ns n).kids 0+1:=by
     unfold sdp;rw[if_pos ⟨hn,hprev⟩,ih]
    by_cases hm:14≤mx ds (Ab ns n).kids 0
    ·rw[if_pos hm];simp only
     refine⟨by omega,?_⟩
     rw[sds,hs,if_pos hm,List.getD,LQ (by rw[Ku];omega),Ku];simp
    ·rw[if_neg hm];simp only
     rw[sds,hs,if_neg hm,ih]
   ·rw[if_neg hn];simp only
    refine⟨by omega,?_⟩
    have hz:sdp ns n (sds ns n)=0:=by unfold sdp;rw[if_neg (fun h=>hn h.1)]
    rw[sds,hz,List.getD,LQ (by rw[Ku];omega),Ku];simp
theorem b9E(h:DW ns k=true)(hv:(sds ns (k.toNat+1))[k.toNat]? =some v):v=DD ns k:=by
 have ih:= @a8X ns (k.toNat+1)
 unfold DD;rw[if_pos h]
 cases hd:Da ns (k.toNat+1) with
 |none=>rw[hd] at ih;simp only at ih ⊢;have:=ih.2;rw[List.getD] at this;simp [hv] at this;exact this
 |some ds=>rw[hd] at ih;simp only at ih ⊢;rw[←ih,List.getD,hv];rfl
theorem a2j{ns:List Nd}:∀ {n:Nat},∀d∈sds ns n,0≤d∧d≤14
 |0,d,h=>by simp [sds] at h
 |n+1,d,h=>by
  rw[sds] at h
  rcases FK.1 h with h|h
  ·exact a2j d h
  ·simp at h;subst h
   have:=WB (sds ns n) (Ab ns n).kids 0
   unfold sdp;split
   ·split<;>omega
   ·omega
def okB(ns:List Nd)(i:Int):Bool:=DC ns i&&(decide (i=0)|| !decide ((sds ns i.toNat).getD (i.toNat-1) 0=0))
theorem a8Y(h:0≤i):sdp ns i.toNat (sds ns i.toNat)=if okB ns i then(if 14≤mx (sds ns i.toNat) (Ab ns i).kids 0 then 0 else mx (sds ns i.toNat) (Ab ns i).kids 0+1) else 0:=by
 have e:((i.toNat:Nat):Int)=i:=by omega
 unfold sdp;rw[e]
 have hb:okB ns i=true↔DC ns i=true∧(i.toNat=0∨(sds ns i.toNat).getD (i.toNat-1) 0≠0):=by
  unfold okB
  simp only[AY,CG,Bf,EV,GY]
  constructor
  ·rintro⟨h1,h2⟩;exact⟨h1,h2.imp (fun h=>by omega) id⟩
  ·rintro⟨h1,h2⟩;exact⟨h1,h2.imp (fun h=>by omega) id⟩
 by_cases h1:okB ns i=true
 ·rw[if_pos h1,if_pos (hb.1 h1)]
 ·rw[if_neg h1,if_neg (fun h2=>h1 (hb.2 h2))]
def eI(ns:List Nd)(i j d:Int):Prop:=(okB ns i=true→j≤(Ab ns i).kids.length∧1≤d∧d≤15∧mx (sds ns i.toNat) ((Ab ns i).kids.drop j.toNat) (d-1)=mx (sds ns i.toNat) (Ab ns i).kids 0)∧0≤j∧(okB ns i=false→d=0)
theorem b9F:eI ns i 0 (if okB ns i then 1 else 0):=by
 refine⟨fun h=> ?_,by omega,fun h=> ?_⟩
 ·rw[if_pos h];refine⟨by omega,by omega,by omega,by simp⟩
 ·rw[h];rfl
theorem WW(h:eI ns i j d)(hd:d>0):okB ns i=true:=by
 cases hb:okB ns i
 ·have:=h.2.2 hb;omega
 ·rfl
theorem a8Z(h:okB ns i=true):DC ns i=true:=by
 simp only[okB,AY] at h;exact h.1
theorem b9G(h:eI ns i j d)(hd:d>0)(hy:ns[i.toNat]? =some y)(hc:y.kids[j.toNat]? =some c):0≤c∧c<i:=by
 have:=(CU (a8Z (WW h hd))).2.2.2.1
 rw[BR hy] at this;exact this c (Bq hc)
theorem b9H(h:eI ns i j d)(hd:d>0)(hy:ns[i.toNat]? =some y):y.kids.length≤12:=by
 have:=(CU (a8Z (WW h hd))).2.1
 rwa [BR hy] at this
theorem b9I{d':Int}(h:eI ns i j d)(hd:d>0)(hy:ns[i.toNat]? =some y)(hc:y.kids[j.toNat]? =some c)(hv:(sds ns i.toNat)[c.toNat]? =some v)(hd':d'-1=max (d-1) v):eI ns i (j+1) d':=by
 have hb:=WW h hd
 obtain⟨h1,h2,h3,h4⟩:=h.1 hb
 have h0:=h.2.1
 have hr:=a2j v (Bq hv)
 rw[BR hy] at h4 h1
 have:=(Ec hc).1
 refine⟨fun _=> ?_,by omega,fun hh=>by rw[hb] at hh;cases hh⟩
 rw[BR hy]
 refine⟨by omega,by omega,by omega,?_⟩
 rw[←h4,GI hc,CW h0,mx,List.getD,hv,LT,hd']
theorem b9J{c:Nat}(hv:(sds ns i.toNat)[c]? =some v):0≤v∧v≤14:=a2j v (Bq hv)
theorem b9K(hi:0≤i)(h:eI ns i j d)(hd:d>0)(hy:ns[i.toNat]? =some y)(hl:¬j<y.kids.length):sds ns i.toNat++[if d>14 then 0 else d]=sds ns (i+1).toNat:=by
 have hb:=WW h hd
 obtain⟨h1,h2,h3,h4⟩:=h.1 hb
 rw[BR hy,OA (by omega),mx] at h4
 rw[CW hi,sds,a8Y hi,if_pos hb,BR hy,←h4]
 congr 2
 by_cases h5:d>14
 ·rw[if_pos h5,if_pos (by omega)]
 ·rw[if_neg h5,if_neg (by omega)];omega
theorem b9L(hi:0≤i)(h:eI ns i j d)(hd:¬d>0):sds ns i.toNat++[d]=sds ns (i+1).toNat:=by
 have hb:okB ns i=false:=by
  cases hb:okB ns i
  ·rfl
  ·have:=(h.1 hb).2.1;omega
 rw[CW hi,sds,a8Y hi,hb,h.2.2 hb];rfl
theorem b9M(h:DC ns i=false):0=if okB ns i=true then(1:Int) else 0:=by simp [okB,h]
theorem b9N(h:i>0)(hv:(sds ns i.toNat)[(i-1).toNat]? =some v)(h0:v=0):0=if okB ns i=true then(1:Int) else 0:=by
 have e:(i-1).toNat=i.toNat-1:=by omega
 rw[e] at hv;subst h0
 have:(sds ns i.toNat).getD (i.toNat-1) 0=0:=by rw[List.getD,hv];rfl
 simp only[okB,this,decide_true,Bool.not_true,Bool.or_false]
 rw[Gj (by omega)];simp
theorem b9O(h:DC ns i=true)(h0:0≤i)(h1:¬i>0):1=if okB ns i=true then(1:Int) else 0:=by
 obtain rfl:i=0:=by omega
 simp [okB,h]
theorem b9P(h:DC ns i=true)(h0:i>0)(hv:(sds ns i.toNat)[(i-1).toNat]? =some v)(h1:v≠0):1=if okB ns i=true then(1:Int) else 0:=by
 have e:(i-1).toNat=i.toNat-1:=by omega
 rw[e] at hv
 have:(sds ns i.toNat).getD (i.toNat-1) 0≠0:=by rw[List.getD,hv];exact h1
 simp only[okB,h,this,decide_false,Bool.not_false,Bool.or_true,Qu,BN]
def Uj(x:List Nd×Int)(o:Int):LS:= {
 ι:=Int×Int,inv:=fun i=>eI x.1 o i.1 i.2,
 regs:=fun i=>[(0,nds x.1),(1,.int .i64 x.2),(5,An (sds x.1 o.toNat)),(6,.int .i64 o),(7,.int .i64 i.2),(8,.int .i64 i.1)],als:=[],meas:=fun i=>(Ab x.1 o).kids.length-i.1.toNat}
def Rt(x:List Nd×Int)(o:Int):LS:= {
 ι:=Unit,inv:=fun _=>True,
 regs:=fun i=>[(0,nds x.1),(1,.int .i64 x.2),(5,An (sds x.1 o.toNat)),(6,.int .i64 o),(7,.int .i64 (if okB x.1 o then 1 else 0))],als:=[],meas:=fun i=>0}
def lDs(x:List Nd×Int):LS:= {
 ι:=Int,inv:=fun i=>0≤i∧i≤x.2+1,
 regs:=fun i=>[(0,nds x.1),(1,.int .i64 x.2),(5,An (sds x.1 i.toNat)),(6,.int .i64 i)],als:=[],meas:=fun i=>(x.2+1-i).toNat,sub:=fun i=>[(9,Uj x i),(200008,Rt x i)]}
def Pi:Sig:=⟨List Nd×Int,fun x=>[nds x.1,.q x.2],fun x=>Ew x.1∧x.1.length≤2^30∧DW x.1 x.2=true,Unit,fun x y=>True,fun x y=>An (sds x.1 (x.2.toNat+1)),fun x y=>[.top,.top],false,[],[]⟩
def Uk(x:List Nd×Int)(i:Int)(x_1:Int):Prop:=∃(zs:Ad),An [x_1]=An zs∧(Ca BE∧(Bb ((sds x.1 (Int.toNat i)).length+zs.length) (8:Nat)∧inR .i64 (i+1)∧(eN (lDs x) i [nds x.1,.q x.2,An (sds x.1 (Int.toNat i)++zs),.q (i+1)])))
theorem b9Q:CtG G 80 Pi:=
 vFq [(96,0,GL)] [(27,⟨Int,BE⟩)] (fun x=>[(3,lDs x)]) Tryz.func80 ⟨b9D,trivial⟩ (fun x=>(∀(y:Unit),True→(∀(x:Int),True∧True)∧True∧True∧True)∧eA (lDs x) [nds x.1,.q x.2,An [],.q 0]∧∀(i:Int),0≤i∧i≤x.2+(1:Int)→Ae (decide (i≤x.2)) (Ae (decide (i<(nL x.1))) ((cA GL [nds x.1,.q i] fun x_1 y=>Ae (!DC x_1.1 x_1.2) (eA (Rt x i) [nds x.1,.q x.2,An (sds x.1 (Int.toNat i)),.q i,.q 0]) (Ae (decide (i>0)) (inR .i64 (i-1)∧(0≤i-1∧i-1<(↑((sds x.1 (Int.toNat i)).length):Int))∧Int.toNat (i-1)<(sds x.1 (Int.toNat i)).length∧∀(x_2:Int),(sds x.1 (Int.toNat i))[Int.toNat (i-1)]? =some x_2→Ae (x_2==(0:Int)) (eA (Rt x i) [nds x.1,.q x.2,An (sds x.1 (Int.toNat i)),.q i,.q 0]) (eA (Rt x i) [nds x.1,.q x.2,An (sds x.1 (Int.toNat i)),.q i,.q 1])) (eA (Rt x i) [nds x.1,.q x.2,An (sds x.1 (Int.toNat i)),.q i,.q 1])))∧∀(i_1:Unit),True→eA (Uj x i) [nds x.1,.q x.2,An (sds x.1 (Int.toNat i)),.q i,.q (if okB x.1 i=true then(1:Int) else(0:Int)),.q 0]∧∀(i_2:Int×Int),eI x.1 i i_2.1 i_2.2→Ae (decide (i_2.2>(0:Int))) ((0≤i∧i<(nL x.1))∧∀(e:Nd),x.1[Int.toNat i]? =some e→Ae (decide (i_2.1<(nL e.kids))) ((0≤i∧i<(nL x.1))∧∀(e:Nd),x.1[Int.toNat i]? =some e→(0≤i_2.1∧i_2.1<(nL e.kids))∧∀(e_1:Int),e.kids[Int.toNat i_2.1]? =some e_1→(0≤e_1∧e_1<(↑((sds x.1 (Int.toNat i)).length):Int))∧Int.toNat e_1<(sds x.1 (Int.toNat i)).length∧∀(x_1:Int),(sds x.1 (Int.toNat i))[Int.toNat e_1]? =some x_1→inR .i64 (x_1+(1:Int))∧Ae (decide (x_1+1>i_2.2)) ((0≤i∧i<(nL x.1))∧∀(e:Nd),x.1[Int.toNat i]? =some e→(0≤i_2.1∧i_2.1<(nL e.kids))∧∀(e_2:Int),e.kids[Int.toNat i_2.1]? =some e_2→(0≤e_2∧e_2<(↑((sds x.1 (Int.toNat i)).length):Int))∧Int.toNat e_2<(sds x.1 (Int.toNat i)).length∧∀(x_2:Int),(sds x.1 (Int.toNat i))[Int.toNat e_2]? =some x_2→inR .i64 (x_2+(1:Int))∧inR .i64 (i_2.1+(1:Int))∧eN (Uj x i) i_2 [nds x.1,.q x.2,An (sds x.1 (Int.toNat i)),.q i,.q (x_2+(1:Int)),.q (i_2.1+(1:Int))]) (inR .i64 (i_2.1+(1:Int))∧eN (Uj x i) i_2 [nds x.1,.q x.2,An (sds x.1 (Int.toNat i)),.q i,.q i_2.2,.q (i_2.1+(1:Int))])) (Ae (decide (i_2.2>(14:Int))) (∃(x_1:Int),0=x_1∧(Uk x i x_1)) (∃(x_1:Int),i_2.2=x_1∧(Uk x i x_1)))) (Ae (decide (i_2.2>(14:Int))) (∃(x_1:Int),0=x_1∧(Uk x i x_1)) (∃(x_1:Int),i_2.2=x_1∧(Uk x i x_1)))) (rA Pi x [An (sds x.1 (Int.toNat i)),.top,.top])) (rA Pi x [An (sds x.1 (Int.toNat i)),.top,.top])) (by kernel_rfl) fun(x:List Nd×Int) (hx:Ew x.1∧x.1.length≤2^30∧DW x.1 x.2=true)=>(by
 dsimp only[nL,Uk,cA,eA,eN,lDs,Uj,Rt,Ce,nds,An,rA,Pi,GL,AB,AF,mvL,lnL,mvE,lnE,Bn,AV.q]
 obtain⟨h1,h2,h3⟩:=hx;have hl:=h1.1;have hn:=BF.1 h3
 (repeat' first|(with_reducible first|rfl|exact⟨⟩|apply AG|apply AM)|apply AL|(apply AK<;>try dsimp only)|apply AJ|((try refine AH.2 ?_);intro _;try dsimp only))
 all_goals first
  |rfl
  |omega
  |exact b9M ‹_›
  |exact b9N ‹_› ‹_› ‹_›
  |exact b9O ‹_› (by omega) ‹_›
  |exact b9P ‹_› ‹_› ‹_› ‹_›
  |exact b9F
  |(rw[Ku];omega)
  |skip
 all_goals try(repeat(rename x.1[Int.toNat _]? =some _=>hq;revert hq;rename x.1[Int.toNat _]? =some _=>hr;intro hq;rw[hr] at hq;cases hq))
 all_goals try(repeat(rename(Nd.kids _)[Int.toNat _]? =some _=>hq;revert hq;rename(Nd.kids _)[Int.toNat _]? =some _=>hr;intro hq;rw[hr] at hq;cases hq))
 all_goals try(rename(sds x.1 _)[Int.toNat _]? =some _=>hq;revert hq;rename(sds x.1 _)[Int.toNat _]? =some _=>hr2;intro hq;have hqq:=hr2.symm.trans hq;simp only[AS] at hqq;subst hqq)
 all_goals try(have hke:=b9G ‹_› ‹_› ‹_› ‹_›)
 all_goals try(have hle:=b9H ‹_› ‹_› ‹_›)
 all_goals try(have hve:=b9J ‹_›)
 all_goals try(have hse:= ‹eI _ _ _ _›.2.1)
 all_goals first
  |omega
  |(rw[Ku];omega)
  |((try simp only[Aw]);omega)
  |exact b9I ‹_› ‹_› ‹_› ‹_› ‹_› (by omega)
  |(rw[←b9K (by omega) ‹_› ‹_› ‹_› ‹_›];simp [*];done)
  |exact b9L (by omega) ‹_› ‹_›
  |(rw[BR ‹_›];omega)
  |(congr 1;omega)
  |(simp only[Bb,Ku,AE,AX];omega)
  |skip)
def IL:Sig:=⟨List Nd×Int,fun x=>[nds x.1,.q x.2],fun x=>Ew x.1∧x.1.length≤2^30,Unit,fun x y=>True,fun x y=> .q (DD x.1 x.2),fun x y=>[.top,.top],false,[],[]⟩
theorem a2k:CtG G 55 IL:=
 vFq [(20,0,BZ),(80,0,Pi)] [] (fun x=>[]) Tryz.func55 ⟨JK,b9Q,trivial⟩ (fun x=>U4∧inR .i64 ((nL x.1)-(1:Int))∧cA BZ [.q x.2,.q 0,.q ((nL x.1)-(1:Int))] fun x_1 y=>Ae (!inn x_1.1 x_1.2.1 x_1.2.2) (rA IL x [.q 0,.top,.top]) (cA Pi [nds x.1,.q x.2] fun x_2 y=>(0≤x.2∧x.2<(↑((sds x_2.1 (Int.toNat x_2.2+(1:Nat))).length):Int))∧Int.toNat x.2<(sds x_2.1 (Int.toNat x_2.2+(1:Nat))).length∧∀(x_3:Int),(sds x_2.1 (Int.toNat x_2.2+(1:Nat)))[Int.toNat x.2]? =some x_3→rA IL x [.q x_3,.top,.top])) (by kernel_rfl) fun(x:List Nd×Int) (hx:Ew x.1∧x.1.length≤2^30)=>(by
 dsimp only[nL,U4,cA,Ce,nds,An,rA,BZ,Pi,IL,AB,AF,mvL,lnL,mvE,lnE,AV.q]
 obtain⟨h1,h2⟩:=hx;have hl:=h1.1
 (repeat' first|(with_reducible first|rfl|exact⟨⟩|apply AG|apply AM)|apply AL|(apply AK<;>try dsimp only)|apply AJ|((try refine AH.2 ?_);intro _;try dsimp only))
 all_goals first
  |exact h1
  |exact h2
  |((try simp only[Aw]);omega)
  |(rw[Mm] at*;exact b8W ‹_›)
  |(have hh:= ‹inn x.2 0 (x.1.length-1)=true›;rw[Mm] at hh;have:=BF.1 hh;first|exact hh|omega|exact b9E hh ‹_› |(rw[Ku];omega))
  |skip)
theorem a9a(hv:(cnt ns.length (Dn ns))[i.toNat]? =some v)(h0:0≤i):((Dn ns).count i:Int)=v:=by
 have h:i.toNat<ns.length:=by have:=(Ec hv).1;rwa [ND] at this
 rw[Rr h] at hv
 have e2:((i.toNat:Nat):Int)=i:=by omega
 rw[e2] at hv;exact LU hv
theorem b9R(h:tE ns i)(hl:i+1<(ns.length:Int))(hv:(cnt ns.length (Dn ns))[i.toNat]? =some v)(h1:v=1):tE ns (i+1):=by
 have:=a9a hv h.1
 refine⟨by have:=h.1;omega,by omega,fun c hc=> ?_⟩
 by_cases e:(c:Int)<i
 ·exact h.2.2 c e
 ·have:=h.1
  obtain rfl:i=(c:Int):=by omega
  omega
theorem a2l(h:tI ns)(hy:ns[i.toNat]? =some y)(hc:y.kids[j.toNat]? =some c):0≤c∧c<ns.length:=(WQ h hy).2 c (Bq hc)
theorem b9S(h:tI ns)(hy:ns[i.toNat]? =some y):y.kids.length≤12:=(WQ h hy).1
theorem b9T(h0:0≤j)(hy:ns[i.toNat]? =some y)(hc:y.kids[j.toNat]? =some c):tk ns i (j+1)=tk ns i j++[c]:=b9e h0 (by rw[BR hy];exact hc)
theorem b9U(h0:0≤i)(hy:ns[i.toNat]? =some y)(hl:¬j<y.kids.length):tk ns i j=Dn (ns.take (i+1).toNat):=b9f h0 hy (by rw[BR hy];exact hl)
def WY(x:List Nd)(o:Int):LS:= {
 ι:=Int,inv:=fun j=>0≤j∧j≤(Ab x o).kids.length,
 regs:=fun j=>[(0,nds x),(3,.int .i64 x.length),(4,An (cnt x.length (tk x o j))),(5,.int .i64 o),(6,.int .i64 j)],als:=[],meas:=fun j=>(Ab x o).kids.length-j.toNat}
def WZ(x:List Nd):LS:= {
 ι:=Int,inv:=fun i=>0≤i∧i≤x.length,
 regs:=fun i=>[(0,nds x),(3,.int .i64 x.length),(4,An (cnt x.length (Dn (x.take i.toNat)))),(5,.int .i64 i)],als:=[],meas:=fun i=>x.length-i.toNat,
 sub:=fun i=>[(9,WY x i)]}
def Xa(x:List Nd):LS:= {
 ι:=Int,inv:=tE x,
 regs:=fun i=>[(3,.int .i64 x.length),(4,An (cnt x.length (Dn x))),(7,.int .i64 i)],als:=[],meas:=fun i=>x.length-i.toNat}
def IM:Sig:=⟨List Nd,fun x=>[nds x],fun x=>Ew x∧x.length≤2^30,Unit,fun x y=>True,fun x y=> .bool (CT x),fun x y=>[.top],false,[],[]⟩
theorem a9b:CtG G 36 IM:=
 vFq [(20,0,BZ),(55,0,IL)] [(27,⟨Int,BE⟩)] (fun x=>[(6,WZ x),(13,Xa x)]) Tryz.func36 ⟨JK,a2k,trivial⟩ (fun(x:List Nd)=>U3∧cA BZ [.q (nL x),.q 1,.q 300] fun x_1 y=>Ae (!inn x_1.1 x_1.2.1 x_1.2.2) (rA IM x [.bool false,.top]) (inR .i64 ((nL x)-(1:Int))∧(0≤(nL x)-(1:Int)∧(nL x)-1<(nL x))∧∀(e:Nd),x[Int.toNat ((nL x)-(1:Int))]? =some e→Ae (e.kind != 22) (rA IM x [.bool false,.top]) (inR .i64 ((nL x)-(1:Int))∧cA IL [nds x,.q ((nL x)-(1:Int))] fun x_2 y=>Ae (DD x_2.1 x_2.2==(0:Int)) (rA IM x [.bool false,.top]) ((0≤(nL x)∧(nL x)≤(nL x)∧(↑(8:Nat):Int)*(nL x)≤(2:Int)^(46:Nat)∧(nL x)≤(2:Int)^(46:Nat))∧∃(x_3:Int),0=x_3∧eA (WZ x) [nds x,.q (nL x),An (List.replicate (Int.toNat (nL x)) x_3),.q 0]∧∀(i:Int),0≤i∧i≤(nL x)→Ae (decide (i<(nL x))) (eA (WY x i) [nds x,.q (nL x),An (cnt (x.length) (Dn (List.take (Int.toNat i) x))),.q i,.q 0]∧∀(i_1:Int),0≤i_1∧i_1≤(↑((Ab x i).kids.length):Int)→(0≤i∧i<(nL x))∧∀(e:Nd),x[Int.toNat i]? =some e→Ae (decide (i_1<(nL e.kids))) ((0≤i∧i<(nL x))∧∀(e:Nd),x[Int.toNat i]? =some e→(0≤i_1∧i_1<(nL e.kids))∧∀(e_1:Int),e.kids[Int.toNat i_1]? =some e_1→(0≤e_1∧e_1<(↑((cnt (List.length x) (tk x i i_1)).length):Int))∧Int.toNat e_1<(cnt (List.length x) (tk x i i_1)).length∧∀(x_4:Int),(cnt (x.length) (tk x i i_1))[Int.toNat e_1]? =some x_4→inR .i64 (x_4+(1:Int))∧(0≤e_1∧e_1<(↑((cnt (List.length x) (tk x i i_1)).length):Int))∧Int.toNat e_1<(cnt (List.length x) (tk x i i_1)).length∧∀(x_5:Int),(cnt (x.length) (tk x i i_1))[Int.toNat e_1]? =some x_5→∃(x':Int),((@List.nil AV)=[]∧(@List.nil AV)=[])∧x_4+1=x'∧inR .i64 (i_1+(1:Int))∧eN (WY x i) i_1 [nds x,.q (nL x),An (List.set (cnt (x.length) (tk x i i_1)) (Int.toNat e_1) x'),.q i,.q (i_1+(1:Int))]) (inR .i64 (i+1)∧eN (WZ x) i [nds x,.q (nL x),An (cnt (x.length) (tk x i i_1)),.q (i+1)])) (eA (Xa x) [.q (nL x),An (cnt (x.length) (Dn (List.take (Int.toNat i) x))),.q 0]∧∀(i:Int),tE x i→inR .i64 (i+1)∧Ae (decide (i+1<(nL x))) ((0≤i∧i<(↑((cnt (List.length x) (Dn x)).length):Int))∧Int.toNat i<(cnt (List.length x) (Dn x)).length∧∀(x_4:Int),(cnt (x.length) (Dn x))[Int.toNat i]? =some x_4→Ae (x_4 != (1:Int)) (rA IM x [.bool false,.top]) (inR .i64 (i+1)∧eN (Xa x) i [.q (nL x),An (cnt (x.length) (Dn x)),.q (i+1)])) (rA IM x [.bool true,.top])))))) (by kernel_rfl) fun(x:List Nd) (hx:Ew x∧x.length≤2^30)=>(by
 dsimp only[nL,U3,cA,eA,eN,WZ,WY,Xa,Ce,nds,An,rA,BZ,IL,IM,AB,AF,mvL,lnL,mvE,lnE,Bn,AV.q]
 obtain⟨h1,h2⟩:=hx;have hl:=h1.1
 (repeat' first|(with_reducible first|rfl|exact⟨⟩|apply AG|apply AM)|apply AL|(apply AK<;>try dsimp only)|apply AJ|((try refine AH.2 ?_);intro _;try dsimp only))
 all_goals try(have t1:=Cm.1 ‹inn x.length 1 300=true›)
 all_goals try(have t0:=b9l ‹_› ‹_› ‹_› ‹_›)
 all_goals try(repeat(rename x[Int.toNat _]? =some _=>hq;revert hq;rename x[Int.toNat _]? =some _=>hr;intro hq;rw[hr] at hq;cases hq))
 all_goals try(repeat(rename(Nd.kids _)[Int.toNat _]? =some _=>hq;revert hq;rename(Nd.kids _)[Int.toNat _]? =some _=>hr;intro hq;rw[hr] at hq;cases hq))
 all_goals try(simp only[BR ‹x[Int.toNat _]? =some _›] at*)
 all_goals first
  |rfl
  |exact a2g (b9m ‹_›)
  |exact a2g (b9n ‹_› ‹_›)
  |exact a2g (fun h=>h.2.2.2 ‹_›)
  |exact b8X
  |(rw[b9d];done)
  |(have:=a2l ‹_› ‹_› ‹(Nd.kids _)[Int.toNat _]? =some _›;(try rw[ND]);omega)
  |(rw[b9T (by omega) ‹_› ‹_›];exact b8Y (a2l ‹_› ‹_› ‹_›).1 (a2l ‹_› ‹_› ‹_›).2 ‹_›)
  |(rw[b9U (by omega) ‹_› ‹_›];done)
  |(rw[b9o ‹_›];done)
  |(have:=b9k ‹_› ‹_› ‹_›;omega)
  |exact b9g ‹_› ‹_› (by omega)
  |exact b9h (a9a ‹_› (‹tE _ _›.1)) (‹tE _ _›.1) (by omega) ‹_›
  |exact b9R ‹_› ‹_› ‹_› ‹_›
  |exact⟨by omega,by omega,fun c hc=>by omega⟩
  |((try simp only[Aw,Bb,List.length_replicate,ND] at*);omega)
  |(have:=b9S ‹_› ‹_›;(try simp only[Aw] at*);omega)
  |(have hte:= ‹tE x _›;have:=hte.1;have:=hte.2.1;(try rw[ND]);(try simp only[Aw] at*);omega)
  |skip)
end Go.My
end
section
namespace Go.My
open Go.Eng
variable {a b c i k n:Int}{l:Ad}{m t:Aa}{ns:List Nd}{x:Nd}
def BB(ns:List Nd)(k:Int):Prop:=DW ns k=true∧∀i:Nat,(i:Int)≤k→DC ns i=true
theorem Mn(h:DD ns k≠0):BB ns k:=⟨(Ua h).1,(Ua h).2.2⟩
theorem DE(h:BB ns k):DC ns k=true:=by
 have:=BF.1 h.1
 have h2:=h.2 k.toNat (by omega)
 rwa [show((k.toNat:Nat):Int)=k by omega] at h2
theorem CQ(h:BB ns k)(hc:c∈(Ab ns k).kids):BB ns c∧0≤c∧c<k:=by
 have h1:=(CU (DE h)).2.2.2.1 c hc
 have h2:=BF.1 h.1
 exact⟨⟨BF.2 (by omega),fun i hi=>h.2 i (by omega)⟩,h1⟩
def GM(ns:List Nd)(k:Int):Ad:=(Ab ns k).kids
def vis(ns:List Nd):Nat→Int→Ad
 |0,_=>[]
 |n+1,k=>k::(GM ns k).flatMap (vis ns n)
def WL(ns:List Nd):Nat→Ad→Ad
 |0,_=>[]
 |n+1,l=>l++WL ns n (l.flatMap (GM ns))
theorem b9V{ns:List Nd}:∀ {n:Nat} {l:Ad},(l.flatMap (vis ns n)).length=(WL ns n l).length
 |0,l=>by
  have:l.flatMap (vis ns 0)=[]:=by simp [vis]
  rw[this];rfl
 |n+1,l=>by
  rw[WL,Ba,←b9V (l:=l.flatMap (GM ns)),List.flatMap_assoc]
  have:∀l:Ad,(l.flatMap (vis ns (n+1))).length=l.length+(l.flatMap fun x=>(GM ns x).flatMap (vis ns n)).length:=by
   intro l
   induction l with
   |nil=>rfl
   |cons k l ih=>
    rw[GV,GV,Ba,Ba,ih,vis,AE,AE];omega
  rw[this]
theorem a9c{ns:List Nd}:∀ {n:Nat} {l:Ad},WL ns n (l.flatMap (GM ns))=(WL ns n l).flatMap (GM ns)
 |0,l=>rfl
 |n+1,l=>by rw[WL,WL,List.flatMap_append,a9c (l:=l.flatMap (GM ns))]
theorem b9W{n:Nat}:WL ns (n+1) l=l++(WL ns n l).flatMap (GM ns):=by rw[WL,a9c]
theorem Ul(f:Int→Nat):∀(n:Nat) (V:Ad),V.Nodup→(∀p∈V,0≤p∧p<n)→(V.map f).sum≤((List.range n).map fun i:Nat=>f i).sum
 |0,V,_,h=>by
  have:V=[]:=by
   cases V with
   |nil=>rfl
   |cons p V=>have:=h p (by simp);omega
  subst this;simp
 |n+1,V,hn,h=>by
  rw[List.range_succ,FJ,Qx]
  by_cases hm:(n:Int)∈V
  ·have hp:=List.perm_cons_erase hm
   have e:(V.map f).sum=f n+((V.erase n).map f).sum:=by
    have:=(hp.map f).sum_nat
    rw[this];simp
   have h2:=Ul f n (V.erase n) (hn.erase _) (fun p hp=>by
    have h3:=(List.Nodup.mem_erase_iff hn).1 hp
    have:=h p h3.2
    have h4:=h3.1
    omega)
   rw[e];simp;omega
  ·have h2:=Ul f n V hn (fun p hp=>by
    have:=h p hp
    have:p≠n:=fun e=>hm (e▸hp)
    omega)
   simp;omega
theorem b9X:ns=(List.range ns.length).map fun i:Nat=>Ab ns i:=by
 apply LP
 intro i
 by_cases h:i<ns.length
 ·have:ns[i]? =some ns[i]:=by simp
  rw[LR,List.getElem?_range h,this]
  simp only[Kj]
  congr 1
  exact(BR (c:=(i:Int)) (by simp)).symm
 ·rw[Gi (by omega),Gi (by simp;omega)]
theorem b9Y{j:Int}:(Dn ns).count j=((List.range ns.length).map fun i:Nat=>(GM ns i).count j).sum:=by
 have h:Dn ns=((List.range ns.length).map fun i:Nat=>Ab ns i).flatMap (·.kids):=by rw[←b9X];rfl
 rw[h,List.count_flatMap,List.map_map];rfl
theorem a9d:∀ {l:List Nat},(∀m∈l,m=0)→l.sum=0
 |[],_=>rfl
 |m::l,h=>by rw[Lg,h m (by simp),a9d fun n hn=>h n (by simp [hn])]
def a9e(ns:List Nd):Prop:=(∀i:Nat,i<ns.length→DC ns i=true)∧∀i:Nat,i<ns.length-1→(Dn ns).count (i:Int)=1
theorem a9f{ns:List Nd}(h:a9e ns)(h0:1≤ns.length):∀n:Nat,(WL ns n [(ns.length:Int)-1]).Nodup∧∀p∈WL ns n [(ns.length:Int)-1],0≤p∧p<ns.length
 |0=>⟨List.nodup_nil,fun p hp=>by cases hp⟩
 |n+1=>by
  obtain⟨ih1,ih2⟩:=a9f h h0 n
  rw[b9W]
  have hk:∀p∈WL ns n [(ns.length:Int)-1],∀c∈GM ns p,0≤c∧c<p:=by
   intro p hp c hc
   have h2:=ih2 p hp
   have h3:=h.1 p.toNat (by omega)
   have e:((p.toNat:Nat):Int)=p:=by omega
   rw[e] at h3
   exact(CU h3).2.2.2.1 c hc
  refine⟨?_,?_⟩
  ·rw[List.nodup_iff_count]
   intro j
   rw[List.count_append,List.count_flatMap]
   by_cases hj:j=(ns.length:Int)-1
   ·subst hj
    have:((WL ns n [(ns.length:Int)-1]).map (List.count ((ns.length:Int)-1)∘GM ns)).sum=0:=by
     refine a9d fun m hm=> ?_
     obtain⟨p,hp,rfl⟩:=Iu.1 hm
     simp only[Function.comp]
     rw[List.count_eq_zero]
     intro hc
     have:=hk p hp _ hc
     have:=ih2 p hp
     omega
    rw[this];simp
   ·have h1:List.count j [(ns.length:Int)-1]=0:=by
     rw[List.count_eq_zero];simpa using hj
    have h2:=Ul (fun p=>(GM ns p).count j) ns.length _ ih1 ih2
    rw[←b9Y] at h2
    have h3:(Dn ns).count j≤1:=by
     by_cases hr:0≤j∧j<ns.length
     ·have:=h.2 j.toNat (by omega)
      rw[show((j.toNat:Nat):Int)=j by omega] at this;omega
     ·have:(Dn ns).count j=0:=by
       rw[List.count_eq_zero]
       intro hm
       obtain⟨y,hy,hc⟩:=Th.1 hm
       obtain⟨i,hi⟩:=List.mem_iff_getElem?.1 hy
       have hlt:=(Ec hi).1
       have:=(CU (h.1 i hlt)).2.2.2.1 j
       rw[BR (c:=(i:Int)) (by simpa using hi)] at this
       have:=this hc
       omega
      omega
    rw[h1]
    have e:(List.count j∘GM ns)=fun p=>(GM ns p).count j:=rfl
    rw[e];omega
  ·intro p hp
   rcases FK.1 hp with hp|hp
   ·simp at hp;omega
   ·obtain⟨q,hq,hc⟩:=Th.1 hp
    have:=hk q hq p hc
    have:=ih2 q hq
    omega
theorem Um(h:CT ns=true):a9e ns∧1≤ns.length∧ns.length≤300∧BB ns ((ns.length:Int)-1):=by
 simp only[CT,AY,Bf,EV,GY,CC,List.mem_range] at h
 have hu:=Mn h.2.2.1
 refine⟨⟨fun i hi=>hu.2 i (by omega),fun i hi=> ?_⟩,h.1.1,h.1.2,hu⟩
 exact h.2.2.2 i hi
structure Sg where
 kind:Int
 text:Aa
 pos:Int
 blank:Bool
variable {f:Int→List Sg}{sg:List Sg}
def sgA:Sg→List AV:=fun s=>[.int .i64 s.kind,.str s.text,.int .i64 s.pos,.bool s.blank]
theorem CD(s:Sg):sgA s=[.int .i64 s.kind,.str s.text,.int .i64 s.pos,.bool s.blank]:=rfl
def sgs(l:List Sg):AV:= .sl false 0 4 Sg sgA l
def CL(l:List Sg):AV:= .sl true 0 4 Sg sgA l
def sg0(k:Int)(t:Aa):Sg:=⟨k,t,0,false⟩
def mkS(t:Aa):Sg:=sg0 4 t
def wdS(t:Aa):Sg:=sg0 1 t
def BH(f:Int→List Sg)(m:Aa):Ad→List Sg
 |[]=>[]
 |c::l=>f c++l.flatMap fun d=>mkS m::f d
def kd(x:Nd)(i:Nat):Int:=x.kids.getD i 0
def Bv(f:Int→List Sg)(x:Nd):List Sg:=
 if x.kind=1 then [wdS x.text]
 else if x.kind=2 then [sg0 2 x.text]
 else if x.kind=3 then [sg0 3 x.text]
 else if x.kind=4 then [mkS [91]]++BH f [44] x.kids++[mkS [93]]
 else if x.kind=5 then f (kd x 0)++[mkS [40]]++BH f [44] (x.kids.drop 1)++[mkS [41]]
 else if x.kind=6 then f (kd x 0)++[mkS [46]]++[wdS x.text]
 else if x.kind=7 then BH f x.text x.kids
 else if x.kind=8 then f (kd x 0)++[mkS [63]]++f (kd x 1)++[mkS [58]]++f (kd x 2)
 else if x.kind=9 then [mkS [40]]++BH f [44] (x.kids.take (x.kids.length-1))++[mkS [41],mkS [61,62]]++f (kd x (x.kids.length-1))
 else if x.kind=10 then BH f [46,46] x.kids
 else if x.kind=11 then [mkS [40]]++f (kd x 0)++[mkS [41]]
 else if x.kind=12 then [wdS [118,97,114]]++[wdS x.text]++(if 0<x.kids.length then [mkS [61]] else [])++x.kids.flatMap f++[mkS [59]]
 else if x.kind=13 then [wdS x.text]++(if 0<x.kids.length then [mkS [61]] else [])++x.kids.flatMap f++[mkS [59]]
 else if x.kind=14 then x.kids.flatMap f++[mkS [59]]
 else if x.kind=15 then [wdS [114,101,116,117,114,110]]++x.kids.flatMap f++[mkS [59]]
 else if x.kind=16 then [wdS [105,102]]++[mkS [40]]++f (kd x 0)++[mkS [41]]++f (kd x 1)++(if x.kids.length=3 then [wdS [101,108,115,101]]++f (kd x 2) else [])
 else if x.kind=17 then [wdS [119,104,105,108,101]]++[mkS [40]]++f (kd x 0)++[mkS [41]]++f (kd x 1)
 else if x.kind=18 then [mkS [123]]++x.kids.flatMap f++[mkS [125]]
 else if x.kind=19 then [sg0 5 x.text]
 else if x.kind=20 then [wdS x.text]++[mkS [40]]++BH f [44] (x.kids.take (x.kids.length-1))++[mkS [41]]++f (kd x (x.kids.length-1))
 else if x.kind=21 then [wdS [99,108,97,115,115]]++[wdS x.text]++[mkS [123]]++x.kids.flatMap f++[mkS [125]]
 else x.kids.flatMap f
def HF(ns:List Nd):Nat→Int→List Sg
 |0,_=>[]
 |n+1,k=>Bv (HF ns n) (Ab ns k)
theorem Dw{i:Nat}(h:x.kids[i]? =some c):kd x i=c:=by simp [kd,List.getD,h]
theorem GN(h:BB ns k):(1≤(Ab ns k).kind∧(Ab ns k).kind≤22)∧(Ci (Ab ns k).kind).1≤(Ab ns k).kids.length∧(Ab ns k).kids.length≤(Ci (Ab ns k).kind).2:=by
 have h1:=CU (DE h)
 have hk:=h1.2.2.2.2.2.1
 have hin:inn (Ab ns k).kind 1 22=true:=by
  cases hh:inn (Ab ns k).kind 1 22
  ·rw[a8N hh] at hk;cases hk
  ·rfl
 have h2:=Cm.1 hin
 have hb:=a8M (l:=(Ab ns k).kids.map (Ai ns)) h2.1 h2.2
 rw[hk] at hb
 have hl:decide (((Ab ns k).kids.map (Ai ns)).length≤12)=true:=Ht (by rw[Fv];exact h1.2.1)
 rw[hl] at hb
 simp only[Qu,AY,Fv] at hb
 exact⟨h2,Cm.1 hb.1⟩
def Ey(t:Aa):Nat→Int→Int→Option (List Sg)
 |0,_,_=>none
 |n+1,at_,br=>match t[at_.toNat]? with
  |none=>some []
  |some c=>if c.toNat=32 then Ey t n (at_+1) br
   else if c.toNat=10 then Ey t n (at_+1) (br+1)
   else if(AW (t.drop at_.toNat)).ok then(Ey t n (at_+(AW (t.drop at_.toNat)).size) 0).map (⟨(AW (t.drop at_.toNat)).kind,(AW (t.drop at_.toNat)).text,at_,decide (br>1)⟩:: ·)
   else none
def Cr(t:Aa):Option (List Sg):=if 3000<t.length then none else Ey t (t.length+1) 0 0
structure Ps where
 pos:Int
 deep:Int
 nodes:List Nd
variable {p:Int×Ps}{s:Ps}
abbrev PR:=Option (Int×Ps)
abbrev PL:=Option (Ad×Ps)
def Gv:Sg:=⟨0,[],0,false⟩
def sgO(sg:List Sg)(i:Int):Sg:=sg.getD i.toNat Gv
def isT(sg:List Sg)(s:Ps)(k:Int)(t:Aa):Bool:=decide ((sgO sg s.pos).kind=k)&&((sgO sg s.pos).text==t)
def isM(sg:List Sg)(s:Ps)(t:Aa):Bool:=isT sg s 4 t
def isW(sg:List Sg)(s:Ps)(t:Aa):Bool:=isT sg s 1 t
def DF(sg:List Sg)(i:Int):Bool:=decide ((sgO sg i).kind=1)&& !kw (sgO sg i).text
def adv(s:Ps):Ps:=⟨s.pos+1,s.deep,s.nodes⟩
def dp(s:Ps)(d:Int):Ps:=⟨s.pos,s.deep+d,s.nodes⟩
def BS(sg:List Sg)(t:Aa)(s:Ps):Option Ps:=if isM sg s t then some (adv s) else none
def Bd(x:Nd)(s:Ps):PR:=if 300≤s.nodes.length then none else some (s.nodes.length,⟨s.pos,s.deep,s.nodes++[x]⟩)
def Hg(r:PR):PR:=r.map fun p=>(p.1,adv p.2)
def Hh(sg:List Sg)(k:Int)(b:Bool)(s:Ps):PR:=Hg (Bd ⟨k,(sgO sg s.pos).text,[],b⟩ s)
def Cn(sg:List Sg)(s:Ps):PR:=if DF sg s.pos then Hh sg 1 false s else none
def HG(sg:List Sg)(s:Ps):Option (Aa×Ps):=if DF sg s.pos then some ((sgO sg s.pos).text,adv s) else none
def Bt(sg:List Sg)(m:Aa)(x:Nd)(s:Ps):PR:=if isM sg s m then Hg (Bd x s) else none
def BG(sg:List Sg)(one:Ps→PR)(m:Aa):Nat→Ad→Ps→PL
 |0,_,_=>none
 |n+1,ks,s=>if isM sg s m then some (ks,s) else(one s).bind fun p=>if isM sg p.2 [44] then BG sg one m n (ks++[p.1]) (adv p.2) else some (ks++[p.1],p.2)
def FB(sg:List Sg):Nat→Int→Int
 |0,i=>i
 |n+1,i=>if DF sg i then(if(sgO sg (i+1)).text=[44] then FB sg n (i+2) else i+1) else i
def NE(sg:List Sg)(s:Ps):Bool:=((sgO sg (FB sg (sg.length+1) (s.pos+1))).text==[41])&&((sgO sg (FB sg (sg.length+1) (s.pos+1)+1)).text==[61,62])
def Ck(l:Nat):List Aa:=match l with
 |0=>[[124,124]]
 |1=>[[38,38]]
 |2=>[[61,61]]
 |3=>[[60]]
 |4=>[[43],[45]]
 |_=>[[42]]
def GP(sg:List Sg)(l:Nat)(s:Ps):Aa:=((Ck l).find? fun m=>isM sg s m).getD []
def HH(sg:List Sg)(l:Nat)(one:Ps→PR):Nat→Aa→Ad→Ps→PR
 |0,_,_,_=>none
 |n+1,t,ks,s=>
  if t≠[]∧GP sg l s≠t then(Bd ⟨7,t,ks,false⟩ s).bind fun p=>HH sg l one n [] [p.1] p.2
  else if GP sg l s=[] then some (ks.headD 0,s)
  else(one (adv s)).bind fun p=>HH sg l one n (GP sg l s) (ks++[p.1]) p.2
def DL(sg:List Sg)(val:Ps→PR)(k:Int)(s:Ps):PR:=(BS sg [40] s).bind fun s=>(BG sg val [41] (sg.length+1) [k] s).bind fun p=>Bt sg [41] ⟨5,[],p.1,false⟩ p.2
def GQ(sg:List Sg)(val:Ps→PR):Nat→Int→Ps→PR
 |0,_,_=>none
 |n+1,k,s=>
  if isM sg s [40] then(DL sg val k s).bind fun p=>GQ sg val n p.1 p.2
  else if isM sg s [46] then(if DF sg (s.pos+1) then(Hg (Bd ⟨6,(sgO sg (s.pos+1)).text,[k],false⟩ (adv s))).bind fun p=>GQ sg val n p.1 p.2 else none)
  else some (k,s)
def GR(sg:List Sg)(val:Ps→PR):Nat→Ad→Ps→PL
 |0,_,_=>none
 |n+1,ks,s=>if isM sg s [46,46] then(Cn sg (adv s)).bind fun p=>(DL sg val p.1 p.2).bind fun q=>GR sg val n (ks++[q.1]) q.2 else some (ks,s)
inductive NT where
 |value|pick|chain (l:Nat)|fin|base
def pE(sg:List Sg):Nat→NT→Ps→PR
 |0,_,_=>none
 |n+1,.value,s=>(pE sg n .pick s).bind fun p=>if isM sg p.2 [46,46] then(GR sg (pE sg n .value) (sg.length+1) [p.1] p.2).bind fun q=>Bd ⟨10,[],q.1,false⟩ q.2 else some p
 |n+1,.pick,s=>if 20≤s.deep then none else(pE sg n (.chain 0) (dp s 1)).bind fun p=>
   if isM sg p.2 [63] then(pE sg n .pick (adv p.2)).bind fun a=>(BS sg [58] a.2).bind fun s1=>(pE sg n .pick s1).bind fun b=>(Bd ⟨8,[],[p.1,a.1,b.1],false⟩ b.2).map fun q=>(q.1,dp q.2 (-1))
   else some (p.1,dp p.2 (-1))
 |n+1,.chain l,s=>if l=6 then pE sg n .fin s else(pE sg n (.chain (l+1)) s).bind fun p=>HH sg l (pE sg n (.chain (l+1))) (2*sg.length+4) [] [p.1] p.2
 |n+1,.fin,s=>(pE sg n .base s).bind fun p=>GQ sg (pE sg n .value) (sg.length+1) p.1 p.2
 |n+1,.base,s=>
  if(sgO sg s.pos).kind=1 then Cn sg s
  else if(sgO sg s.pos).kind=2 then Hh sg 2 false s
  else if(sgO sg s.pos).kind=3 then Hh sg 3 false s
  else if isM sg s [91] then(BG sg (pE sg n .value) [93] (sg.length+1) [] (adv s)).bind fun p=>Bt sg [93] ⟨4,[],p.1,false⟩ p.2
  else if isM sg s [40]&&NE sg s then(BG sg (Cn sg) [41] (sg.length+1) [] (adv s)).bind fun p=>(BS sg [41] p.2).bind fun s1=>(BS sg [61,62] s1).bind fun s2=>(pE sg n .pick s2).bind fun q=>Bd ⟨9,[],p.1++[q.1],false⟩ q.2
  else if isM sg s [40] then(pE sg n .value (adv s)).bind fun p=>Bt sg [41] ⟨11,[],[p.1],false⟩ p.2
  else none
def peN:Nat:=40000
def CE(sg:List Sg):Ps→PR:=pE sg peN .value
def Eq(sg:List Sg)(b:Bool)(s:Ps):PR:=(HG sg s).bind fun p=>
 if isM sg p.2 [61] then(CE sg (adv p.2)).bind fun q=>Bt sg [59] ⟨12,p.1,[q.1],b⟩ q.2 else Bt sg [59] ⟨12,p.1,[],b⟩ p.2
def Ez(sg:List Sg)(s:Ps):PR:=(BS sg [40] s).bind fun s1=>(CE sg s1).bind fun p=>(BS sg [41] p.2).map fun s2=>(p.1,s2)
def Dp(sg:List Sg)(one:Bool→Ps→PR)(m:Aa):Nat→Ad→Ps→PL
 |0,_,_=>none
 |n+1,ks,s=>if isM sg s m then some (ks,s) else(one ((sgO sg s.pos).blank&&decide (0<ks.length)) s).bind fun p=>Dp sg one m n (ks++[p.1]) p.2
def Cf(sg:List Sg)(one:Bool→Ps→PR)(s:Ps):PR:=if 20≤s.deep then none else(BS sg [123] (dp s 1)).bind fun s1=>(Dp sg one [125] (sg.length+1) [] s1).bind fun p=>(Bt sg [125] ⟨18,[],p.1,false⟩ p.2).map fun q=>(q.1,dp q.2 (-1))
def stR(sg:List Sg):Nat→Bool→Ps→PR
 |0,_,_=>none
 |n+1,b,s=>
  if(sgO sg s.pos).kind=5 then Hh sg 19 b s
  else if isW sg s [118,97,114] then Eq sg b (adv s)
  else if isW sg s [114,101,116,117,114,110] then(if isM sg (adv s) [59] then Bt sg [59] ⟨15,[],[],b⟩ (adv s) else(CE sg (adv s)).bind fun p=>Bt sg [59] ⟨15,[],[p.1],b⟩ p.2)
  else if isW sg s [105,102] then(Ez sg (adv s)).bind fun p=>(Cf sg (stR sg n) p.2).bind fun q=>
   if isW sg q.2 [101,108,115,101] then(Cf sg (stR sg n) (adv q.2)).bind fun r=>Bd ⟨16,[],[p.1,q.1,r.1],b⟩ r.2 else Bd ⟨16,[],[p.1,q.1],b⟩ q.2
  else if isW sg s [119,104,105,108,101] then(Ez sg (adv s)).bind fun p=>(Cf sg (stR sg n) p.2).bind fun q=>Bd ⟨17,[],[p.1,q.1],b⟩ q.2
  else if DF sg s.pos&&isM sg (adv s) [61] then(CE sg (adv (adv s))).bind fun p=>Bt sg [59] ⟨13,(sgO sg s.pos).text,[p.1],b⟩ p.2
  else(CE sg s).bind fun p=>Bt sg [59] ⟨14,[],[p.1],b⟩ p.2
def stN:Nat:=30
def Hi(sg:List Sg):Ps→PR:=Cf sg (stR sg stN)
def HI(sg:List Sg)(b:Bool)(s:Ps):PR:=(HG sg s).bind fun p=>(BS sg [40] p.2).bind fun s1=>(BG sg (Cn sg) [41] (sg.length+1) [] s1).bind fun q=>(BS sg [41] q.2).bind fun s2=>(Hi sg s2).bind fun r=>Bd ⟨20,p.1,q.1++[r.1],b⟩ r.2
def Ed(sg:List Sg)(b:Bool)(s:Ps):PR:=
 if(sgO sg s.pos).kind=5 then Hh sg 19 b s else if isW sg s [118,97,114] then Eq sg b (adv s) else HI sg b s
def IP(sg:List Sg)(b:Bool)(s:Ps):PR:=(HG sg s).bind fun p=>(BS sg [123] p.2).bind fun s1=>(Dp sg (Ed sg) [125] (sg.length+1) [] s1).bind fun q=>Bt sg [125] ⟨21,p.1,q.1,b⟩ q.2
def Er(sg:List Sg)(b:Bool)(s:Ps):PR:=
 if(sgO sg s.pos).kind=5 then Hh sg 19 b s else if isW sg s [118,97,114] then Eq sg b (adv s) else if isW sg s [99,108,97,115,115] then IP sg b (adv s) else HI sg b s
def Mo(sg:List Sg):Nat→Ad→List (Int×Int)→Ps→Option ((Ad×List (Int×Int))×Ps)
 |0,_,_,_=>none
 |n+1,ks,ms,s=>if s.pos<sg.length then(Er sg ((sgO sg s.pos).blank&&decide (0<ks.length)) s).bind fun p=>Mo sg n (ks++[p.1]) (ms++[(s.pos,p.2.pos)]) p.2 else some ((ks,ms),s)
def ps0:Ps:=⟨0,0,[]⟩
def Mp(sg:List Sg):Option (List (Int×Int)×List Nd):=(Mo sg (sg.length+1) [] [] ps0).bind fun p=>(Bd ⟨22,[],p.1.1,false⟩ p.2).bind fun q=>if CT q.2.nodes then some (p.1.2,q.2.nodes) else none
def CX(t:Aa):Option (List Nd):=(Cr t).bind fun sg=>(Mp sg).map (·.2)
abbrev KT:=Int×Aa
variable {v w:List KT}
def kt(x:Sg):KT:=(x.kind,x.text)
def cmK:KT:=(4,[44])
def EA(x:KT):Bool:=x==(4,[41])||x==(4,[93])
def Pj:List KT→Bool
 |[]=>false
 |y::_=>EA y
def CR:List KT→List KT
 |[]=>[]
 |x::l=>if(x==cmK&&Pj l)=true then CR l else x::CR l
theorem Xb{x:KT}:CR [x]=[x]:=by simp [CR,Pj]
theorem a9g{x:KT}{l:List KT}(h:x≠cmK):CR (x::l)=x::CR l:=by
 rw[CR,if_neg (by simp [h])]
theorem Xc:∀ {u v:List KT},u.getLast? ≠some cmK→CR (u++v)=CR u++CR v
 |[],v,_=>rfl
 |[x],v,h=>by
  have hx:x≠cmK:=fun e=>h (by rw[e];rfl)
  rw[EW,Hr,a9g hx,Xb];rfl
 |x::y::u,v,h=>by
  have ih:=Xc (u:=y::u) (v:=v) (by rw[List.getLast?_cons_cons] at h;exact h)
  have e1:∀l,CR (x::y::l)=if(x==cmK&&EA y)=true then CR (y::l) else x::CR (y::l):=fun l=>by rw[CR];rfl
  rw[EW] at ih
  rw[EW,EW,e1,e1,ih]
  split<;>rfl
theorem b9Z(h:∀y l,v=y::l→EA y=false):CR (cmK::v)=cmK::CR v:=by
 rw[CR]
 cases v with
 |nil=>simp [Pj]
 |cons y l=>rw[Pj,h y l rfl];simp
theorem c0a{y:KT}(h:EA y=true):CR (cmK::y::v)=CR (y::v):=by
 rw[CR,Pj,h];simp
def nCC:List KT→Prop
 |[]=>True
 |x::l=>¬(x=cmK∧l.head? =some cmK)∧nCC l
theorem Xd:∀ {u v:List KT},nCC u→nCC v→u.getLast? ≠some cmK→nCC (u++v)
 |[],v,_,hv,_=>hv
 |[x],v,_,hv,h=>by
  refine⟨fun hx=>h (by rw[hx.1];rfl),hv⟩
 |x::y::u,v,hu,hv,h=>by
  have ih:=Xd (u:=y::u) (v:=v) hu.2 hv (by rw[List.getLast?_cons_cons] at h;exact h)
  exact⟨fun hx=>hu.1 ⟨hx.1,by simpa using hx.2⟩,ih⟩
def Fl(sg:List Sg)(a b:Int):List KT:=((sg.map kt).drop a.toNat).take (b-a).toNat
theorem Lo(h0:0≤a)(h1:a≤b)(h2:b≤c):Fl sg a b++Fl sg b c=Fl sg a c:=by
 unfold Fl
 rw[show(c-a).toNat=(b-a).toNat+(c-b).toNat by omega,List.take_add,Dv,show a.toNat+(b-a).toNat=b.toNat by omega]
theorem a2m:Fl sg a a=[]:=by simp [Fl]
def tkK(sg:List Sg)(i:Int):KT:=kt (sgO sg i)
theorem Un(h0:0≤a)(h:a<sg.length):Fl sg a (a+1)=[tkK sg a]:=by
 have hlt:a.toNat<sg.length:=by omega
 unfold Fl tkK sgO
 rw[show(a+1-a).toNat=1 by omega,Gh (by simpa using hlt)]
 simp [List.getD,DS hlt]
theorem Xe(h:(tkK sg a).1≠0)(h0:0≤a):a<sg.length:=by
 rcases Int.lt_or_le a sg.length with hh|hh
 ·exact hh
 ·exfalso;apply h
  unfold tkK kt sgO
  rw[List.getD,Gi (by omega)];rfl
theorem Rv(h0:0≤a)(h1:a<b)(h2:b≤sg.length):Fl sg a b=tkK sg a::Fl sg (a+1) b:=by
 rw[←Lo (b:=a+1) h0 (by omega) (by omega),Un h0 (by omega)];rfl
structure Sgm (sg:List Sg) (a b:Int) (w:List KT):Prop where
 h0:0≤a
 hab:a≤b
 hb:b≤sg.length
 hw:CR (Fl sg a b)=w
 hl:(Fl sg a b).getLast?≠some cmK
 hc:nCC (Fl sg a b)
theorem Sgm.nil(h0:0≤a)(h:a≤sg.length):Sgm sg a a []:=⟨h0,Em a,h,by rw[a2m];rfl,by rw[a2m];simp,by rw[a2m];trivial⟩
theorem Sgm.app(h:Sgm sg a b w)(g:Sgm sg b c v):Sgm sg a c (w++v):=by
 refine⟨h.h0,by have:=h.hab;have:=g.hab;omega,g.hb,?_,?_,by rw[←Lo h.h0 h.hab g.hab];exact Xd h.hc g.hc h.hl⟩
 ·rw[←Lo h.h0 h.hab g.hab,Xc h.hl,h.hw,g.hw]
 ·rw[←Lo h.h0 h.hab g.hab,List.getLast?_append]
  cases hh:(Fl sg b c).getLast? with
  |none=>simpa using h.hl
  |some x=>have:=g.hl;rw[hh] at this;simpa using this
theorem Sgm.tok{t:KT}(h0:0≤a)(ht:tkK sg a=t)(h1:t.1≠0)(h2:t≠cmK):Sgm sg a (a+1) [t]:=by
 have hl:=Xe (by rw[ht];exact h1) h0
 refine⟨h0,by omega,by omega,?_,?_,by rw[Un h0 hl,ht];exact⟨by simp,trivial⟩⟩
 ·rw[Un h0 hl,ht,Xb]
 ·rw[Un h0 hl,ht];simpa using h2
theorem Sgm.cons{t:KT}(h0:0≤a)(ht:tkK sg a=t)(h1:t.1≠0)(h2:t≠cmK)(g:Sgm sg (a+1) b v):Sgm sg a b (t::v):=(Sgm.tok h0 ht h1 h2).app g
theorem Sgm.snoc{t:KT}(h:Sgm sg a b w)(ht:tkK sg b=t)(h1:t.1≠0)(h2:t≠cmK):Sgm sg a (b+1) (w++[t]):=h.app (Sgm.tok (by have:=h.h0;have:=h.hab;omega) ht h1 h2)
theorem Sgm.comma(h:Sgm sg a b w)(ht:tkK sg b=cmK)(g:Sgm sg (b+1) c v)(hlt:b+1<c)(hn:EA (tkK sg (b+1))=false)(hn2:tkK sg (b+1)≠cmK):Sgm sg a c (w++cmK::v):=by
 have h0:=h.h0;have h1:=h.hab;have g1:=g.hab;have g2:=g.hb
 have e:Fl sg b c=cmK::Fl sg (b+1) c:=by rw[Rv (by omega) (by omega) g2,ht]
 refine⟨h0,by omega,g2,?_,?_,?_⟩
 ·rw[←Lo h0 h1 (by omega:b≤c),Xc h.hl,h.hw,e,b9Z ?_,g.hw]
  intro y l hy
  rw[Rv (by omega) hlt g2] at hy
  cases hy;exact hn
 ·rw[←Lo h0 h1 (by omega:b≤c),e,List.getLast?_append]
  have:(cmK::Fl sg (b+1) c).getLast?=(Fl sg (b+1) c).getLast?:=by
   rw[Rv (by omega) hlt g2,List.getLast?_cons_cons]
  rw[this]
  cases hh:(Fl sg (b+1) c).getLast? with
  |none=>rw[Rv (by omega) hlt g2] at hh;simp at hh
  |some x=>have:=g.hl;rw[hh] at this;simpa using this
 ·rw[←Lo h0 h1 (by omega:b≤c),e]
  refine Xd h.hc ⟨?_,g.hc⟩ h.hl
  rw[Rv (by omega) hlt g2]
  rintro⟨_,h2⟩
  exact hn2 (by simpa using h2)
theorem Sgm.spare{t:KT}(h:Sgm sg a b w)(ht:tkK sg b=cmK)(hc:tkK sg (b+1)=t)(hn:EA t=true):Sgm sg a (b+1+1) (w++[t]):=by
 have h0:=h.h0;have h1:=h.hab
 have ht1:t.1≠0∧t≠cmK:=by
  simp only[EA,CG,DB] at hn
  rcases hn with rfl|rfl<;>exact⟨by decide,by decide⟩
 have hl:=Xe (sg:=sg) (a:=b+1) (by rw[hc];exact ht1.1) (by omega)
 have e:Fl sg b (b+1+1)=[cmK,t]:=by rw[Rv (by omega) (by omega) (by omega),Un (by omega) hl,ht,hc]
 refine⟨h0,by omega,by omega,?_,?_,by rw[←Lo h0 h1 (by omega:b≤b+1+1),e];exact Xd h.hc ⟨by simpa using ht1.2,by simp,trivial⟩ h.hl⟩
 ·rw[←Lo h0 h1 (by omega:b≤b+1+1),Xc h.hl,h.hw,e,c0a hn,Xb]
 ·rw[←Lo h0 h1 (by omega:b≤b+1+1),e,List.getLast?_append]
  simpa using ht1.2
def flS(ns:List Nd):List (List Sg):=ns.foldl (fun fs x=>fs++[Bv (fun c=>fs.getD c.toNat []) x]) []
def flG(ns:List Nd)(c:Int):List Sg:=(flS ns).getD c.toNat []
theorem a9h(ns:List Nd)(x:Nd):flS (ns++[x])=flS ns++[Bv (flG ns) x]:=by
 unfold flS;rw[List.foldl_append];rfl
theorem a9i(ns:List Nd):(flS ns).length=ns.length:=by
 have:∀(l:List Nd) (o:List (List Sg)),(l.foldl (fun fs x=>fs++[Bv (fun c=>fs.getD c.toNat []) x]) o).length=o.length+l.length:=by
  intro l
  induction l with
  |nil=>intro o;simp
  |cons x l ih=>intro o;rw[List.foldl_cons,ih];simp;omega
 simpa [flS] using this ns []
theorem Xf:flG (ns++[x]) ns.length=Bv (flG ns) x:=by
 unfold flG
 rw[a9h,List.getD,show((ns.length:Nat):Int).toNat=(flS ns).length by rw[a9i];omega]
 rw[LQ (Bu _)];simp;rfl
theorem c0b(h:0≤c∧c<ns.length):flG (ns++[x]) c=flG ns c:=by
 unfold flG
 rw[a9h,List.getD,Le (by rw[a9i];omega)];rfl
def EB(ns ns':List Nd):Prop:=∃e,ns'=ns++e
theorem Rx:EB ns ns:=⟨[],by simp⟩
theorem Db{a b c:List Nd}(h:EB a b)(g:EB b c):EB a c:=by
 obtain⟨e,rfl⟩:=h;obtain⟨f,rfl⟩:=g;exact⟨e++f,by simp⟩
theorem c0c{a b:List Nd}(h:EB a b):a.length≤b.length:=by obtain⟨e,rfl⟩:=h;simp
theorem a9j:∀(e:List Nd) {ns:List Nd} {c:Int},0≤c∧c<ns.length→flG (ns++e) c=flG ns c
 |[],ns,c,h=>by simp
 |x::e,ns,c,h=>by
  have:=a9j e (ns:=ns++[x]) (c:=c) (by rw[Ba];simp;omega)
  rw[Bz] at this
  simp only[List.singleton_append] at this
  rw[this,c0b h]
theorem Pk{ns':List Nd}(h:EB ns ns')(hc:0≤c∧c<ns.length):flG ns' c=flG ns c:=by
 obtain⟨e,rfl⟩:=h;exact a9j e hc
def inN(ns:List Nd)(c:Int):Prop:=0≤c∧c<ns.length
theorem Uo{a b:List Nd}(h:EB a b)(hc:inN a c):inN b c:=by have:=c0c h;exact⟨hc.1,by have:=hc.2;omega⟩
theorem Xg{g:Int→List Sg}(h:∀c∈l,f c=g c):BH f m l=BH g m l:=by
 cases l with
 |nil=>rfl
 |cons c l=>
  rw[BH,BH,h c (by simp)]
  congr 1
  have:∀l:Ad,(∀c∈l,f c=g c)→(l.flatMap fun d=>mkS m::f d)=l.flatMap fun d=>mkS m::g d:=by
   intro l hl
   induction l with
   |nil=>rfl
   |cons d l ih=>rw[GV,GV,hl d (by simp),ih fun c hc=>hl c (by simp [hc])]
  exact this l fun d hd=>h d (by simp [hd])
theorem a9k(h:l≠[]):BH f m (l++[c])=BH f m l++mkS m::f c:=by
 cases l with
 |nil=>exact(h rfl).elim
 |cons d l=>simp [BH]
theorem NF:BH f m [c]=f c:=by simp [BH]
theorem c0d{c:Int}(h:l≠[]):BH f m (c::l)=f c++mkS m::BH f m l:=by
 cases l with
 |nil=>exact(h rfl).elim
 |cons d l=>simp [BH]
def txN(ns:List Nd)(k:Int):List KT:=(flG ns k).map kt
structure RV (sg:List Sg) (s:Ps) (p:Int×Ps):Prop where
 lt:s.pos<p.2.pos
 sm:Sgm sg s.pos p.2.pos (txN p.2.nodes p.1)
 hd:EA (tkK sg s.pos)=false∧tkK sg s.pos≠cmK
 ex:EB s.nodes p.2.nodes
 kn:inN p.2.nodes p.1
def OV(sg:List Sg)(one:Ps→PR):Prop:=∀s p,0≤s.pos→one s=some p→RV sg s p
theorem a9l(h:isT sg s k t=true):tkK sg s.pos=(k,t):=by
 simp only[isT,AY,Bf,DB] at h
 unfold tkK kt;rw[h.1,h.2]
theorem HY(h:isM sg s t=true):tkK sg s.pos=(4,t):=a9l h
theorem NG(h:isW sg s t=true):tkK sg s.pos=(1,t):=a9l h
theorem a2n(h:DF sg i=true):tkK sg i=(1,(sgO sg i).text):=by
 simp only[DF,AY,Bf] at h
 unfold tkK kt;rw[h.1]
theorem Lp{s':Ps}(h:BS sg t s=some s'):tkK sg s.pos=(4,t)∧s'=adv s:=by
 unfold BS at h;split at h
 ·exact⟨HY ‹_›,(LU h).symm⟩
 ·cases h
theorem JM(h:Bd x s=some p):p=((s.nodes.length:Int),⟨s.pos,s.deep,s.nodes++[x]⟩):=by
 unfold Bd at h;split at h
 ·cases h
 ·exact(LU h).symm
theorem a2o{r:PR}(h:Hg r=some p):∃q,r=some q∧p=(q.1,adv q.2):=by
 unfold Hg at h;rw[FM] at h
 obtain⟨q,h1,h2⟩:=h;exact⟨q,h1,h2.symm⟩
theorem Kv(h:Bt sg m x s=some p):tkK sg s.pos=(4,m)∧p=((s.nodes.length:Int),⟨s.pos+1,s.deep,s.nodes++[x]⟩):=by
 unfold Bt at h;split at h
 ·obtain⟨q,h1,h2⟩:=a2o h
  rw[JM h1] at h2
  exact⟨HY ‹_›,h2⟩
 ·cases h
theorem FC:txN (ns++[x]) ns.length=(Bv (flG ns) x).map kt:=by unfold txN;rw[Xf]
theorem Lq{ns':List Nd}(h:EB ns ns')(hc:inN ns c):txN ns' c=txN ns c:=by unfold txN;rw[Pk h hc]
theorem Fm:inN (ns++[x]) ns.length:=⟨by omega,by rw[Ba];simp;omega⟩
theorem Fo:EB ns (ns++[x]):=⟨[x],rfl⟩
theorem Ry{b:Bool}(kk:Int)(h0:0≤s.pos)(hk:(k=1∧kk=1)∨(k=2∧kk=2)∨(k=3∧kk=3)∨(k=19∧kk=5))(ht:(sgO sg s.pos).kind=kk)(h:Hh sg k b s=some p):RV sg s p:=by
 obtain⟨q,h1,rfl⟩:=a2o h
 rw[JM h1]
 have e:tkK sg s.pos=(kk,(sgO sg s.pos).text):=by unfold tkK kt;rw[ht]
 have hkk:kk=1∨kk=2∨kk=3∨kk=5:=by omega
 refine⟨by show s.pos<s.pos+1;omega,?_,?_,Fo,Fm⟩
 ·show Sgm sg s.pos (s.pos+1) (txN (s.nodes++[_]) s.nodes.length)
  rw[FC]
  have:(Bv (flG s.nodes) ⟨k,(sgO sg s.pos).text,[],b⟩).map kt=[(kk,(sgO sg s.pos).text)]:=by
   rcases hk with⟨rfl,rfl⟩|⟨rfl,rfl⟩|⟨rfl,rfl⟩|⟨rfl,rfl⟩<;>simp [Bv,wdS,sg0,kt]
  rw[this]
  exact Sgm.tok h0 e (by show kk≠0;omega) (by intro hc;have:=congrArg Prod.fst hc;simp only[cmK] at this;omega)
 ·rw[e];rcases hkk with rfl|rfl|rfl|rfl<;>simp [EA,cmK]
theorem Xh(sg:List Sg):OV sg (Cn sg):=fun s p h0 h=>by
 unfold Cn at h;split at h
 ·rename_i hn
  simp only[DF,AY,Bf] at hn
  exact Ry 1 h0 (.inl ⟨rfl,rfl⟩) hn.1 h
 ·cases h
def LK(sg:List Sg)(m:Aa)(s s':Ps)(l:Ad):Prop:=
 (l=[]→s'=s)∧EB s.nodes s'.nodes∧(∀c∈l,inN s'.nodes c)∧s.pos≤s'.pos∧Sgm sg s.pos (s'.pos+1) ((BH (flG s'.nodes) [44] l).map kt++[(4,m)])∧(l≠[]→EA (tkK sg s.pos)=false∧tkK sg s.pos≠cmK)
theorem Up{sg:List Sg}{one:Ps→PR}(ho:OV sg one){m:Aa}(hm:EA (4,m)=true):∀(n:Nat) (ks:Ad) (s:Ps) (ks':Ad) (s':Ps),0≤s.pos→BG sg one m n ks s=some (ks',s')→tkK sg s'.pos=(4,m)→∃l,ks'=ks++l∧LK sg m s s' l
 |0,ks,s,ks',s',_,h,_=>by cases h
 |n+1,ks,s,ks',s',h0,h,ht=>by
  have hm1:(4,m)≠cmK:=by
   intro e;rw[e] at hm;simp [EA,cmK] at hm
  unfold BG at h
  split at h
  ·rename_i hc
   simp only[AS,BM] at h
   obtain⟨rfl,rfl⟩:=h
   exact⟨[],by simp,fun _=>rfl,Rx,by simp,by omega,Sgm.tok h0 ht (by show(4:Int)≠0;decide) hm1,fun h=>(h rfl).elim⟩
  ·rename_i hc
   obtain⟨p,hp,h⟩:=BP.1 h
   have hr:=ho s p h0 hp
   split at h
   ·rename_i hcm
    have hcm:=HY hcm
    obtain⟨l,hl,k1,k2,k3,k4,k5,k6⟩:=Up ho hm n (ks++[p.1]) (adv p.2) ks' s' (by show 0≤p.2.pos+1;have:=hr.lt;omega) h ht
    have kp:inN s'.nodes p.1:=Uo k2 hr.kn
    have ep:txN p.2.nodes p.1=(flG s'.nodes p.1).map kt:=(Lq k2 hr.kn).symm
    have hsm:=hr.sm
    rw[ep] at hsm
    refine⟨p.1::l,by rw[hl];simp,by simp,Db hr.ex k2,?_,by have:=hr.lt;have:p.2.pos+1≤s'.pos:=k4;omega,?_,fun _=>hr.hd⟩
    ·intro c hc
     rcases EX.1 hc with rfl|hc
     ·exact kp
     ·exact k3 c hc
    ·by_cases hn:l=[]
     ·subst hn
      have e:=k1 rfl
      subst e
      rw[NF]
      exact hsm.spare hcm ht hm
     ·rw[c0d hn,FJ,Bz]
      exact hsm.comma hcm k5 (by show p.2.pos+1<s'.pos+1;have:p.2.pos+1≤s'.pos:=k4;omega) (k6 hn).1 (k6 hn).2
   ·simp only[AS,BM] at h
    obtain⟨rfl,rfl⟩:=h
    refine⟨[p.1],rfl,by simp,hr.ex,by simpa using hr.kn,by have:=hr.lt;omega,?_,fun _=>hr.hd⟩
    rw[NF]
    exact hr.sm.snoc ht (by show(4:Int)≠0;decide) hm1
structure CV (sg:List Sg) (a:Int) (s:Ps) (p:Int×Ps):Prop where
 le:s.pos≤p.2.pos
 sm:Sgm sg a p.2.pos (txN p.2.nodes p.1)
 ex:EB s.nodes p.2.nodes
 kn:inN p.2.nodes p.1
theorem a2p:EA (4,[41])=true:=by decide
theorem c0e:EA (4,[93])=true:=by decide
theorem a9m{val:Ps→PR}(ho:OV sg val)(hs:Sgm sg a s.pos (txN s.nodes k))(hk:inN s.nodes k)(h:DL sg val k s=some p):CV sg a s p:=by
 unfold DL at h
 obtain⟨s1,h1,h3⟩:=BP.1 h
 obtain⟨⟨ks,s2⟩,h2,h4⟩:=BP.1 h3
 obtain⟨t1,rfl⟩:=Lp h1
 obtain⟨t2,rfl⟩:=Kv h4
 have h0:0≤s.pos:=by have:=hs.h0;have:=hs.hab;omega
 obtain⟨l,rfl,k1,k2,k3,k4,k5,k6⟩:=Up ho a2p _ _ _ _ _ (by show 0≤s.pos+1;omega) h2 t2
 simp only[adv] at k2 k4 k5
 refine⟨by show s.pos≤s2.pos+1;omega,?_,Db k2 Fo,Fm⟩
 show Sgm sg a (s2.pos+1) (txN (s2.nodes++[_]) s2.nodes.length)
 rw[FC]
 have e:(Bv (flG s2.nodes) ⟨5,[],[k]++l,false⟩).map kt=txN s.nodes k++((4,[40])::((BH (flG s2.nodes) [44] l).map kt++[(4,[41])])):=by
  rw[←Lq k2 hk]
  simp [Bv,kd,txN,kt,mkS,sg0]
 rw[e]
 exact hs.app (Sgm.cons h0 t1 (by decide) (by decide) k5)
theorem a2q{sg:List Sg}{val:Ps→PR}(ho:OV sg val):∀(n:Nat) {k a:Int} {s:Ps} {p:Int×Ps},Sgm sg a s.pos (txN s.nodes k)→inN s.nodes k→GQ sg val n k s=some p→CV sg a s p
 |0,_,_,_,_,_,_,h=>by cases h
 |n+1,k,a,s,p,hs,hk,h=>by
  have h0:0≤s.pos:=by have:=hs.h0;have:=hs.hab;omega
  unfold GQ at h
  split at h
  ·obtain⟨q,h1,h⟩:=BP.1 h
   have c1:=a9m ho hs hk h1
   have c2:=a2q ho n c1.sm c1.kn h
   exact⟨by have:=c1.le;have:=c2.le;omega,c2.sm,Db c1.ex c2.ex,c2.kn⟩
  ·split at h
   ·rename_i hm
    split at h
    ·rename_i hn
     obtain⟨q,h1,h⟩:=BP.1 h
     obtain⟨r,h2,rfl⟩:=a2o h1
     rw[JM h2] at h
     have t1:=HY hm;have t2:=a2n hn
     have hs2:Sgm sg a (s.pos+1+1) (txN (s.nodes++[⟨6,(sgO sg (s.pos+1)).text,[k],false⟩]) s.nodes.length):=by
      rw[FC]
      have e:(Bv (flG s.nodes) ⟨6,(sgO sg (s.pos+1)).text,[k],false⟩).map kt=txN s.nodes k++[(4,[46])]++[(1,(sgO sg (s.pos+1)).text)]:=by
       simp [Bv,kd,txN,kt,mkS,wdS,sg0]
      rw[e]
      exact(hs.snoc t1 (by decide) (by decide)).snoc t2 (by show(1:Int)≠0;decide) (by simp [cmK])
     have h':GQ sg val n (s.nodes.length:Int) ⟨s.pos+1+1,s.deep,s.nodes++[⟨6,(sgO sg (s.pos+1)).text,[k],false⟩]⟩=some p:=h
     have c2:=a2q ho n (s:=⟨s.pos+1+1,s.deep,s.nodes++[⟨6,(sgO sg (s.pos+1)).text,[k],false⟩]⟩) hs2 Fm h'
     exact⟨by have:s.pos+1+1≤p.2.pos:=c2.le;omega,c2.sm,Db Fo c2.ex,c2.kn⟩
    ·cases h
   ·simp only[AS] at h
    subst h
    exact⟨Em _,hs,Rx,hk⟩
theorem a9n{sg:List Sg}{val:Ps→PR}(ho:OV sg val):∀(n:Nat) {ks:Ad} {a:Int} {s:Ps} {q:Ad×Ps},Sgm sg a s.pos ((BH (flG s.nodes) [46,46] ks).map kt)→ks≠[]→(∀c∈ks,inN s.nodes c)→GR sg val n ks s=some q→
 Sgm sg a q.2.pos ((BH (flG q.2.nodes) [46,46] q.1).map kt)∧s.pos≤q.2.pos∧EB s.nodes q.2.nodes
 |0,_,_,_,_,_,_,_,h=>by cases h
 |n+1,ks,a,s,q,hs,hn,hk,h=>by
  have h0:0≤s.pos:=by have:=hs.h0;have:=hs.hab;omega
  unfold GR at h
  split at h
  ·rename_i hm
   have t1:=HY hm
   obtain⟨p,h1,h⟩:=BP.1 h
   obtain⟨r,h2,h⟩:=BP.1 h
   have r1:=Xh sg (adv s) p (by show 0≤s.pos+1;omega) h1
   have c1:=a9m ho r1.sm r1.kn h2
   have hx:EB s.nodes r.2.nodes:=Db r1.ex c1.ex
   have hs2:Sgm sg a r.2.pos ((BH (flG r.2.nodes) [46,46] (ks++[r.1])).map kt):=by
    rw[a9k hn,Xg fun c hc=>Pk hx (hk c hc),FJ]
    exact hs.app (Sgm.cons h0 t1 (by decide) (by decide) c1.sm)
   have hz:=a9n ho n hs2 (by simp) (fun c hc=>by
    rcases FK.1 hc with hc|hc
    ·exact Uo hx (hk c hc)
    ·simp at hc;subst hc;exact c1.kn) h
   exact⟨hz.1,by have a1:s.pos+1<p.2.pos:=r1.lt;have a2:=c1.le;have a3:=hz.2.1;omega,Db hx hz.2.2⟩
  ·simp only[AS] at h
   subst h
   exact⟨hs,Em _,Rx⟩
theorem c0f{l:Nat}(h:GP sg l s≠[]):tkK sg s.pos=(4,GP sg l s)∧GP sg l s≠[44]:=by
 unfold GP at h ⊢
 cases hf:(Ck l).find? fun m=>isM sg s m with
 |none=>rw[hf] at h;exact(h rfl).elim
 |some m=>
  simp only[LT]
  refine⟨HY (List.find?_some hf),?_⟩
  have:=List.mem_of_find?_eq_some hf
  intro e;subst e
  unfold Ck at this
  split at this<;>simp at this
theorem a2r{sg:List Sg}{l:Nat}{one:Ps→PR}(ho:OV sg one):∀(n:Nat) {t:Aa} {ks:Ad} {a:Int} {s:Ps} {p:Int×Ps},Sgm sg a s.pos ((BH (flG s.nodes) t ks).map kt)→ks≠[]→(t=[]→∃k,ks=[k])→(∀c∈ks,inN s.nodes c)→HH sg l one n t ks s=some p→CV sg a s p
 |0,_,_,_,_,_,_,_,_,_,h=>by cases h
 |n+1,t,ks,a,s,p,hs,hn,ht,hk,h=>by
  have h0:0≤s.pos:=by have:=hs.h0;have:=hs.hab;omega
  unfold HH at h
  split at h
  ·obtain⟨q,h1,h⟩:=BP.1 h
   rw[JM h1] at h
   have hs2:Sgm sg a s.pos ((BH (flG (s.nodes++[⟨7,t,ks,false⟩])) [] [(s.nodes.length:Int)]).map kt):=by
    rw[NF,Xf]
    have:Bv (flG s.nodes) ⟨7,t,ks,false⟩=BH (flG s.nodes) t ks:=by simp [Bv]
    rw[this];exact hs
   have c:=a2r ho n (s:=⟨s.pos,s.deep,s.nodes++[⟨7,t,ks,false⟩]⟩) hs2 (by simp) (fun _=>⟨_,rfl⟩) (by simpa using Fm) h
   exact⟨c.le,c.sm,Db Fo c.ex,c.kn⟩
  ·rename_i h7
   split at h
   ·rename_i hc
    simp only[AS] at h
    subst h
    have ht0:t=[]:=by
     by_cases e:t=[]
     ·exact e
     ·exfalso;apply h7;exact⟨e,by rw[hc];exact Ne.symm e⟩
    obtain⟨k,rfl⟩:=ht ht0
    rw[NF] at hs
    exact⟨Em _,hs,Rx,hk k (by simp)⟩
   ·rename_i hc
    obtain⟨q,h1,h⟩:=BP.1 h
    obtain⟨t1,t2⟩:=c0f hc
    have r:=ho (adv s) q (by show 0≤s.pos+1;omega) h1
    have hx:EB s.nodes q.2.nodes:=r.ex
    have hs2:Sgm sg a q.2.pos ((BH (flG q.2.nodes) (GP sg l s) (ks++[q.1])).map kt):=by
     rw[a9k hn,Xg fun c hc=>Pk hx (hk c hc),FJ]
     have e:(BH (flG s.nodes) (GP sg l s) ks).map kt=(BH (flG s.nodes) t ks).map kt:=by
      by_cases e:t=[]
      ·obtain⟨k,rfl⟩:=ht e
       rw[NF,NF]
      ·have:GP sg l s=t:=by
        by_cases e2:GP sg l s=t
        ·exact e2
        ·exact(h7 ⟨e,e2⟩).elim
       rw[this]
     rw[e]
     exact hs.app (Sgm.cons h0 t1 (by show(4:Int)≠0;decide) (by intro e;have:=congrArg Prod.snd e;exact t2 this) r.sm)
    have c:=a2r ho n hs2 (by simp) (fun e=>(hc e).elim) (fun c hcm=>by
     rcases FK.1 hcm with hcm|hcm
     ·exact Uo hx (hk c hcm)
     ·simp at hcm;subst hcm;exact r.kn) h
    exact⟨by have a1:s.pos+1<q.2.pos:=r.lt;have:=c.le;omega,c.sm,Db hx c.ex,c.kn⟩
theorem CV.rv{s1:Ps}{q:Int×Ps}(r:RV sg s q)(c:CV sg s.pos q.2 p):RV sg s p:=⟨by have:=r.lt;have:=c.le;omega,c.sm,r.hd,Db r.ex c.ex,c.kn⟩
theorem c0g{d e:Int}(h:RV sg (dp s d) p):RV sg s (p.1,dp p.2 e):=⟨h.lt,h.sm,h.hd,h.ex,h.kn⟩
theorem a2s{k:Int}(h:isM sg s t=true)(h1:EA (4,t)=false∧((4,t):KT)≠cmK):EA (tkK sg s.pos)=false∧tkK sg s.pos≠cmK:=by rw[HY h];exact h1
theorem HZ(sg:List Sg):∀(n:Nat) (nt:NT),OV sg (pE sg n nt)
 |0,_=>fun s p _ h=>by cases h
 |n+1,.value=>fun s p h0 h=>by
  unfold pE at h
  obtain⟨q,h1,h⟩:=BP.1 h
  have r:=HZ sg n .pick s q h0 h1
  split at h
  ·obtain⟨⟨ks,s2⟩,h2,h3⟩:=BP.1 h
   have c:=a9n (HZ sg n .value) _ (ks:=[q.1]) (a:=s.pos) (s:=q.2) (by rw[NF];exact r.sm) (by simp) (by simpa using r.kn) h2
   rw[JM h3]
   refine⟨by have:=r.lt;have:=c.2.1;simp only at this ⊢;omega,?_,r.hd,Db r.ex (Db c.2.2 Fo),Fm⟩
   show Sgm sg s.pos s2.pos (txN (s2.nodes++[_]) s2.nodes.length)
   rw[FC]
   have:Bv (flG s2.nodes) ⟨10,[],ks,false⟩=BH (flG s2.nodes) [46,46] ks:=by simp [Bv]
   rw[this];exact c.1
  ·simp only[AS] at h;subst h;exact r
 |n+1,.pick=>fun s p h0 h=>by
  unfold pE at h
  split at h
  ·cases h
  obtain⟨q,h1,h⟩:=BP.1 h
  have r:=HZ sg n (.chain 0) (dp s 1) q h0 h1
  split at h
  ·rename_i hm
   obtain⟨a,h2,h⟩:=BP.1 h
   obtain⟨s1,h3,h⟩:=BP.1 h
   obtain⟨b,h4,h⟩:=BP.1 h
   rw[FM] at h
   obtain⟨u,h5,rfl⟩:=h
   obtain⟨t3,rfl⟩:=Lp h3
   rw[JM h5]
   have hq:0≤q.2.pos:=by have:=r.sm.h0;have:=r.sm.hab;omega
   have ra:=HZ sg n .pick (adv q.2) a (by show 0≤q.2.pos+1;omega) h2
   have ha:0≤a.2.pos:=by have:=ra.sm.h0;have:=ra.sm.hab;omega
   have rb:=HZ sg n .pick (adv a.2) b (by show 0≤a.2.pos+1;omega) h4
   have e1:EB q.2.nodes b.2.nodes:=Db ra.ex rb.ex
   have e2:EB a.2.nodes b.2.nodes:=rb.ex
   refine⟨?_,?_,r.hd,Db r.ex (Db e1 Fo),Fm⟩
   ·have l1:s.pos<q.2.pos:=r.lt;have l2:q.2.pos+1<a.2.pos:=ra.lt;have l3:a.2.pos+1<b.2.pos:=rb.lt
    show s.pos<b.2.pos;omega
   ·show Sgm sg s.pos b.2.pos (txN (b.2.nodes++[_]) b.2.nodes.length)
    rw[FC]
    have e:(Bv (flG b.2.nodes) ⟨8,[],[q.1,a.1,b.1],false⟩).map kt=txN q.2.nodes q.1++((4,[63])::(txN a.2.nodes a.1++((4,[58])::txN b.2.nodes b.1))):=by
     rw[←Lq e1 r.kn,←Lq e2 ra.kn]
     simp [Bv,kd,txN,kt,mkS,sg0]
    rw[e]
    exact r.sm.app (Sgm.cons hq (HY hm) (by decide) (by decide) (ra.sm.app (Sgm.cons ha t3 (by decide) (by decide) rb.sm)))
  ·simp only[AS] at h;subst h;exact c0g r
 |n+1,.chain l=>fun s p h0 h=>by
  unfold pE at h
  split at h
  ·exact HZ sg n .fin s p h0 h
  ·obtain⟨q,h1,h⟩:=BP.1 h
   have r:=HZ sg n (.chain (l+1)) s q h0 h1
   exact CV.rv (s1:=s) r (a2r (HZ sg n (.chain (l+1))) _ (by rw[NF];exact r.sm) (by simp) (fun _=>⟨_,rfl⟩) (by simpa using r.kn) h)
 |n+1,.fin=>fun s p h0 h=>by
  unfold pE at h
  obtain⟨q,h1,h⟩:=BP.1 h
  have r:=HZ sg n .base s q h0 h1
  exact CV.rv (s1:=s) r (a2q (HZ sg n .value) _ r.sm r.kn h)
 |n+1,.base=>fun s p h0 h=>by
  unfold pE at h
  split at h
  ·exact Xh sg s p h0 h
  split at h
  ·exact Ry 2 h0 (.inr (.inl ⟨rfl,rfl⟩)) ‹_› h
  split at h
  ·exact Ry 3 h0 (.inr (.inr (.inl ⟨rfl,rfl⟩))) ‹_› h
  split at h
  ·rename_i hm
   obtain⟨⟨ks,s2⟩,h2,h3⟩:=BP.1 h
   obtain⟨t2,rfl⟩:=Kv h3
   obtain⟨l,rfl,k1,k2,k3,k4,k5,k6⟩:=Up (HZ sg n .value) c0e _ _ _ _ _ (by show 0≤s.pos+1;omega) h2 t2
   simp only[adv] at k2 k4 k5
   refine⟨by show s.pos<s2.pos+1;omega,?_,a2s (k:=0) hm (by decide),Db k2 Fo,Fm⟩
   show Sgm sg s.pos (s2.pos+1) (txN (s2.nodes++[_]) s2.nodes.length)
   rw[FC]
   have e:(Bv (flG s2.nodes) ⟨4,[],ks,false⟩).map kt=(4,[91])::((BH (flG s2.nodes) [44] ks).map kt++[(4,[93])]):=by simp [Bv,kt,mkS,sg0]
   rw[e]
   exact Sgm.cons h0 (HY hm) (by decide) (by decide) k5
  split at h
  ·rename_i hm
   have hm:=(AY _ _▸hm:_∧_).1
   obtain⟨⟨ks,s2⟩,h2,h3⟩:=BP.1 h
   obtain⟨s3,h4,h5⟩:=BP.1 h3
   obtain⟨s4,h6,h7⟩:=BP.1 h5
   obtain⟨q,h8,h9⟩:=BP.1 h7
   obtain⟨t2,rfl⟩:=Lp h4
   obtain⟨t3,rfl⟩:=Lp h6
   rw[JM h9]
   simp only at t2
   obtain⟨l,rfl,k1,k2,k3,k4,k5,k6⟩:=Up (Xh sg) a2p _ _ _ _ _ (by show 0≤s.pos+1;omega) h2 t2
   simp only[adv] at k2 k4 k5 t3
   have hp2:0≤s2.pos:=by omega
   have r:=HZ sg n .pick (adv (adv s2)) q (by show 0≤s2.pos+1+1;omega) h8
   have hx:EB s2.nodes q.2.nodes:=r.ex
   refine⟨?_,?_,a2s (k:=0) hm (by decide),Db k2 (Db hx Fo),Fm⟩
   ·have l1:s2.pos+1+1<q.2.pos:=r.lt
    show s.pos<q.2.pos;omega
   ·show Sgm sg s.pos q.2.pos (txN (q.2.nodes++[_]) q.2.nodes.length)
    rw[FC]
    have e:(Bv (flG q.2.nodes) ⟨9,[],ks++[q.1],false⟩).map kt=(4,[40])::(((BH (flG s2.nodes) [44] ks).map kt++[(4,[41])])++((4,[61,62])::txN q.2.nodes q.1)):=by
     rw[←Xg (fun c hc=>Pk hx (k3 c hc))]
     unfold Bv
     simp [kd,txN,kt,mkS,sg0]
    rw[e]
    exact Sgm.cons h0 (HY hm) (by decide) (by decide) (k5.app (Sgm.cons (by omega) t3 (by decide) (by decide) r.sm))
  split at h
  ·rename_i hm
   obtain⟨q,h2,h3⟩:=BP.1 h
   obtain⟨t2,rfl⟩:=Kv h3
   have r:=HZ sg n .value (adv s) q (by show 0≤s.pos+1;omega) h2
   refine⟨?_,?_,a2s (k:=0) hm (by decide),Db r.ex Fo,Fm⟩
   ·have l1:s.pos+1<q.2.pos:=r.lt
    show s.pos<q.2.pos+1;omega
   ·show Sgm sg s.pos (q.2.pos+1) (txN (q.2.nodes++[_]) q.2.nodes.length)
    rw[FC]
    have e:(Bv (flG q.2.nodes) ⟨11,[],[q.1],false⟩).map kt=(4,[40])::(txN q.2.nodes q.1++[(4,[41])]):=by simp [Bv,kd,txN,kt,mkS,sg0]
    rw[e]
    exact Sgm.cons h0 (HY hm) (by decide) (by decide) (r.sm.snoc t2 (by decide) (by decide))
  ·cases h
structure RS (sg:List Sg) (s:Ps) (p:Int×Ps):Prop where
 lt:s.pos<p.2.pos
 sm:Sgm sg s.pos p.2.pos (txN p.2.nodes p.1)
 ex:EB s.nodes p.2.nodes
 kn:inN p.2.nodes p.1
def OS(sg:List Sg)(one:Ps→PR):Prop:=∀s p,0≤s.pos→one s=some p→RS sg s p
theorem RV.rs(h:RV sg s p):RS sg s p:=⟨h.lt,h.sm,h.ex,h.kn⟩
theorem Uq(sg:List Sg):OV sg (CE sg):=HZ sg peN .value
theorem a2t{q:Aa×Ps}(h:HG sg s=some q):tkK sg s.pos=(1,q.1)∧q.2=adv s:=by
 unfold HG at h;split at h
 ·simp only[AS] at h;subst h;exact⟨a2n ‹_›,rfl⟩
 ·cases h
theorem d1:(1:Int)≠0:=by decide
theorem d4:(4:Int)≠0:=by decide
theorem nc1:((1,t):KT)≠cmK:=by simp [cmK]
theorem a2u{b:Bool}(hs:Sgm sg a s.pos [(1,[118,97,114])])(h:Eq sg b s=some p):CV sg a s p:=by
 unfold Eq at h
 obtain⟨⟨nm,s1⟩,h1,h2⟩:=BP.1 h
 obtain⟨t1,e1⟩:=a2t h1
 simp only at e1;subst e1
 have h0:0≤s.pos:=by have:=hs.h0;have:=hs.hab;omega
 have hs1:=hs.snoc t1 d1 nc1
 simp only at h2
 split at h2
 ·rename_i hm
  obtain⟨q,h3,h4⟩:=BP.1 h2
  obtain⟨t4,rfl⟩:=Kv h4
  have r:=Uq sg (adv (adv s)) q (by show 0≤s.pos+1+1;omega) h3
  refine⟨?_,?_,Db r.ex Fo,Fm⟩
  ·have l1:s.pos+1+1<q.2.pos:=r.lt
   show s.pos≤q.2.pos+1;omega
  ·show Sgm sg a (q.2.pos+1) (txN (q.2.nodes++[_]) q.2.nodes.length)
   rw[FC]
   have e:(Bv (flG q.2.nodes) ⟨12,nm,[q.1],b⟩).map kt=([(1,[118,97,114])]++[(1,nm)])++((4,[61])::(txN q.2.nodes q.1++[(4,[59])])):=by simp [Bv,txN,kt,mkS,wdS,sg0]
   rw[e]
   exact hs1.app (Sgm.cons (by omega) (HY (s:=adv s) hm) (by decide) (by decide) (r.sm.snoc t4 (by decide) (by decide)))
 ·obtain⟨t4,rfl⟩:=Kv h2
  refine⟨by show s.pos≤s.pos+1+1;omega,?_,Fo,Fm⟩
  show Sgm sg a (s.pos+1+1) (txN (s.nodes++[_]) s.nodes.length)
  rw[FC]
  have e:(Bv (flG s.nodes) ⟨12,nm,[],b⟩).map kt=([(1,[118,97,114])]++[(1,nm)])++[(4,[59])]:=by simp [Bv,txN,kt,mkS,wdS,sg0]
  rw[e]
  exact hs1.snoc t4 (by decide) (by decide)
theorem a9o(h0:0≤s.pos)(h:Ez sg s=some p):Sgm sg s.pos p.2.pos ((4,[40])::(txN p.2.nodes p.1++[(4,[41])]))∧s.pos<p.2.pos∧EB s.nodes p.2.nodes∧inN p.2.nodes p.1:=by
 unfold Ez at h
 obtain⟨s1,h1,h2⟩:=BP.1 h
 obtain⟨q,h3,h4⟩:=BP.1 h2
 rw[FM] at h4
 obtain⟨s2,h5,rfl⟩:=h4
 obtain⟨t1,rfl⟩:=Lp h1
 obtain⟨t2,rfl⟩:=Lp h5
 have r:=Uq sg (adv s) q (by show 0≤s.pos+1;omega) h3
 refine⟨Sgm.cons h0 t1 (by decide) (by decide) (r.sm.snoc t2 (by decide) (by decide)),?_,r.ex,r.kn⟩
 have l1:s.pos+1<q.2.pos:=r.lt
 show s.pos<q.2.pos+1;omega
theorem a2v{sg:List Sg}{one:Bool→Ps→PR}(ho:∀b,OS sg (one b)){m:Aa}:∀(n:Nat) (ks:Ad) (s:Ps) (ks':Ad) (s':Ps),0≤s.pos→Dp sg one m n ks s=some (ks',s')→
 ∃l,ks'=ks++l∧EB s.nodes s'.nodes∧(∀c∈l,inN s'.nodes c)∧s.pos≤s'.pos∧Sgm sg s.pos s'.pos ((l.flatMap (flG s'.nodes)).map kt)
 |0,ks,s,ks',s',_,h=>by cases h
 |n+1,ks,s,ks',s',h0,h=>by
  unfold Dp at h
  split at h
  ·rename_i hm
   simp only[AS,BM] at h
   obtain⟨rfl,rfl⟩:=h
   have hl:=Xe (sg:=sg) (a:=s.pos) (by rw[HY hm];exact d4) h0
   exact⟨[],by simp,Rx,by simp,Em _,by simpa using Sgm.nil h0 (by omega)⟩
  ·obtain⟨p,h1,h2⟩:=BP.1 h
   have r:=ho _ s p h0 h1
   obtain⟨l,rfl,k2,k3,k4,k5⟩:=a2v ho n (ks++[p.1]) p.2 ks' s' (by have:=r.lt;omega) h2
   refine⟨p.1::l,by simp,Db r.ex k2,?_,by have:=r.lt;omega,?_⟩
   ·intro c hc
    rcases EX.1 hc with rfl|hc
    ·exact Uo k2 r.kn
    ·exact k3 c hc
   ·rw[GV,FJ]
    have e:(flG s'.nodes p.1).map kt=txN p.2.nodes p.1:=Lq k2 r.kn
    rw[e];exact r.sm.app k5
theorem a9p{one:Bool→Ps→PR}(ho:∀b,OS sg (one b)):OS sg (Cf sg one):=fun s p h0 h=>by
 unfold Cf at h
 split at h
 ·cases h
 obtain⟨s1,h1,h2⟩:=BP.1 h
 obtain⟨⟨ks,s2⟩,h3,h4⟩:=BP.1 h2
 rw[FM] at h4
 obtain⟨q,h5,rfl⟩:=h4
 obtain⟨t1,rfl⟩:=Lp h1
 obtain⟨t2,rfl⟩:=Kv h5
 obtain⟨l,e,k2,k3,k4,k5⟩:=a2v ho _ _ _ _ _ (by show 0≤s.pos+1;omega) h3
 simp only[Hr] at e;subst e
 simp only[adv,dp] at k2 k4 k5 t1
 refine⟨by show s.pos<s2.pos+1;omega,?_,Db k2 Fo,Fm⟩
 show Sgm sg s.pos (s2.pos+1) (txN (s2.nodes++[_]) s2.nodes.length)
 rw[FC]
 have e:(Bv (flG s2.nodes) ⟨18,[],ks,false⟩).map kt=(4,[123])::((ks.flatMap (flG s2.nodes)).map kt++[(4,[125])]):=by simp [Bv,kt,mkS,sg0]
 rw[e]
 exact Sgm.cons h0 t1 (by decide) (by decide) (k5.snoc t2 (by decide) (by decide))
theorem CV.rs{s1:Ps}(hl:s.pos<s1.pos)(he:s1.nodes=s.nodes)(c:CV sg s.pos s1 p):RS sg s p:=⟨by have:=c.le;omega,c.sm,by have:=c.ex;rwa [he] at this,c.kn⟩
theorem a9q(sg:List Sg):∀(n:Nat) (b:Bool),OS sg (stR sg n b)
 |0,_=>fun s p _ h=>by cases h
 |n+1,b=>fun s p h0 h=>by
  have hone:OS sg (Cf sg (stR sg n)):=a9p fun b=>a9q sg n b
  unfold stR at h
  split at h
  ·exact(Ry 5 h0 (.inr (.inr (.inr ⟨rfl,rfl⟩))) ‹_› h).rs
  split at h
  ·rename_i hw
   exact CV.rs (s1:=adv s) (by show s.pos<s.pos+1;omega) rfl (a2u (Sgm.tok h0 (NG hw) d1 nc1) h)
  split at h
  ·rename_i hw
   have hs:=Sgm.tok h0 (NG hw) d1 nc1
   split at h
   ·obtain⟨t2,rfl⟩:=Kv h
    refine⟨by show s.pos<s.pos+1+1;omega,?_,Fo,Fm⟩
    show Sgm sg s.pos (s.pos+1+1) (txN (s.nodes++[_]) s.nodes.length)
    rw[FC]
    have e:(Bv (flG s.nodes) ⟨15,[],[],b⟩).map kt=[(1,[114,101,116,117,114,110])]++[(4,[59])]:=by simp [Bv,kt,mkS,wdS,sg0]
    rw[e];exact hs.snoc t2 (by decide) (by decide)
   ·obtain⟨q,h2,h3⟩:=BP.1 h
    obtain⟨t2,rfl⟩:=Kv h3
    have r:=Uq sg (adv s) q (by show 0≤s.pos+1;omega) h2
    refine⟨?_,?_,Db r.ex Fo,Fm⟩
    ·have l1:s.pos+1<q.2.pos:=r.lt
     show s.pos<q.2.pos+1;omega
    ·show Sgm sg s.pos (q.2.pos+1) (txN (q.2.nodes++[_]) q.2.nodes.length)
     rw[FC]
     have e:(Bv (flG q.2.nodes) ⟨15,[],[q.1],b⟩).map kt=[(1,[114,101,116,117,114,110])]++(txN q.2.nodes q.1++[(4,[59])]):=by simp [Bv,txN,kt,mkS,wdS,sg0]
     rw[e];exact hs.app (r.sm.snoc t2 (by decide) (by decide))
  split at h
  ·rename_i hw
   have hs:=Sgm.tok h0 (NG hw) d1 nc1
   obtain⟨q,h2,h3⟩:=BP.1 h
   obtain⟨u,h4,h5⟩:=BP.1 h3
   obtain⟨c1,c2,c3,c4⟩:=a9o (by show 0≤s.pos+1;omega) h2
   have c2:s.pos+1<q.2.pos:=c2
   have r:=hone q.2 u (by omega) h4
   have l2:=r.lt
   have base:=(hs.app c1).app r.sm
   split at h5
   ·rename_i he
    obtain⟨v,h6,h7⟩:=BP.1 h5
    rw[JM h7]
    have rv:=hone (adv u.2) v (by show 0≤u.2.pos+1;omega) h6
    have e1:EB q.2.nodes v.2.nodes:=Db r.ex rv.ex
    have e2:EB u.2.nodes v.2.nodes:=rv.ex
    refine⟨?_,?_,Db c3 (Db e1 Fo),Fm⟩
    ·have l1:u.2.pos+1<v.2.pos:=rv.lt
     show s.pos<v.2.pos;omega
    ·show Sgm sg s.pos v.2.pos (txN (v.2.nodes++[_]) v.2.nodes.length)
     rw[FC]
     have e:(Bv (flG v.2.nodes) ⟨16,[],[q.1,u.1,v.1],b⟩).map kt=(([(1,[105,102])]++((4,[40])::(txN q.2.nodes q.1++[(4,[41])])))++txN u.2.nodes u.1)++((1,[101,108,115,101])::txN v.2.nodes v.1):=by
      rw[←Lq e1 c4,←Lq e2 r.kn]
      simp [Bv,kd,txN,kt,mkS,wdS,sg0]
     rw[e]
     exact base.app (Sgm.cons (by omega) (NG he) d1 nc1 rv.sm)
   ·rw[JM h5]
    refine⟨by show s.pos<u.2.pos;omega,?_,Db c3 (Db r.ex Fo),Fm⟩
    show Sgm sg s.pos u.2.pos (txN (u.2.nodes++[_]) u.2.nodes.length)
    rw[FC]
    have e:(Bv (flG u.2.nodes) ⟨16,[],[q.1,u.1],b⟩).map kt=([(1,[105,102])]++((4,[40])::(txN q.2.nodes q.1++[(4,[41])])))++txN u.2.nodes u.1:=by
     rw[←Lq r.ex c4]
     simp [Bv,kd,txN,kt,mkS,wdS,sg0]
    rw[e];exact base
  split at h
  ·rename_i hw
   have hs:=Sgm.tok h0 (NG hw) d1 nc1
   obtain⟨q,h2,h3⟩:=BP.1 h
   obtain⟨u,h4,h5⟩:=BP.1 h3
   obtain⟨c1,c2,c3,c4⟩:=a9o (by show 0≤s.pos+1;omega) h2
   have c2:s.pos+1<q.2.pos:=c2
   have r:=hone q.2 u (by omega) h4
   have l2:=r.lt
   have base:=(hs.app c1).app r.sm
   rw[JM h5]
   refine⟨by show s.pos<u.2.pos;omega,?_,Db c3 (Db r.ex Fo),Fm⟩
   show Sgm sg s.pos u.2.pos (txN (u.2.nodes++[_]) u.2.nodes.length)
   rw[FC]
   have e:(Bv (flG u.2.nodes) ⟨17,[],[q.1,u.1],b⟩).map kt=([(1,[119,104,105,108,101])]++((4,[40])::(txN q.2.nodes q.1++[(4,[41])])))++txN u.2.nodes u.1:=by
    rw[←Lq r.ex c4]
    simp [Bv,kd,txN,kt,mkS,wdS,sg0]
   rw[e];exact base
  split at h
  ·rename_i hn
   have hn:=(AY _ _▸hn:_∧_)
   obtain⟨q,h2,h3⟩:=BP.1 h
   obtain⟨t2,rfl⟩:=Kv h3
   have r:=Uq sg (adv (adv s)) q (by show 0≤s.pos+1+1;omega) h2
   refine⟨?_,?_,Db r.ex Fo,Fm⟩
   ·have l1:s.pos+1+1<q.2.pos:=r.lt
    show s.pos<q.2.pos+1;omega
   ·show Sgm sg s.pos (q.2.pos+1) (txN (q.2.nodes++[_]) q.2.nodes.length)
    rw[FC]
    have e:(Bv (flG q.2.nodes) ⟨13,(sgO sg s.pos).text,[q.1],b⟩).map kt=(1,(sgO sg s.pos).text)::((4,[61])::(txN q.2.nodes q.1++[(4,[59])])):=by simp [Bv,txN,kt,mkS,wdS,sg0]
    rw[e]
    exact Sgm.cons h0 (a2n hn.1) d1 nc1 (Sgm.cons (by omega) (HY (s:=adv s) hn.2) (by decide) (by decide) (r.sm.snoc t2 (by decide) (by decide)))
  ·obtain⟨q,h2,h3⟩:=BP.1 h
   obtain⟨t2,rfl⟩:=Kv h3
   have r:=Uq sg s q h0 h2
   refine⟨by have:=r.lt;show s.pos<q.2.pos+1;omega,?_,Db r.ex Fo,Fm⟩
   show Sgm sg s.pos (q.2.pos+1) (txN (q.2.nodes++[_]) q.2.nodes.length)
   rw[FC]
   have e:(Bv (flG q.2.nodes) ⟨14,[],[q.1],b⟩).map kt=txN q.2.nodes q.1++[(4,[59])]:=by simp [Bv,txN,kt,mkS,wdS,sg0]
   rw[e];exact r.sm.snoc t2 (by decide) (by decide)
theorem a9r(sg:List Sg)(b:Bool):OS sg (HI sg b):=fun s p h0 h=>by
 unfold HI at h
 obtain⟨⟨nm,s1⟩,h1,h2⟩:=BP.1 h
 obtain⟨s2,h3,h4⟩:=BP.1 h2
 obtain⟨⟨ks,s3⟩,h5,h6⟩:=BP.1 h4
 obtain⟨s4,h7,h8⟩:=BP.1 h6
 obtain⟨r,h9,h10⟩:=BP.1 h8
 obtain⟨t1,e1⟩:=a2t h1
 simp only at e1;subst e1
 obtain⟨t3,rfl⟩:=Lp h3
 obtain⟨t7,rfl⟩:=Lp h7
 rw[JM h10]
 simp only at t7
 obtain⟨l,e,k1,k2,k3,k4,k5,k6⟩:=Up (Xh sg) a2p _ _ _ _ _ (by show 0≤s.pos+1+1;omega) h5 t7
 simp only[Hr] at e;subst e
 simp only[adv] at k2 k4 k5 t3
 have rr:=a9p (fun b=>a9q sg stN b) (adv s3) r (by show 0≤s3.pos+1;omega) h9
 have hx:EB s3.nodes r.2.nodes:=rr.ex
 refine⟨?_,?_,Db k2 (Db hx Fo),Fm⟩
 ·have l1:s3.pos+1<r.2.pos:=rr.lt
  show s.pos<r.2.pos;omega
 ·show Sgm sg s.pos r.2.pos (txN (r.2.nodes++[_]) r.2.nodes.length)
  rw[FC]
  have e:(Bv (flG r.2.nodes) ⟨20,nm,ks++[r.1],b⟩).map kt=(1,nm)::((4,[40])::(((BH (flG s3.nodes) [44] ks).map kt++[(4,[41])])++txN r.2.nodes r.1)):=by
   rw[←Xg (fun c hc=>Pk hx (k3 c hc))]
   simp [Bv,kd,txN,kt,mkS,wdS,sg0]
  rw[e]
  exact Sgm.cons h0 t1 d1 nc1 (Sgm.cons (by omega) t3 (by decide) (by decide) (k5.app rr.sm))
theorem c0h(sg:List Sg)(b:Bool):OS sg (Ed sg b):=fun s p h0 h=>by
 unfold Ed at h
 split at h
 ·exact(Ry 5 h0 (.inr (.inr (.inr ⟨rfl,rfl⟩))) ‹_› h).rs
 split at h
 ·rename_i hw
  exact CV.rs (s1:=adv s) (by show s.pos<s.pos+1;omega) rfl (a2u (Sgm.tok h0 (NG hw) d1 nc1) h)
 ·exact a9r sg b s p h0 h
theorem c0i(sg:List Sg)(b:Bool):OS sg (Er sg b):=fun s p h0 h=>by
 unfold Er at h
 split at h
 ·exact(Ry 5 h0 (.inr (.inr (.inr ⟨rfl,rfl⟩))) ‹_› h).rs
 split at h
 ·rename_i hw
  exact CV.rs (s1:=adv s) (by show s.pos<s.pos+1;omega) rfl (a2u (Sgm.tok h0 (NG hw) d1 nc1) h)
 split at h
 ·rename_i hw
  have hs:=Sgm.tok h0 (NG hw) d1 nc1
  unfold IP at h
  obtain⟨⟨nm,s1⟩,h1,h2⟩:=BP.1 h
  obtain⟨s2,h3,h4⟩:=BP.1 h2
  obtain⟨⟨ks,s3⟩,h5,h6⟩:=BP.1 h4
  obtain⟨t1,e1⟩:=a2t h1
  simp only at e1;subst e1
  obtain⟨t3,rfl⟩:=Lp h3
  obtain⟨t6,rfl⟩:=Kv h6
  obtain⟨l,e,k2,k3,k4,k5⟩:=a2v (fun b=>c0h sg b) _ _ _ _ _ (by show 0≤s.pos+1+1+1;omega) h5
  simp only[Hr] at e;subst e
  simp only[adv] at k2 k4 k5 t3 t1
  refine⟨by show s.pos<s3.pos+1;omega,?_,Db k2 Fo,Fm⟩
  show Sgm sg s.pos (s3.pos+1) (txN (s3.nodes++[_]) s3.nodes.length)
  rw[FC]
  have e:(Bv (flG s3.nodes) ⟨21,nm,ks,b⟩).map kt=[(1,[99,108,97,115,115])]++((1,nm)::((4,[123])::((ks.flatMap (flG s3.nodes)).map kt++[(4,[125])]))):=by simp [Bv,kt,mkS,wdS,sg0]
  rw[e]
  exact hs.app (Sgm.cons (by omega) t1 d1 nc1 (Sgm.cons (by omega) t3 (by decide) (by decide) (k5.snoc t6 (by decide) (by decide))))
 ·exact a9r sg b s p h0 h
theorem a9s{sg:List Sg}:∀(n:Nat) (ks:Ad) (ms:List (Int×Int)) (s:Ps) (r:(Ad×List (Int×Int))×Ps),0≤s.pos→s.pos≤sg.length→Mo sg n ks ms s=some r→
 ∃l,r.1.1=ks++l∧EB s.nodes r.2.nodes∧(∀c∈l,inN r.2.nodes c)∧r.2.pos=sg.length∧Sgm sg s.pos r.2.pos ((l.flatMap (flG r.2.nodes)).map kt)
 |0,ks,ms,s,r,_,_,h=>by cases h
 |n+1,ks,ms,s,r,h0,hl,h=>by
  unfold Mo at h
  split at h
  ·obtain⟨p,h1,h2⟩:=BP.1 h
   have q:=c0i sg _ s p h0 h1
   obtain⟨l,e,k2,k3,k4,k5⟩:=a9s n (ks++[p.1]) _ p.2 r (by have:=q.lt;omega) q.sm.hb h2
   refine⟨p.1::l,by rw[e];simp,Db q.ex k2,?_,k4,?_⟩
   ·intro c hc
    rcases EX.1 hc with rfl|hc
    ·exact Uo k2 q.kn
    ·exact k3 c hc
   ·rw[GV,FJ]
    have e:(flG r.2.nodes p.1).map kt=txN p.2.nodes p.1:=Lq k2 q.kn
    rw[e];exact q.sm.app k5
  ·simp only[AS] at h
   subst h
   have:s.pos=sg.length:=by omega
   exact⟨[],by simp,Rx,by simp,this,by simpa using Sgm.nil h0 hl⟩
theorem a9t{ms:List (Int×Int)}{L:List Nd}(h:Mp sg=some (ms,L)):(CT L=true∧nCC (sg.map kt))∧CR (sg.map kt)=(flG L ((L.length:Int)-1)).map kt:=by
 unfold Mp at h
 obtain⟨r,h1,h2⟩:=BP.1 h
 obtain⟨q,h3,h4⟩:=BP.1 h2
 split at h4
 ·rename_i ht
  simp only[AS,BM] at h4
  obtain⟨rfl,rfl⟩:=h4
  rw[JM h3] at ht ⊢
  obtain⟨l,e,k2,k3,k4,k5⟩:=a9s _ _ _ _ _ (by decide) (by show(0:Int)≤_;omega) h1
  have es:Fl sg 0 (sg.length:Int)=sg.map kt:=by
   show((sg.map kt).drop 0).take ((sg.length:Int)-0).toNat=_
   rw[GU,EH (by simp)]
  have hcc:=k5.hc
  rw[k4] at hcc
  refine⟨⟨ht,by rw[←es];exact hcc⟩,?_⟩
  simp only at e ⊢
  have e1:((r.2.nodes++[(⟨22,[],r.1.1,false⟩:Nd)]).length:Int)-1=r.2.nodes.length:=by rw[Ba];simp
  rw[e1,Xf]
  have e2:(Bv (flG r.2.nodes) ⟨22,[],r.1.1,false⟩).map kt=(l.flatMap (flG r.2.nodes)).map kt:=by rw[e];simp [Bv,ps0]
  rw[e2,←k5.hw,k4]
  congr 1
  exact es.symm
 ·cases h4
structure Gs where
 pos:Int
 deep:Int
 bad:Bool
 nodes:List Nd
variable {g:Gs}
def Ee(x:Nd):Prop:=x.text.length≤3000∧x.kids.length≤4000
def sgB(sg:List Sg):Prop:=sg.length≤3000∧∀e∈sg,e.text.length≤3000
def gsOk(sg:List Sg)(g:Gs):Prop:=(0≤g.pos∧g.pos≤sg.length)∧(0≤g.deep∧g.deep≤21)∧g.nodes.length≤300∧∀x∈g.nodes,Ee x
def pur(g:Gs):Option Ps:=if g.bad then none else some ⟨g.pos,g.deep,g.nodes⟩
theorem Fp(h:g.bad=true):pur g=none:=by simp [pur,h]
theorem Ef(h:g.bad=false):pur g=some ⟨g.pos,g.deep,g.nodes⟩:=by simp [pur,h]
theorem a9u:pur g=none↔g.bad=true:=by
 cases h:g.bad<;>simp [pur,h]
theorem Gw:pur g=some s↔g.bad=false∧s=⟨g.pos,g.deep,g.nodes⟩:=by
 cases h:g.bad<;>simp [pur,h,eq_comm]
def a2w(sg:List Sg)(x:Gs)(f:Ps→Option Ps)(y:Gs):Prop:=gsOk sg y∧y.deep=x.deep∧x.pos≤y.pos∧pur y=(pur x).bind f
def BU{α:Type}(sg:List Sg)(x:Gs)(f:Ps→Option (α×Ps))(y:α×Gs):Prop:=
 gsOk sg y.2∧y.2.deep=x.deep∧x.pos≤y.2.pos∧pur y.2=((pur x).bind f).map (·.2)∧∀p,(pur x).bind f=some p→y.1=p.1
def Ag{α:Type}(sg:List Sg)(x:Gs)(f:Ps→Option (α×Ps))(y:α×Gs):Prop:=BU sg x f y∧(y.2.bad=false→x.pos<y.2.pos)
def pkG(sg:List Sg)(g:Gs)(n:Int):Sg:=if g.bad=true∨(sg.length:Int)≤g.pos+n then Gv else sgO sg (g.pos+n)
theorem c0j(h:(sg.length:Int)≤i):sgO sg i=Gv:=by
 unfold sgO;rw[List.getD_eq_getElem?_getD,Gi (by omega)];rfl
theorem Ia{e:Sg}(h:sg[i.toNat]? =some e):sgO sg i=e:=by simp [sgO,List.getD,h]
theorem Mq(h:g.bad=false):pkG sg g n=sgO sg (g.pos+n):=by
 unfold pkG
 split
 ·rename_i hh
  rcases hh with hh|hh
  ·rw[h] at hh;cases hh
  ·exact(c0j hh).symm
 ·rfl
theorem c0k(h:g.bad=true):pkG sg g n=Gv:=by unfold pkG;rw[if_pos (.inl h)]
def isG(sg:List Sg)(g:Gs)(k:Int)(t:Aa):Bool:=decide ((pkG sg g 0).kind=k)&&((pkG sg g 0).text==t)
def nmG(sg:List Sg)(g:Gs)(n:Int):Bool:=decide ((pkG sg g n).kind=1)&& !kw (pkG sg g n).text
theorem Xi(h:pur g=some s):isG sg g k t=isT sg s k t:=by
 obtain⟨h1,rfl⟩:=Gw.1 h
 simp [isG,isT,Mq h1]
theorem a9v(h:pur g=none)(hk:k≠0):isG sg g k t=false:=by
 simp [isG,c0k (a9u.1 h),Gv,Ne.symm hk]
theorem Pl(h:pur g=some s):nmG sg g n=DF sg (s.pos+n):=by
 obtain⟨h1,rfl⟩:=Gw.1 h
 simp [nmG,DF,Mq h1]
theorem Eg(h:isG sg g k t=true)(hk:k≠0):g.bad=false∧g.pos<sg.length:=by
 unfold isG pkG at h
 split at h
 ·simp [Gv,Ne.symm hk] at h
 ·rename_i hh
  simp only[Int.add_zero] at hh
  exact⟨by cases hb:g.bad<;>simp_all,by omega⟩
theorem Xj(h:nmG sg g n=true):g.bad=false∧g.pos+n<sg.length:=by
 unfold nmG pkG at h
 split at h
 ·simp [Gv] at h
 ·rename_i hh;exact⟨by cases hb:g.bad<;>simp_all,by omega⟩
def Au(g:Gs):Gs:=⟨g.pos+1,g.deep,g.bad,g.nodes⟩
def Bw(g:Gs):Gs:=⟨g.pos,g.deep,true,g.nodes⟩
def gDp(g:Gs)(d:Int):Gs:=⟨g.pos,g.deep+d,g.bad,g.nodes⟩
def AA(sg:List Sg)(g:Gs)(m:Aa):Gs:=if isG sg g 4 m then Au g else g
def Ax(sg:List Sg)(g:Gs)(m:Aa):Gs:=if isG sg g 4 m then Au g else Bw g
def Eh(g:Gs):Gs:=if g.bad then g else Au g
def EZ(g:Gs):Bool:=g.bad||decide (g.nodes.length=300)
def Av(g:Gs)(x:Nd):Gs:=if EZ g then Bw g else⟨g.pos,g.deep,g.bad,g.nodes++[x]⟩
def AQ(g:Gs):Int:=if EZ g then 0 else g.nodes.length
def Dq(sg:List Sg)(g:Gs)(m:Aa)(x:Nd):Gs:=if isG sg g 4 m then Eh (Av g x) else Bw g
def Dr(sg:List Sg)(g:Gs)(m:Aa):Int:=if isG sg g 4 m then AQ g else 0
def FT(sg:List Sg)(g:Gs)(k:Int)(b:Bool):Gs:=Eh (Av g ⟨k,(pkG sg g 0).text,[],b⟩)
def Fq(sg:List Sg)(g:Gs):Gs:=if nmG sg g 0 then FT sg g 1 false else Bw g
def FD(sg:List Sg)(g:Gs):Int:=if nmG sg g 0 then AQ g else 0
def Dx(sg:List Sg)(g:Gs):Gs:=if nmG sg g 0 then Au g else Bw g
def DX(sg:List Sg)(g:Gs):Aa:=if nmG sg g 0 then(pkG sg g 0).text else []
theorem Ib(h:gsOk sg g)(hl:g.pos<sg.length):gsOk sg (Au g):=by
 obtain⟨h1,h2⟩:=h
 exact⟨by simp only[Au];omega,h2⟩
theorem Pm(h:gsOk sg g):gsOk sg (Bw g):=h
theorem a2x:pur (Au g)=(pur g).map adv:=by
 cases h:g.bad<;>simp [pur,Au,h,adv]
theorem Mr:pur (Bw g)=none:=by simp [pur,Bw]
theorem a9w(h:gsOk sg g)(hk:k≠0)(hm:isG sg g k m=true):a2w sg g (fun s=>if isT sg s k m then some (adv s) else none) (Au g)∧(Au g).bad=false∧g.pos<(Au g).pos:=by
 obtain⟨h1,h2⟩:=Eg hm hk
 refine⟨⟨Ib h h2,rfl,by simp only[Au];omega,?_⟩,h1,by simp only[Au];omega⟩
 rw[a2x,Ef h1]
 have:isT sg ⟨g.pos,g.deep,g.nodes⟩ k m=true:=by rw[←Xi (Ef h1)];exact hm
 simp [this]
theorem Xk(hm:isG sg g k m=false)(hs:pur g=some s):isT sg s k m=false:=by rw[←Xi hs];exact hm
theorem a2y(hm:isG sg g k m=true)(hs:pur g=some s):isT sg s k m=true:=by rw[←Xi hs];exact hm
theorem Ur(h:gsOk sg g):a2w sg g (BS sg m) (Ax sg g m)∧((Ax sg g m).bad=false→g.pos<(Ax sg g m).pos):=by
 unfold Ax
 cases hm:isG sg g 4 m with
 |true=>
  obtain⟨h1,h2,h3⟩:=a9w h (by omega) hm
  simp only[BN]
  exact⟨h1,fun _=>h3⟩
 |false=>
  simp only[Bl,Br]
  refine⟨⟨Pm h,rfl,Em _,?_⟩,fun hb=>by simp [Bw] at hb⟩
  rw[Mr]
  cases hs:pur g with
  |none=>rfl
  |some s=>
   simp only[De,BS,isM,Xk hm hs];rfl
theorem Xl(h:EZ g=false):g.bad=false∧g.nodes.length≠300:=by
 simpa [EZ] using h
theorem Us(h:gsOk sg g)(hx:Ee x):gsOk sg (Av g x):=by
 unfold Av
 cases hf:EZ g with
 |true=>exact Pm h
 |false=>
  obtain⟨h1,h2⟩:=Xl hf
  obtain⟨a,b,c,d⟩:=h
  refine⟨a,b,?_,?_⟩
  ·simp;omega
  ·simp only[Bl,Br]
   intro y hy
   rcases FK.1 hy with hy|hy
   ·exact d y hy
   ·simp at hy;subst hy;exact hx
theorem a9x(h:gsOk sg g):pur (Av g x)=((pur g).bind (Bd x)).map (·.2)∧∀p,(pur g).bind (Bd x)=some p→AQ g=p.1:=by
 unfold Av AQ
 cases hf:EZ g with
 |true=>
  simp only[BN,Mr]
  have:(pur g).bind (Bd x)=none:=by
   cases hs:pur g with
   |none=>rfl
   |some s=>
    obtain⟨h1,rfl⟩:=Gw.1 hs
    have h3:g.nodes.length=300:=by simpa [EZ,h1] using hf
    simp [Bd,h3]
  rw[this];exact⟨rfl,fun p hp=>by cases hp⟩
 |false=>
  obtain⟨h1,h2⟩:=Xl hf
  have h3:g.nodes.length≤300:=h.2.2.1
  have h4:¬300≤g.nodes.length:=by omega
  simp [pur,h1,Bd,h4]
theorem Xm(h:gsOk sg g)(hx:Ee x):BU sg g (Bd x) (AQ g,Av g x):=by
 refine⟨Us h hx,?_,?_,(a9x h).1,(a9x h).2⟩
 ·simp only[Av];split<;>rfl
 ·simp only[Av];split<;>exact Em _
theorem a2z(h:gsOk sg g)(hx:Ee x)(hl:g.bad=false→g.pos<sg.length):Ag sg g (fun s=>Hg (Bd x s)) (AQ g,Eh (Av g x)):=by
 obtain⟨h1,h2,h3,h4,h5⟩:=Xm h hx
 simp only at h1 h2 h3 h4 h5
 have hp:pur (Eh (Av g x))=(pur (Av g x)).map adv:=by
  unfold Eh
  cases hb:(Av g x).bad with
  |true=>rw[Fp hb];simp [Fp hb]
  |false=>simp only[Bl,Br];exact a2x
 have hpos:(Av g x).pos=g.pos:=by simp only[Av];split<;>rfl
 have hbad:(Av g x).bad=false→g.bad=false:=by
  intro hb;simp only[Av] at hb;split at hb
  ·simp [Bw] at hb
  ·exact hb
 refine⟨⟨?_,?_,?_,?_,?_⟩,?_⟩
 ·simp only[Eh];split
  ·exact h1
  ·rename_i hb
   exact Ib h1 (by rw[hpos];exact hl (hbad (by simpa using hb)))
 ·simp only[Eh];split<;>simpa [Au] using h2
 ·simp only[Eh];split
  ·exact h3
  ·simp only[Au];omega
 ·simp only;rw[hp,h4]
  cases hs:pur g with
  |none=>rfl
  |some s=>simp only[De,Hg];cases Bd x s<;>rfl
 ·intro p hp2
  simp only
  cases hs:pur g with
  |none=>rw[hs] at hp2;cases hp2
  |some s=>
   rw[hs] at hp2 h5
   simp only[De,Hg,FM] at hp2
   obtain⟨q,hq,rfl⟩:=hp2
   exact h5 q (by simpa using hq)
 ·simp only[Eh]
  split
  ·rename_i hb;intro hh;rw[hb] at hh;cases hh
  ·intro _;simp only[Au];omega
theorem Rz(h:gsOk sg g)(hx:Ee x):Ag sg g (Bt sg m x) (Dr sg g m,Dq sg g m x):=by
 unfold Dq Dr
 cases hm:isG sg g 4 m with
 |true=>
  obtain⟨hb,hl⟩:=Eg hm (by omega)
  have:=a2z h hx (fun _=>hl)
  simp only[BN]
  have e:(pur g).bind (Bt sg m x)=(pur g).bind fun s=>Hg (Bd x s):=by
   rw[Ef hb]
   have:isM sg ⟨g.pos,g.deep,g.nodes⟩ m=true:=a2y hm (Ef hb)
   simp [Bt,this]
  obtain⟨⟨a1,a2,a3,a4,a5⟩,a6⟩:=this
  exact⟨⟨a1,a2,a3,by rw[e];exact a4,by rw[e];exact a5⟩,a6⟩
 |false=>
  simp only[Bl,Br]
  have e:(pur g).bind (Bt sg m x)=none:=by
   cases hs:pur g with
   |none=>rfl
   |some s=>
    have:isM sg s m=false:=Xk hm hs
    simp [Bt,this]
  refine⟨⟨Pm h,rfl,Em _,by rw[e];exact Mr,fun p hp=>by rw[e] at hp;cases hp⟩,fun hb=>by simp [Bw] at hb⟩
theorem c0l(h:sgB sg):(sgO sg i).text.length≤3000:=by
 unfold sgO;rw[List.getD]
 cases hx:sg[i.toNat]? with
 |none=>simp [Gv]
 |some e=>exact h.2 e (Bq hx)
theorem Ut(h:sgB sg):(pkG sg g n).text.length≤3000:=by
 unfold pkG;split
 ·simp [Gv]
 ·exact c0l h
theorem Uu{b:Bool}(hs:sgB sg)(h:gsOk sg g)(hl:g.bad=false→g.pos<sg.length):Ag sg g (Hh sg k b) (AQ g,FT sg g k b):=by
 have hx:Ee ⟨k,(pkG sg g 0).text,[],b⟩:=⟨Ut hs,by simp⟩
 have:=a2z (x:=⟨k,(pkG sg g 0).text,[],b⟩) h hx hl
 have e:(pur g).bind (Hh sg k b)=(pur g).bind fun s=>Hg (Bd ⟨k,(pkG sg g 0).text,[],b⟩ s):=by
  cases hs:pur g with
  |none=>rfl
  |some s=>
   obtain⟨h1,rfl⟩:=Gw.1 hs
   simp [Hh,Mq h1]
 obtain⟨⟨a1,a2,a3,a4,a5⟩,a6⟩:=this
 exact⟨⟨a1,a2,a3,by rw[e];exact a4,by rw[e];exact a5⟩,a6⟩
theorem Xn(hs:sgB sg)(h:gsOk sg g):Ag sg g (Cn sg) (FD sg g,Fq sg g):=by
 unfold Fq FD
 cases hm:nmG sg g 0 with
 |true=>
  obtain⟨hb,hl⟩:=Xj hm
  simp only[BN]
  obtain⟨⟨a1,a2,a3,a4,a5⟩,a6⟩:=Uu (k:=1) (b:=false) hs h (fun _=>by omega)
  have e:(pur g).bind (Cn sg)=(pur g).bind (Hh sg 1 false):=by
   rw[Ef hb]
   have:DF sg g.pos=true:=by have:=Pl (sg:=sg) (n:=0) (Ef hb);rw[hm] at this;simpa using this.symm
   simp [Cn,this]
  exact⟨⟨a1,a2,a3,by rw[e];exact a4,by rw[e];exact a5⟩,a6⟩
 |false=>
  simp only[Bl,Br]
  have e:(pur g).bind (Cn sg)=none:=by
   cases hs:pur g with
   |none=>rfl
   |some s=>
    have:DF sg s.pos=false:=by have:=Pl (sg:=sg) (n:=0) hs;rw[hm] at this;simpa using this.symm
    simp [Cn,this]
  refine⟨⟨Pm h,rfl,Em _,by rw[e];exact Mr,fun p hp=>by rw[e] at hp;cases hp⟩,fun hb=>by simp [Bw] at hb⟩
theorem RB(h:gsOk sg g):Ag sg g (HG sg) (DX sg g,Dx sg g):=by
 unfold Dx DX
 cases hm:nmG sg g 0 with
 |true=>
  obtain⟨hb,hl⟩:=Xj hm
  simp only[BN]
  have hn:DF sg g.pos=true:=by have:=Pl (sg:=sg) (n:=0) (Ef hb);rw[hm] at this;simpa using this.symm
  refine⟨⟨Ib h (by omega),rfl,by simp only[Au];omega,?_,?_⟩,fun _=>by simp only[Au];omega⟩
  ·simp only;rw[a2x,Ef hb];simp [HG,hn]
  ·intro p hp;rw[Ef hb] at hp
   simp [HG,hn] at hp
   rw[←hp,Mq hb];simp
 |false=>
  simp only[Bl,Br]
  have e:(pur g).bind (HG sg)=none:=by
   cases hs:pur g with
   |none=>rfl
   |some s=>
    have:DF sg s.pos=false:=by have:=Pl (sg:=sg) (n:=0) hs;rw[hm] at this;simpa using this.symm
    simp [HG,this]
  refine⟨⟨Pm h,rfl,Em _,by rw[e];exact Mr,fun p hp=>by rw[e] at hp;cases hp⟩,fun hb=>by simp [Bw] at hb⟩
end Go.My
end
section
namespace Go.My
open Go.Eng Go.Proofs
variable {G:GInv}
variable {g:Gs}
theorem c0m{a:Int}{b:Aa}{c:Ad}{d:Bool}{o:Bool}{i:Nat}{q:Nd→Prop}(h:q ⟨a,b,c,d⟩):∃x:Nd,a=x.kind∧b=x.text∧AV.sl o i 1 Int BE c=AV.sl o i 1 Int BE x.kids∧d=x.blank∧q x:=⟨⟨a,b,c,d⟩,rfl,rfl,rfl,rfl,h⟩
structure ST where
 sg:List Sg
 z:Int
 ms:List (Int×Int)
abbrev xg (x:ST×Int×Int×Bool×List Nd):Gs:=⟨x.2.1,x.2.2.1,x.2.2.2.1,x.2.2.2.2⟩
abbrev xh {α:Type} (x:ST×Int×Int×Bool×List Nd×α):Gs:=⟨x.2.1,x.2.2.1,x.2.2.2.1,x.2.2.2.2.1⟩
abbrev yG (y:Int×Int×Bool×List Nd):Gs:=⟨y.1,y.2.1,y.2.2.1,y.2.2.2⟩
abbrev yS {α:Type} (y:α×Int×Int×Bool×List Nd):α×Gs:=(y.1,⟨y.2.1,y.2.2.1,y.2.2.2.1,y.2.2.2.2⟩)
def rOk(s:ST)(g:Gs):Prop:=sgB s.sg∧gsOk s.sg g
theorem IQ{s:ST}(h:rOk s g):((0≤g.pos∧g.pos≤s.sg.length)∧(0≤g.deep∧g.deep≤21))∧g.nodes.length≤300∧s.sg.length≤3000:=⟨⟨h.2.1,h.2.2.1⟩,h.2.2.2.1,h.1.1⟩
theorem c0n{sg:List Sg}{n:Int}(h:g.bad=true∨(sg.length:Int)≤g.pos+n):pkG sg g n=Gv:=if_pos h
theorem c0o{sg:List Sg}{n:Int}{e:Sg}(he:sg[(g.pos+n).toNat]? =some e)(hb:g.bad=false)(hl:¬(sg.length:Int)≤g.pos+n):pkG sg g n=e:=by
 rw[pkG,if_neg (by simp [hb];omega),Ia he]
end Go.My
end
section
namespace Go.My
open Go.Eng
variable {d:Int}{g x y:Gs}{m:Aa}{s:Ps}{sg:List Sg}
def restP{α:Type}(sg:List Sg)(x:Gs)(f:Ps→Option (α×Ps))(y:Gs)(g:Ps→Option (α×Ps))(d:Int):Prop:=
 gsOk sg y∧y.deep=x.deep+d∧x.pos≤y.pos∧(pur y).bind g=(pur x).bind f
theorem Ei{α:Type}{f:Ps→Option (α×Ps)}(h:gsOk sg x):restP sg x f x f 0:=⟨h,by omega,Em _,rfl⟩
theorem Fr{α:Type}{f g g':Ps→Option (α×Ps)}(h:restP sg x f y g d)(e:∀s,pur y=some s→g s=g' s):restP sg x f y g' d:=by
 refine⟨h.1,h.2.1,h.2.2.1,?_⟩
 rw[←h.2.2.2]
 cases hs:pur y with
 |none=>rfl
 |some s=>exact(e s hs).symm
theorem a9y{α:Type}{z:Gs}{f g g':Ps→Option (α×Ps)}{h:Ps→Option Ps}(h1:restP sg x f y g d)(h2:a2w sg y h z)(e:∀s,pur y=some s→g s=(h s).bind g'):restP sg x f z g' d:=by
 obtain⟨a1,a2,a3,a4⟩:=h1;obtain⟨b1,b2,b3,b4⟩:=h2
 refine⟨b1,by omega,by omega,?_⟩
 rw[b4,←a4]
 cases hs:pur y with
 |none=>rfl
 |some s=>simp only[De];rw[e s hs]
theorem Cq{α β:Type}{z:β×Gs}{f g:Ps→Option (α×Ps)}{k:β→Ps→Option (α×Ps)}{h:Ps→Option (β×Ps)}(h1:restP sg x f y g d)(h2:BU sg y h z)
 (e:∀s,pur y=some s→g s=(h s).bind fun p=>k p.1 p.2):restP sg x f z.2 (k z.1) d:=by
 obtain⟨a1,a2,a3,a4⟩:=h1;obtain⟨b1,b2,b3,b4,b5⟩:=h2
 refine⟨b1,by omega,by omega,?_⟩
 rw[b4,←a4]
 cases hs:pur y with
 |none=>rfl
 |some s=>
  simp only[De];rw[e s hs]
  rw[hs] at b5
  simp only[De] at b5
  cases hp:h s with
  |none=>rfl
  |some p=>simp only[Kj,De];rw[b5 p hp]
theorem IR{α:Type}{f:Ps→Option (α×Ps)}{a:α}(h:restP sg x f y (fun s=>some (a,s)) 0):BU sg x f (a,y):=by
 obtain⟨a1,a2,a3,a4⟩:=h
 refine⟨a1,by simp only;omega,a3,?_,?_⟩
 ·rw[←a4];cases pur y<;>rfl
 ·intro p hp;rw[←a4] at hp
  cases hs:pur y with
  |none=>rw[hs] at hp;cases hp
  |some s=>rw[hs] at hp;simp only[De,AS] at hp;rw[←hp]
theorem Uv{α:Type}{f g:Ps→Option (α×Ps)}{a:α}(h:restP sg x f y g 0)(hb:y.bad=true):BU sg x f (a,y):=by
 obtain⟨a1,a2,a3,a4⟩:=h
 rw[Fp hb] at a4
 have hn:(pur x).bind f=none:=a4.symm
 refine⟨a1,by simp only;omega,a3,?_,fun p hp=>by rw[hn] at hp;cases hp⟩
 rw[hn,Fp hb];rfl
theorem a9z{α:Type}{f g:Ps→Option (α×Ps)}(h:restP sg x f y g d)(e:∀s,pur y=some s→g s=none):(pur x).bind f=none:=by
 rw[←h.2.2.2]
 cases hs:pur y with
 |none=>rfl
 |some s=>exact e s hs
theorem a9A{α:Type}{f g:Ps→Option (α×Ps)}{a:α}(h:restP sg x f y g 0)(e:∀s,pur y=some s→g s=none):BU sg x f (a,Bw y):=by
 have hn:=a9z h e
 refine⟨Pm h.1,by simp only[Bw];have:=h.2.1;omega,h.2.2.1,?_,fun p hp=>by rw[hn] at hp;cases hp⟩
 rw[hn,Mr];rfl
theorem Pn{α:Type}{f g g':Ps→Option (α×Ps)}{e:Int}(h:restP sg x f y g d)(hd:0≤y.deep+e∧y.deep+e≤21)(hg:∀s,pur y=some s→g s=g' (dp s e)):restP sg x f (gDp y e) g' (d+e):=by
 obtain⟨a1,a2,a3,a4⟩:=h
 refine⟨⟨a1.1,hd,a1.2.2⟩,by simp only[gDp];omega,a3,?_⟩
 rw[←a4]
 cases hb:y.bad with
 |true=>rw[Fp hb,Fp (by simpa [gDp] using hb)];rfl
 |false=>
  rw[Ef hb,Ef (g:=gDp y e) (by simpa [gDp] using hb)]
  simp only[De]
  rw[hg _ (Ef hb)];rfl
theorem a9B{α:Type}{f g g':Ps→Option (α×Ps)}(h:restP sg x f y g d)(hg:∀s,pur y=some s→g s=none):restP sg x f (Bw y) g' d:=by
 have hn:=a9z h hg
 refine⟨Pm h.1,h.2.1,h.2.2.1,?_⟩
 rw[Mr,hn];rfl
theorem Ms(hs:pur g=some s)(hm:isG sg g 4 m=true):isM sg s m=true:=a2y hm hs
theorem Gx(hs:pur g=some s)(hm:isG sg g 4 m=false):isM sg s m=false:=Xk hm hs
theorem FU(hs:pur g=some s)(hm:isG sg g 1 m=false):isW sg s m=false:=Xk hm hs
theorem IT{α:Type}{f g g':Ps→Option (α×Ps)}{k:Int}(h:restP sg x f y g d)(hk:k≠0)(hm:isG sg y k m=true)(hg:∀s,pur y=some s→isT sg s k m=true→g s=g' (adv s)):
 restP sg x f (Au y) g' d:=by
 obtain⟨h1,h2,h3⟩:=a9w h.1 hk hm
 refine a9y h h1 fun s hs=> ?_
 have ht:=a2y hm hs
 rw[hg s hs ht,ht];rfl
theorem JN{α:Type}{f g g':Ps→Option (α×Ps)}(h:restP sg x f y g d)(hg:∀s,pur y=some s→g s=(BS sg m s).bind g'):restP sg x f (Ax sg y m) g' d:=
 a9y h (Ur h.1).1 hg
theorem c0p{α:Type}{y:α×Gs}{f:Ps→Option (α×Ps)}(h:BU sg x f y):restP sg x f y.2 (fun s=>some (y.1,s)) 0:=by
 obtain⟨a1,a2,a3,a4,a5⟩:=h
 refine⟨a1,by omega,a3,?_⟩
 cases hp:(pur x).bind f with
 |none=>rw[a4,hp];rfl
 |some p=>rw[a4,hp,a5 p hp];rfl
theorem c0q{one:Ps→PR}{n:Nat}{ks:Ad}(h:isM sg s m=true):BG sg one m (n+1) ks s=some (ks,s):=by rw[BG,if_pos h]
theorem c0r{one:Ps→PR}{n:Nat}{ks:Ad}(h:isM sg s m=false):BG sg one m (n+1) ks s=(one s).bind fun p=>if isM sg p.2 [44] then BG sg one m n (ks++[p.1]) (adv p.2) else some (ks++[p.1],p.2):=by
 rw[BG,if_neg (by simp [h])]
end Go.My
end
