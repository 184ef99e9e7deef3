/- joined -/
import Derived.Test.YtpkkcecninnjiaaGreatDoorQH
set_option linter.unusedSimpArgs false
set_option linter.unusedVariables false
section
namespace Go.My
open Go.Eng Go.Proofs
variable {G:GInv}
variable {N n:Nat}{c q z:Int×Gs}{e:Sg}{i:Int}{ks:Ad}{m:Aa}{s:ST}{sg:List Sg}{x y:Gs}
def okQ(s:ST)(x:Gs):Prop:=okD s x∧sgM s.sg
theorem FY(h:okQ s x):okD s x:=h.1
theorem RR(h:okQ s x):sgM s.sg:=h.2
theorem MB(h:isG sg x 1 m=false):Cc sg x m=x:=by simp [Cc,h]
theorem MC(h:isG sg x 1 m=true):Cc sg x m=Au x:=by simp [Cc,h]
theorem Ij(h:okQ s x)(hq:isG s.sg x 1 m=true):okQ s (Au x):=⟨b0c h.1 hq,h.2⟩
theorem a3t(h:okQ s x):rOk s (Bi s.sg x 1)∧rOk s (AA s.sg (Bi s.sg x 1) [61]):=by
 have a:=JR (k:=1) h.1.1 (by omega);exact⟨a,Hl a⟩
theorem c4l(h:okQ s x)(hq:isG s.sg (Bi s.sg x 1) 4 [61]=true):okQ s (AA s.sg (Bi s.sg x 1) [61]):=by
 rw[KA.1] at hq ⊢
 exact⟨c2f h.1.1 h.1.2 hq,h.2⟩
theorem c4m(h:okQ s x)(hq:isG s.sg (Bi s.sg x 1) 4 [61]=true)(hz:Ag s.sg (AA s.sg (Bi s.sg x 1) [61]) (CE s.sg) z):
 Ag s.sg x (Eq s.sg false) (AQ (Ax s.sg z.2 [59]),Av (Ax s.sg z.2 [59]) ⟨12,BK s.sg x 1,[z.1],false⟩):=by
 rw[KA.1] at hq hz;rw[KA.2]
 exact Kz (HJ hz) (Gz (Mu h.1.1.1) (by simp)) (c2g h.1.1 hq hz)
theorem c4n(h:okQ s x)(hq:isG s.sg (Bi s.sg x 1) 4 [61]=false):
 Ag s.sg x (Eq s.sg false) (AQ (Ax s.sg (AA s.sg (Bi s.sg x 1) [61]) [59]),Av (Ax s.sg (AA s.sg (Bi s.sg x 1) [61]) [59]) ⟨12,BK s.sg x 1,[],false⟩):=by
 rw[KA.1] at hq ⊢;rw[KA.2]
 exact Kz (c2h h.1.1 hq).2 (Gz (Mu h.1.1.1) (by simp)) (c2i h.1.1 hq)
def mbS(sg:List Sg)(n:Nat)(x y:Gs)(ks:Ad)(N:Nat):Prop:=
 NM sg (stR sg n) [125] (pkX (Ax sg x [123])) y ks N∧y.deep=x.deep+1∧(y.bad=false→x.deep≠20)
theorem b0S(h:okQ s x):mbS s.sg n x (pkX (Ax s.sg x [123])) [] (s.sg.length+1):=by
 have t:=JO (m:=[123]) h.1.1.2
 obtain⟨p1,p2,p3⟩:= @Uw (Ax s.sg x [123])
 have t1:=t.1;have t2:=t.2.1;have hd:=h.1.2
 refine⟨a9Q ⟨by simp only[pkX] at*;rw[p1];exact t1.1,by simp only[pkX] at*;rw[p2];have:=t1.2.1;omega,?_⟩,by simp only[pkX] at*;rw[p2];omega,fun hb=>by have:=(p3 hb).2;omega⟩
 have e:(pkX (Ax s.sg x [123])).nodes=(Ax s.sg x [123]).nodes:=by unfold pkX;split<;>rfl
 rw[e];exact t1.2.2
theorem c4o(h:okQ s x)(h20:(Ax s.sg x [123]).deep+1>20):mbS s.sg n x ⟨(Ax s.sg x [123]).pos,(Ax s.sg x [123]).deep+1,true,(Ax s.sg x [123]).nodes⟩ [] (s.sg.length+1):=by
 have a:=b0S (n:=n) h
 have t2:=(JO (m:=[123]) h.1.1.2).2.1;have hd:=h.1.2
 have e:pkX (Ax s.sg x [123])=⟨(Ax s.sg x [123]).pos,(Ax s.sg x [123]).deep+1,true,(Ax s.sg x [123]).nodes⟩:=by rw[pkX,if_pos (by omega)];rfl
 rw[←e];exact a
theorem c4p(h:okQ s x)(h20:¬(Ax s.sg x [123]).deep+1>20):mbS s.sg n x ⟨(Ax s.sg x [123]).pos,(Ax s.sg x [123]).deep+1,(Ax s.sg x [123]).bad,(Ax s.sg x [123]).nodes⟩ [] (s.sg.length+1):=by
 have a:=b0S (n:=n) h
 have e:pkX (Ax s.sg x [123])=⟨(Ax s.sg x [123]).pos,(Ax s.sg x [123]).deep+1,(Ax s.sg x [123]).bad,(Ax s.sg x [123]).nodes⟩:=by rw[pkX,if_neg (by omega)];rfl
 rw[←e];exact a
theorem c4q(h:okQ s x):0≤(Ax s.sg x [123]).deep∧(Ax s.sg x [123]).deep≤20:=by
 have t:=JO (m:=[123]) h.1.1.2
 have:=t.1.2.1;have:=t.2.1;have:=h.1.2;omega
theorem XX(h:okQ s x)(hj:mbS s.sg n x y ks N):rOk s y:=⟨h.1.1.1,hj.1.1.1⟩
theorem a3u{n:Nat}(h:okQ s x)(h2:20-x.deep≤(n:Int))(hj:mbS s.sg n x y ks N)(hb:y.bad=false)(hq:isG s.sg y 4 [125]=false):okQ s (AA s.sg y [125])∧(AA s.sg y [125]).bad=false∧21-(AA s.sg y [125]).deep≤(n:Int):=by
 rw[EL hq]
 have:=hj.2.1;have:=hj.2.2 hb;have:=h.1.2
 exact⟨⟨⟨XX h hj,by omega⟩,h.2⟩,hb,by omega⟩
theorem a3v(h:okQ s x)(hj:mbS s.sg n x y ks N):ks.length≤3001:=by
 have:=hj.1.2.2.1;have:=hj.1.1.1.1;have:=h.1.1.1.1;omega
theorem XY{b:Bool}(hj:mbS s.sg n x y ks N)(hb:y.bad=false)(hq:isG s.sg y 4 [125]=false)(hz:Ag s.sg (AA s.sg y [125]) (stR s.sg n false) z)(e:b=(blG s.sg (AA s.sg y [125])&&decide (0<(ks.length:Int)))):
 mbS s.sg n x (gBl z.2 z.1 b) (ks++[z.1]) (N-1)∧N-1<N:=by
 rw[EL hq] at hz e
 rw[a3s hb] at e
 have hz2:Ag s.sg y (stR s.sg n b) (z.1,gBl z.2 z.1 b):=a3r a3o hz
 subst e
 obtain⟨a,b⟩:=RE (a9U hj.1 hb hq (z:=(z.1,gBl z.2 z.1 ((pkG s.sg y 0).blank&&decide (0<(ks.length:Int))))) (by
  have:decide (0<ks.length)=decide (0<(ks.length:Int)):=by simp
  rw[this];exact hz2))
 have:=(DG hz2).1
 exact⟨⟨a,by have:=hj.2.1;simp only at*;omega,fun hw=>hj.2.2 hb⟩,b⟩
theorem c4r(h:okQ s x)(hj:mbS s.sg n x y ks N)(hq:isG s.sg y 4 [125]=true):
 Ag s.sg x (Cf s.sg (stR s.sg n)) (AQ (gDp (AA s.sg y [125]) (-1)),Av (gDp (AA s.sg y [125]) (-1)) ⟨18,[],ks,false⟩):=by
 rw[FW hq,←Mx hq]
 exact b0R (l:=(ks,y)) h.1.1.2 h.1.2 (a9T hj.1 hq) (a3v h hj)
theorem c4s(h:okQ s x)(hj:mbS s.sg n x y ks N)(hb:y.bad=true):
 Ag s.sg x (Cf s.sg (stR s.sg n)) (AQ (gDp y (-1)),Av (gDp y (-1)) ⟨18,[],ks,false⟩):=by
 have a:=b0R (l:=(ks,y)) h.1.1.2 h.1.2 (a9R hj.1 hb) (a3v h hj)
 simp only[XJ hb] at a;exact a
theorem a3w(h:okQ s x)(hj:mbS s.sg n x y ks N):(1≤y.deep∧y.deep≤21)∧rOk s (gDp y (-1))∧rOk s (gDp (AA s.sg y [125]) (-1))∧(AA s.sg y [125]).deep=y.deep:=by
 have h1:=hj.2.1;have h2:=h.1.1.2.2.1;have h3:=h.1.2
 have a:=XX h hj
 have b:=Hl (m:=[125]) a
 have e:(AA s.sg y [125]).deep=y.deep:=by unfold AA;split<;>rfl
 refine⟨by omega,⟨a.1,a.2.1,by simp only[gDp];omega,a.2.2.2⟩,⟨b.1,b.2.1,by simp only[gDp];omega,b.2.2.2⟩,e⟩
theorem c4t(h:okQ s x)(hk:kdG s.sg x 5=true):Ag s.sg x (stR s.sg (n+1) false) (AQ (Bi s.sg x 5),Av (Bi s.sg x 5) ⟨19,BK s.sg x 5,[],false⟩):=by
 have hn:=hk
 rw[UE (by omega)] at hn
 exact RM h.1.1.1 h.1.1.2 (by omega) hk (c1I h.1.1.1 h.1.1.2 (by simpa using hn))
theorem IW(h:kdG sg x 5=false):(pkG sg x 0).kind≠5:=MA h (by omega)
theorem c4u(h:okQ s x)(hk:kdG s.sg x 5=false)(hq:isG s.sg x 1 [118,97,114]=true)(hz:Ag s.sg (Au x) (Eq s.sg false) z):Ag s.sg x (stR s.sg (n+1) false) z:=c1J h.1.1.2 (IW hk) hq hz
theorem c4v(h:okQ s x)(hk:kdG s.sg x 5=false)(h1:isG s.sg x 1 [118,97,114]=false)(hq:isG s.sg x 1 [114,101,116,117,114,110]=true)(hs:isG s.sg (Au x) 4 [59]=true):
 Ag s.sg x (stR s.sg (n+1) false) (AQ (Ax s.sg (Au x) [59]),Av (Ax s.sg (Au x) [59]) ⟨15,[],[],false⟩):=by
 have o:=(Ij h hq).1.1.2
 exact a9W h.1.1.2 (IW hk) h1 hq (Kz o (Gz (by simp) (by simp)) (c1x o hs))
theorem c4w(h:okQ s x)(hk:kdG s.sg x 5=false)(h1:isG s.sg x 1 [118,97,114]=false)(hq:isG s.sg x 1 [114,101,116,117,114,110]=true)(hs:isG s.sg (Au x) 4 [59]=false)(hz:Ag s.sg (Au x) (CE s.sg) z):
 Ag s.sg x (stR s.sg (n+1) false) (AQ (Ax s.sg z.2 [59]),Av (Ax s.sg z.2 [59]) ⟨15,[],[z.1],false⟩):=by
 have o:=(Ij h hq).1.1.2
 exact a9W h.1.1.2 (IW hk) h1 hq (Kz (HJ hz) (Gz (by simp) (by simp)) (c1y o hs hz))
theorem c4x(h:okQ s x)(hk:kdG s.sg x 5=false)(h1:isG s.sg x 1 [118,97,114]=false)(h2:isG s.sg x 1 [114,101,116,117,114,110]=false)(hq:isG s.sg x 1 [105,102]=true)
 (hc:BU s.sg (Au x) (Ez s.sg) c) (hb:Ag s.sg c.2 (Cf s.sg (stR s.sg n)) q) (he:isG s.sg q.2 1 [101,108,115,101]=false):
 Ag s.sg x (stR s.sg (n+1) false) (AQ (Cc s.sg q.2 [101,108,115,101]),Av (Cc s.sg q.2 [101,108,115,101]) ⟨16,[],[c.1,q.1],false⟩):=by
 rw[MB he]
 exact a9X h.1.1.2 (IW hk) h1 h2 hq (c1D (Ij h hq).1.1.2 hc hb he)
theorem c4y{r:Int×Gs}(h:okQ s x)(hk:kdG s.sg x 5=false)(h1:isG s.sg x 1 [118,97,114]=false)(h2:isG s.sg x 1 [114,101,116,117,114,110]=false)(hq:isG s.sg x 1 [105,102]=true)
 (hc:BU s.sg (Au x) (Ez s.sg) c) (hb:Ag s.sg c.2 (Cf s.sg (stR s.sg n)) q) (he:isG s.sg q.2 1 [101,108,115,101]=true) (hr:Ag s.sg (Cc s.sg q.2 [101,108,115,101]) (Cf s.sg (stR s.sg n)) r):
 Ag s.sg x (stR s.sg (n+1) false) (AQ r.2,Av r.2 ⟨16,[],[c.1,q.1,r.1],false⟩):=by
 rw[MC he] at hr
 exact a9X h.1.1.2 (IW hk) h1 h2 hq (c1E (Ij h hq).1.1.2 hc hb he hr)
theorem c4z(h:okQ s x)(hk:kdG s.sg x 5=false)(h1:isG s.sg x 1 [118,97,114]=false)(h2:isG s.sg x 1 [114,101,116,117,114,110]=false)(h3:isG s.sg x 1 [105,102]=false)(hq:isG s.sg x 1 [119,104,105,108,101]=true)
 (hc:BU s.sg (Au x) (Ez s.sg) c) (hb:Ag s.sg c.2 (Cf s.sg (stR s.sg n)) q):Ag s.sg x (stR s.sg (n+1) false) (AQ q.2,Av q.2 ⟨17,[],[c.1,q.1],false⟩):=c2j h.1 (IW hk) h1 h2 h3 hq hc hb
theorem c4A{k:Int}(hk:e.kind=k)(he:sg[i.toNat]? =some e):(sgO sg i).kind=k:=by rw[Ia he];exact hk
theorem c4B{k:Int}(hk:e.kind≠k)(he:sg[i.toNat]? =some e):(sgO sg i).kind≠k:=by rw[Ia he];exact hk
theorem c4C(hk:e.text=m)(he:sg[i.toNat]? =some e):((sgO sg i).text==m)=true:=by rw[Ia he];simpa using hk
theorem c4D(hk:e.text≠m)(he:sg[i.toNat]? =some e):((sgO sg i).text==m)=false:=by rw[Ia he];simpa using hk
theorem c4E(hk:kdG sg x 1=false):seG sg x=false:=by rw[Ls] at hk;simp [seG,hk]
theorem b0T(hb:x.bad=false)(hl:x.pos+1<sg.length)(he:sgO sg (x.pos+1)=e):pkG sg x 1=e:=by
 rw[pkG,if_neg (by simp [hb];omega),he]
theorem c4F(hl:¬x.pos+1<sg.length):seG sg x=false:=by
 have:pkG sg x 1=Gv:=by rw[pkG,if_pos (.inr (by omega))]
 simp [seG,this,Gv]
theorem b0U(hb:x.bad=false)(hl:x.pos+1<sg.length)(hk:(sgO sg (x.pos+1)).kind≠4∨((sgO sg (x.pos+1)).text==[61])=false):seG sg x=false:=by
 rw[seG,b0T hb hl rfl]
 rcases hk with hk|hk<;>simp [hk]
theorem c4G(hb:x.bad=false)(hl:x.pos+1<sg.length)(h1:kdG sg x 1=true)(hk:(sgO sg (x.pos+1)).kind=4)(ht:((sgO sg (x.pos+1)).text==[61])=true):seG sg x=true:=by
 rw[Ls] at h1
 rw[seG,b0T hb hl rfl];simp [h1,hk,ht]
theorem c4H(h:okQ s x)(hk:kdG s.sg x 5=false)(h1:isG s.sg x 1 [118,97,114]=false)(h2:isG s.sg x 1 [114,101,116,117,114,110]=false)(h3:isG s.sg x 1 [105,102]=false)(h4:isG s.sg x 1 [119,104,105,108,101]=false)
 (he:seG s.sg x=true) (hz:Ag s.sg (Ax s.sg (Bi s.sg x 1) [61]) (CE s.sg) z):Ag s.sg x (stR s.sg (n+1) false) (AQ (Ax s.sg z.2 [59]),Av (Ax s.sg z.2 [59]) ⟨13,BK s.sg x 1,[z.1],false⟩):=by
 rw[KA.1] at hz;rw[KA.2]
 exact c1L h.1.1.2 (IW hk) h1 h2 h3 h4 he (Kz (HJ hz) (Gz (Mu h.1.1.1) (by simp)) (c1G h.1.1.1 h.1.1.2 hz))
theorem XZ(h:okQ s x)(hk:kdG s.sg x 5=false)(h1:isG s.sg x 1 [118,97,114]=false)(h2:isG s.sg x 1 [114,101,116,117,114,110]=false)(h3:isG s.sg x 1 [105,102]=false)(h4:isG s.sg x 1 [119,104,105,108,101]=false)
 (he:seG s.sg x=false) (hz:Ag s.sg x (CE s.sg) z):Ag s.sg x (stR s.sg (n+1) false) (AQ (Ax s.sg z.2 [59]),Av (Ax s.sg z.2 [59]) ⟨14,[],[z.1],false⟩):=
 c1M h.1.1.2 (IW hk) h1 h2 h3 h4 he (Kz (HJ hz) (Gz (by simp) (by simp)) (c1H h.1.1.2 hz))
theorem b0V(h:okQ s x):rOk s (Ax s.sg (Bi s.sg x 1) [61])∧okQ s (Ax s.sg (Bi s.sg x 1) [61]):=by
 have a:=IV (m:=[61]) (JR (k:=1) h.1.1 (by omega))
 have e:(Bi s.sg x 1).deep=x.deep:=by unfold Bi;split<;>rfl
 exact⟨a.1,⟨a.1,by have:=h.1.2;omega⟩,h.2⟩
theorem c4I{α:Type}{f:Ps→Option (α×Ps)}{y:α×Gs}(h:okQ s x)(hy:BU s.sg x f y):okQ s y.2:=⟨b0a h.1 hy,h.2⟩
theorem RT{α:Type}{f:Ps→Option (α×Ps)}{y:α×Gs}(h:okQ s x)(hy:Ag s.sg x f y):okQ s y.2:=⟨b0a h.1 hy.1,h.2⟩
theorem c4J{α:Type}{n:Nat}{f:Ps→Option (α×Ps)}{y:α×Gs}(h:21-x.deep≤((n+1:Nat):Int))(hy:BU s.sg (Au x) f y):20-y.2.deep≤(n:Int):=by
 have:=hy.2.1;simp only[Au] at this;omega
theorem b0W:(Cc sg x m).deep=x.deep:=by unfold Cc;split<;>rfl
theorem b0X(h:rOk s x):rOk s (Cc s.sg x m):=by
 unfold Cc;split
 ·rename_i hq;exact⟨h.1,Ib h.2 (Eg hq (by omega)).2⟩
 ·exact h
theorem b0Y(h:okQ s x):okQ s (Cc s.sg x m):=⟨⟨b0X h.1.1,by rw[b0W];exact h.1.2⟩,h.2⟩
theorem c4K{α:Type}{n:Nat}{f:Ps→Option (α×Ps)}{y:α×Gs}(h:20-x.deep≤(n:Int))(hy:Ag s.sg x f y):20-(Cc s.sg y.2 m).deep≤(n:Int):=by
 rw[b0W];exact c2l h hy
def Py(n:Nat):Sig:=⟨ST×Int×Int×Bool×List Nd,fun x=>[srd x.1 (xg x)],fun x=>(okQ x.1 (xg x)∧(xg x).bad=false)∧21-(xg x).deep≤n,Int×Int×Int×Bool×List Nd,fun x y=>Ag x.1.sg (xg x) (stR x.1.sg n false) (yS y),fun x y=> .int .i64 y.1,fun x y=>[srd x.1 (yG y.2)],true,[],[]⟩
attribute [local irreducible] pE BG DL fnR Ag BU gsOk Ax Dq Av Eh FT AA Fq FD AQ Dr pkG isG nmG kdG Bi BK Cn vlQ Cc gBl blG Eq IU Ez CE Cf stR Dp mbS seG okQ sgM
def srf(s:ST)(g:Gs):AV:= .pf [sgs s.sg,.int .i64 g.pos,.bool g.bad,.int .i64 g.deep,nds g.nodes]
theorem b0Z{l:List Sg}{p d:Int}{b:Bool}{ns:List Nd}:AV.pf (fzL [AV.sl false 0 4 Sg sgA l,.int .i64 p,.bool b,.int .i64 d,AV.sl true 0 4 Nd (ndA true) ns])=AV.pf [AV.sl false 0 4 Sg sgA l,.int .i64 p,.bool b,.int .i64 d,AV.sl false 0 4 Nd (ndA false) ns]:=rfl
def Lu:Sig:=⟨ST×Int×Int×Bool×List Nd×Int,fun x=>[srf x.1 (xh x),.q x.2.2.2.2.2],fun x=>rOk x.1 (xh x)∧x.2.2.2.2.2≠0,Unit,fun x y=>True,fun x y=> .bool (kdG x.1.sg (xh x) x.2.2.2.2.2),fun x y=>[.top,.top],false,[],[]⟩
theorem c4L:CtG G 47 Lu:=
 vFq [(76,0,HW)] [] (fun x=>[]) Tryz.func47 ⟨a2e,trivial⟩ (fun x=>U4∧true=true∧true=true∧Ae (!(xh x).bad) (Ae (decide ((xh x).pos<(nL x.1.sg))) ((0≤(xh x).pos∧(xh x).pos<(nL x.1.sg))∧∀(e:Sg),x.1.sg[Int.toNat (xh x).pos]? =some e→Ae (e.kind==(Z5 x)) (Ae ((Z5 x) != (1:Int)) (rA Lu x [.bool true,.top,.top]) ((0≤(xh x).pos∧(xh x).pos<(nL x.1.sg))∧∀(e:Sg),x.1.sg[Int.toNat (xh x).pos]? =some e→∃(x_1:Aa),True∧e.text=x_1∧∃(y0:Unit),(∀(y:Unit),True→AV.bool (kw x_1)=AV.bool (kw x_1))∧true=true∧rA Lu x [.bool !kw x_1,.top,.top])) (rA Lu x [.bool false,.top,.top])) (rA Lu x [.bool false,.top,.top])) (rA Lu x [.bool false,.top,.top])) (by kernel_rfl) fun(x:ST×Int×Int×Bool×List Nd×Int) (hx:rOk x.1 (xh x)∧x.2.2.2.2.2≠0)=>(by
 dsimp only[nL,U4,Z5,Ce,nds,rA,Lu,CD,sgs,srf,AB,AF,AV.q]
 obtain⟨s,p,d,b,ns,k⟩:=x;dsimp only[xg,xh] at hx ⊢
 obtain⟨h1,h2⟩:=hx;have hs:=IQ h1;dsimp only at hs
 (repeat' first|(with_reducible first|rfl|exact⟨⟩|apply AG|apply AM)|apply AL|(apply AK<;>try dsimp only)|apply AJ|((try refine AH.2 ?_);intro _;try dsimp only))
 all_goals(try(repeat(rename s.sg[_]? =some _=>hq;revert hq;rename s.sg[_]? =some _=>hr;intro hq;rw[hr] at hq;cases hq)))
 all_goals first
  |rfl
  |exact(RJ h2 (.inl ‹_›)).symm
  |exact(RJ h2 (.inr (by simp only;omega))).symm
  |(rw[b0p ‹_› ‹_› (by simp only;omega)];simp [*];done)
  |((try simp only[Aw]);omega)
  |skip)
def IX:Sig:=⟨ST×Int×Int×Bool×List Nd,fun x=>[srd x.1 (xg x)],fun x=>okQ x.1 (xg x),Int×Int×Int×Bool×List Nd,fun x y=>Ag x.1.sg (xg x) (Eq x.1.sg false) (yS y),fun x y=> .q y.1,fun x y=>[srd x.1 (yG y.2)],true,[],[]⟩
theorem a3x:CtG G 50 IX:=
 vFq [(48,0,Dh),(52,0,Cw),(78,0,JS),(51,0,Ct),(35,0,BD)] [(27,⟨Int,BE⟩)] (fun x=>[]) Tryz.func50 ⟨NR,JP,a3j,Ky,JQ,trivial⟩ (fun x=>True∧cA Dh [srd x.1 (xg x),.q 1] fun x_1 y=>cA Cw [srd x_1.1 (Bi x_1.1.sg (xh x_1) (Z5 x_1)),.str #[(61:UInt8)].toList] fun x_2 y=>Ae (isG x_2.1.sg (xh x_2) (4:Int) (Z5 x_2)) (cA JS [srd x_2.1 (AA x_2.1.sg (xh x_2) (Z5 x_2))] fun x_3 y=>∃(x_4:Int),y.1=x_4∧∃(zs:Ad),An [x_4]=An zs∧Ca BE∧Bb ((0:Nat)+zs.length) (8:Nat)∧cA Ct [srd x_3.1 (yG y.2),.str #[(59:UInt8)].toList] fun x_5 y=>cA BD [srd x_5.1 (Ax x_5.1.sg (xh x_5) (Z5 x_5)),.q 12,.str (BK x_1.1.sg (xh x_1) (Z5 x_1)),An ([]++zs)] fun x_6 y=>rA IX x [.q (AQ (xh x_6)),srd x_6.1 (Av (xh x_6) {kind:=(G5 x_6),text:=(G6 x_6),kids:=(Z7 x_6),blank:=false})]) (cA Ct [srd x_2.1 (AA x_2.1.sg (xh x_2) (Z5 x_2)),.str #[(59:UInt8)].toList] fun x_3 y=>cA BD [srd x_3.1 (Ax x_3.1.sg (xh x_3) (Z5 x_3)),.q 12,.str (BK x_1.1.sg (xh x_1) (Z5 x_1)),An []] fun x_4 y=>rA IX x [.q (AQ (xh x_4)),srd x_4.1 (Av (xh x_4) {kind:=(G5 x_4),text:=(G6 x_4),kids:=(Z7 x_4),blank:=false})])) (by kernel_rfl) fun(x:ST×Int×Int×Bool×List Nd) (hx:okQ x.1 (xg x))=>(by
 dsimp only[G5,G6,Z5,Z7,cA,Ce,An,BJ,rA,Cw,BD,Dh,JS,IX,Ct,CD,sgs,srd,AB,AF,mvL,lnL,mvE,lnE,AV.q]
 obtain⟨s,p,d,b,ns⟩:=x;dsimp only[xg,xh] at hx ⊢
 have hx:okQ s ⟨p,d,b,ns⟩:=hx
 have hD:=FY hx;have hM:=RR hx;have h1:=hD.1
 (repeat' first|(with_reducible first|rfl|exact⟨⟩|apply AG|apply AM)|apply AL|(apply AK<;>try dsimp only)|apply AJ|((try refine AH.2 ?_);intro _;try dsimp only))
 all_goals(try dsimp only[xg,xh,yG,yS,iG,iF] at*)
 all_goals(try simp only[Ic] at*)
 all_goals first
  |rfl
  |exact h1
  |omega
  |exact(a3t hx).1
  |exact(a3t hx).2
  |exact FY (c4l hx ‹_›)
  |exact hM
  |exact GS h1 ‹_›
  |exact(IV (GS h1 ‹_›)).1
  |exact(IV (a3t hx).2).1
  |exact c4m hx ‹_› ‹_›
  |exact c4n hx ‹_›
  |(simp [Bb];done)
  |skip)
def Pz:Sig:=⟨ST×Int×Int×Bool×List Nd,fun x=>[srd x.1 (xg x)],fun x=>okQ x.1 (xg x),Int×Int×Int×Bool×List Nd,fun x y=>BU x.1.sg (xg x) (Ez x.1.sg) (yS y),fun x y=> .q y.1,fun x y=>[srd x.1 (yG y.2)],true,[],[]⟩
theorem c4M:CtG G 95 Pz:=
 vFq [(78,0,JS),(51,0,Ct)] [] (fun x=>[]) Tryz.func95 ⟨a3j,Ky,trivial⟩ (fun x=>True∧cA Ct [srd x.1 (xg x),.str #[(40:UInt8)].toList] fun x_1 y=>cA JS [srd x_1.1 (Ax x_1.1.sg (xh x_1) (Z5 x_1))] fun x_2 y=>cA Ct [srd x_2.1 (yG y.2),.str #[(41:UInt8)].toList] fun x_3 y_1=>rA Pz x [.q y.1,srd x_3.1 (Ax x_3.1.sg (xh x_3) (Z5 x_3))]) (by kernel_rfl) fun(x:ST×Int×Int×Bool×List Nd) (hx:okQ x.1 (xg x))=>(by
 dsimp only[Z5,cA,Ce,BJ,rA,Pz,JS,Ct,CD,sgs,srd,AB,AF,mvL,lnL,mvE,lnE,AV.q]
 obtain⟨s,p,d,b,ns⟩:=x;dsimp only[xg,xh] at hx ⊢
 have hx:okQ s ⟨p,d,b,ns⟩:=hx
 have hD:=FY hx;have hM:=RR hx;have h1:=hD.1
 have t:=IV (m:=[40]) h1;have hd:=hD.2;dsimp only at hd
 (repeat' first|(with_reducible first|rfl|exact⟨⟩|apply AG|apply AM)|apply AL|(apply AK<;>try dsimp only)|apply AJ|((try refine AH.2 ?_);intro _;try dsimp only))
 all_goals(try dsimp only[xg,xh,yG,yS,iG,iF] at*)
 all_goals(try simp only[Ic] at*)
 all_goals first
  |rfl
  |exact h1
  |exact t.1
  |exact hM
  |exact⟨t.1,by rw[t.2];exact hd⟩
  |exact GS h1 ‹_›
  |exact c1z h1.2 ‹_›
  |skip)
def MD(n:Nat):Sig:=⟨ST×Int×Int×Bool×List Nd,fun x=>[srd x.1 (xg x)],fun x=>okQ x.1 (xg x)∧20-(xg x).deep≤(n:Int),Int×Int×Int×Bool×List Nd,fun x y=>Ag x.1.sg (xg x) (Cf x.1.sg (stR x.1.sg n)) (yS y),fun x y=> .q y.1,fun x y=>[srd x.1 (yG y.2)],true,[],[]⟩
def RU(n:Nat)(x:ST×Int×Int×Bool×List Nd):LS:=⟨Int×Int×Bool×List Nd×Ad×Nat,fun i=>mbS x.1.sg n (xg x) (iG i) i.2.2.2.2.1 i.2.2.2.2.2,fun i=>[(0,srd x.1 (iG i)),(3,An i.2.2.2.2.1)],[],fun i=>i.2.2.2.2.2,fun _=>[],[]⟩
def a3y(n:Nat)(x:ST×Int×Int×Bool×List Nd):Prop:=∀(i:Int×Int×Bool×List Nd×Ad×Nat),mbS x.1.sg n (xg x) (iG i) (G4 i) (Z5 i)→Ae (!(iG i).bad) (cA Cw [srd x.1 (iG i),.str #[(125:UInt8)].toList] fun x_2 y=>Ae (!isG x_2.1.sg (xh x_2) (4:Int) (Z5 x_2)) (cA Ig [srd x_2.1 (AA x_2.1.sg (xh x_2) (Z5 x_2))] fun x_3 y=>Ae (blG x_3.1.sg (xg x_3)) (cA (Py n) [srd x_3.1 (xg x_3)] fun x_4 y=>cA GA [srd x_4.1 (yG y.2),.q y.1,.bool (decide ((nL (G4 i))>(0:Int)))] fun x_5 y_1=>∃(x_6:Int),y.1=x_6∧(∃(zs:Ad),An [x_6]=An zs∧(Ca BE∧(Bb ((G4 i).length+zs.length) (8:Nat)∧eN (RU n x) i [srd x_5.1 (gBl (xh x_5) (G5 x_5) (Z6 x_5)),An ((G4 i)++zs)])))) (cA (Py n) [srd x_3.1 (xg x_3)] fun x_4 y=>cA GA [srd x_4.1 (yG y.2),.q y.1,.bool false] fun x_5 y_1=>∃(x_6:Int),y.1=x_6∧(∃(zs:Ad),An [x_6]=An zs∧(Ca BE∧(Bb ((G4 i).length+zs.length) (8:Nat)∧eN (RU n x) i [srd x_5.1 (gBl (xh x_5) (G5 x_5) (Z6 x_5)),An ((G4 i)++zs)]))))) (inR .i64 ((AA x_2.1.sg (xh x_2) (Z5 x_2)).deep-1)∧(cA BD [.box 0 [sgs x_2.1.sg,.q (AA x_2.1.sg (xh x_2) (Z5 x_2)).pos,.bool (AA x_2.1.sg (xh x_2) (Z5 x_2)).bad,.q ((AA x_2.1.sg (xh x_2) (Z5 x_2)).deep-1),BJ (AA x_2.1.sg (xh x_2) (Z5 x_2)).nodes],.q 18,.str #[].toList,An (G4 i)] fun x_3 y=>rA (MD n) x [.q (AQ (xh x_3)),srd x_3.1 (Av (xh x_3) {kind:=(G5 x_3),text:=(G6 x_3),kids:=(Z7 x_3),blank:=false})]))) (inR .i64 ((iG i).deep-1)∧(cA BD [.box 0 [sgs x.1.sg,.q (iG i).pos,.bool (iG i).bad,.q ((iG i).deep-1),BJ (iG i).nodes],.q 18,.str #[].toList,An (G4 i)] fun x_2 y=>rA (MD n) x [.q (AQ (xh x_2)),srd x_2.1 (Av (xh x_2) {kind:=(G5 x_2),text:=(G6 x_2),kids:=(Z7 x_2),blank:=false})]))
theorem b1a(n:Nat)(h:CtG G 79 (Py n)):CtG G 54 (MD n):=
 vFq [(51,0,Ct),(52,0,Cw),(32,0,Ig),(79,0,(Py n)),(34,0,GA),(35,0,BD)] [(27,⟨Int,BE⟩)] (fun x=>[(6,RU n x)]) Tryz.func54 ⟨Ky,JP,XH,h,XI,JQ,trivial⟩ (fun x=>True∧cA Ct [srd x.1 (xg x),.str #[(123:UInt8)].toList] fun x_1 y=>inR .i64 ((Ax x_1.1.sg (xh x_1) (Z5 x_1)).deep+1)∧Ae (decide ((Ax x_1.1.sg (xh x_1) (Z5 x_1)).deep+1>(20:Int))) (eA (RU n x) [.box 0 [sgs x_1.1.sg,.q (Ax x_1.1.sg (xh x_1) (Z5 x_1)).pos,.bool true,.q ((Ax x_1.1.sg (xh x_1) (Z5 x_1)).deep+1),BJ (Ax x_1.1.sg (xh x_1) (Z5 x_1)).nodes],An []]∧(a3y n x)) (eA (RU n x) [.box 0 [sgs x_1.1.sg,.q (Ax x_1.1.sg (xh x_1) (Z5 x_1)).pos,.bool (Ax x_1.1.sg (xh x_1) (Z5 x_1)).bad,.q ((Ax x_1.1.sg (xh x_1) (Z5 x_1)).deep+1),BJ (Ax x_1.1.sg (xh x_1) (Z5 x_1)).nodes],An []]∧(a3y n x))) (by kernel_rfl) fun(x:ST×Int×Int×Bool×List Nd) (hx:okQ x.1 (xg x)∧20-(xg x).deep≤(n:Int))=>(by
 dsimp only[nL,G4,G5,G6,Z5,Z6,Z7,a3y,cA,eA,eN,RU,Ce,An,BJ,rA,Ig,GA,MD,Cw,BD,Py,Ct,CD,sgs,srd,AB,AF,mvL,lnL,mvE,lnE,Bn,AV.q]
 obtain⟨s,p,d,b,ns⟩:=x;dsimp only[xg,xh] at hx ⊢
 obtain⟨hx,hn⟩:=hx
 have hx:okQ s ⟨p,d,b,ns⟩:=hx
 have hD:=FY hx;have hM:=RR hx;have h1:=hD.1
 have td:=c4q hx
 (repeat' first|(with_reducible first|rfl|exact⟨⟩|apply AG|apply AM)|apply AL|(apply AK<;>try dsimp only)|apply AJ|((try refine AH.2 ?_);intro _;try dsimp only))
 all_goals(try dsimp only[xg,xh,yG,yS,iG,iF] at*)
 all_goals(try simp only[Ic] at*)
 all_goals first
  |(show Nat;skip)
  |rfl
  |exact h1
  |exact c4o hx ‹_›
  |exact c4p hx ‹_›
  |exact XX hx ‹_›
  |exact Hl (XX hx ‹_›)
  |exact(a3u hx hn ‹_› ‹_› ‹_›).1
  |exact(a3u hx hn ‹_› ‹_› ‹_›).2.1
  |exact(a3u hx hn ‹_› ‹_› ‹_›).2.2
  |exact GS h1 ‹_›
  |exact RQ a3o ‹_›
  |exact RQ a3o ‹_› ‹_›
  |exact(XY ‹_› ‹_› ‹_› ‹_› (NN ‹_›)).1
  |exact(XY ‹_› ‹_› ‹_› ‹_› (NO ‹_›)).1
  |exact c4r hx ‹_› ‹_›
  |exact c4s hx ‹_› ‹_›
  |exact(a3w hx ‹_›).2.1
  |exact(a3w hx ‹_›).2.2.1
  |(simp [Bb];done)
  |(have hq:=a3v hx ‹mbS _ _ _ _ _ _›;(try simp only[Bb,Ba,AE,AX]);omega)
  |(have hq:=a3w hx ‹mbS _ _ _ _ _ _›;(try dsimp only at hq);(try simp only[Aw]);omega)
  |((try simp only[Aw]);omega)
  |skip
 all_goals first
  |exact(XY ‹_› ‹_› ‹_› ‹_› (NN ‹_›)).2
  |exact(XY ‹_› ‹_› ‹_› ‹_› (NO ‹_›)).2
  |skip)
def KE(n:Nat):Sig:=⟨ST×Int×Int×Bool×List Nd,fun x=>[srd x.1 (xg x)],fun x=>(okQ x.1 (xg x)∧(xg x).bad=false)∧21-(xg x).deep≤(n+1:Nat),Int×Int×Int×Bool×List Nd,fun x y=>Ag x.1.sg (xg x) (stR x.1.sg (n+1) false) (yS y),fun x y=> .int .i64 y.1,fun x y=>[srd x.1 (yG y.2)],true,[],[]⟩
def UI(n:Nat)(x:ST×Int×Int×Bool×List Nd)(x_5:FX.X):Prop:=cA JS [srd x_5.1 (Cc x_5.1.sg (xh x_5) (Z5 x_5))] fun x_7 y=>cA Ct [srd x_7.1 (yG y.2),.str #[(59:UInt8)].toList] fun x_8 y_1=>∃(x_9:Int),y.1=x_9∧(cA BD [srd x_8.1 (Ax x_8.1.sg (xh x_8) (Z5 x_8)),.int .i64 14,.str #[].toList,An [x_9]] fun x_10 y=>rA (KE n) x [.int .i64 (AQ (xh x_10)),srd x_10.1 (Av (xh x_10) {kind:=(G5 x_10),text:=(G6 x_10),kids:=(Z7 x_10),blank:=false})])
theorem c4N(n:Nat)(h:CtG G 79 (Py n)):CtG G 79 (KE n):=
 vFq [(47,0,Lu),(48,0,Dh),(35,0,BD),(49,0,FX),(50,0,IX),(77,0,Fs),(78,0,JS),(51,0,Ct),(95,0,Pz),(54,0,(MD n))] [(27,⟨Int,BE⟩)] (fun x=>[]) Tryz.func79 ⟨c4L,NR,JQ,a2N,a3x,UD,a3j,Ky,c4M,(b1a n h),trivial⟩ (fun x=>True∧cA Lu [srd x.1 (xg x),.int .i64 5] fun x_1 y=>Ae (kdG x_1.1.sg (xh x_1) (Z5 x_1)) (cA Dh [srd x.1 (xg x),.int .i64 5] fun x_2 y=>cA BD [srd x_2.1 (Bi x_2.1.sg (xh x_2) (Z5 x_2)),.int .i64 19,.str (BK x_2.1.sg (xh x_2) (Z5 x_2)),An []] fun x_3 y=>rA (KE n) x [.int .i64 (AQ (xh x_3)),srd x_3.1 (Av (xh x_3) {kind:=(G5 x_3),text:=(G6 x_3),kids:=(Z7 x_3),blank:=false})]) (cA FX [srd x.1 (xg x),.str #[(118:UInt8),97,114].toList] fun x_2 y=>Ae (isG x_2.1.sg (xh x_2) (1:Int) (Z5 x_2)) (cA IX [srd x_2.1 (Cc x_2.1.sg (xh x_2) (Z5 x_2))] fun x_3 y=>rA (KE n) x [.int .i64 y.1,srd x_3.1 (yG y.2)]) (cA FX [srd x_2.1 (Cc x_2.1.sg (xh x_2) (Z5 x_2)),.str #[(114:UInt8),101,116,117,114,110].toList] fun x_3 y=>Ae (isG x_3.1.sg (xh x_3) (1:Int) (Z5 x_3)) (cA Fs [srd x_3.1 (Cc x_3.1.sg (xh x_3) (Z5 x_3)),.int .i64 4,.str #[(59:UInt8)].toList] fun x_4 y=>Ae (!isG x_4.1.sg (xh x_4) (G5 x_4) (Z6 x_4)) (cA JS [srd x_4.1 (xh x_4)] fun x_5 y=>∃(x_6:Int),y.1=x_6∧∃(zs:Ad),An [x_6]=An zs∧Ca BE∧Bb ((0:Nat)+zs.length) (8:Nat)∧cA Ct [srd x_5.1 (yG y.2),.str #[(59:UInt8)].toList] fun x_7 y=>cA BD [srd x_7.1 (Ax x_7.1.sg (xh x_7) (Z5 x_7)),.int .i64 15,.str #[].toList,An ([]++zs)] fun x_8 y=>rA (KE n) x [.int .i64 (AQ (xh x_8)),srd x_8.1 (Av (xh x_8) {kind:=(G5 x_8),text:=(G6 x_8),kids:=(Z7 x_8),blank:=false})]) (cA Ct [srd x_4.1 (xh x_4),.str #[(59:UInt8)].toList] fun x_5 y=>cA BD [srd x_5.1 (Ax x_5.1.sg (xh x_5) (Z5 x_5)),.int .i64 15,.str #[].toList,An []] fun x_6 y=>rA (KE n) x [.int .i64 (AQ (xh x_6)),srd x_6.1 (Av (xh x_6) {kind:=(G5 x_6),text:=(G6 x_6),kids:=(Z7 x_6),blank:=false})])) (cA FX [srd x_3.1 (Cc x_3.1.sg (xh x_3) (Z5 x_3)),.str #[(105:UInt8),102].toList] fun x_4 y=>Ae (isG x_4.1.sg (xh x_4) (1:Int) (Z5 x_4)) (cA Pz [srd x_4.1 (Cc x_4.1.sg (xh x_4) (Z5 x_4))] fun x_5 y=>∃(x_6:Int),y.1=x_6∧cA (MD n) [srd x_5.1 (yG y.2)] fun x_7 y=>∃(x_8:Int),y.1=x_8∧∃(zs:Ad),An [x_8]=An zs∧Ca BE∧Bb (List.length [x_6]+zs.length) (8:Nat)∧cA FX [srd x_7.1 (yG y.2),.str #[(101:UInt8),108,115,101].toList] fun x_9 y=>Ae (isG x_9.1.sg (xh x_9) (1:Int) (Z5 x_9)) (cA (MD n) [srd x_9.1 (Cc x_9.1.sg (xh x_9) (Z5 x_9))] fun x_10 y=>∃(x_11:Int),y.1=x_11∧∃(zs_1:Ad),An [x_11]=An zs_1∧Ca BE∧Bb ((x_6::List.append._f [] PUnit.unit zs).length+zs_1.length) (8:Nat)∧cA BD [srd x_10.1 (yG y.2),.int .i64 16,.str #[].toList,An (x_6::List.append._f [] PUnit.unit zs++zs_1)] fun x_12 y=>rA (KE n) x [.int .i64 (AQ (xh x_12)),srd x_12.1 (Av (xh x_12) {kind:=(G5 x_12),text:=(G6 x_12),kids:=(Z7 x_12),blank:=false})]) (cA BD [srd x_9.1 (Cc x_9.1.sg (xh x_9) (Z5 x_9)),.int .i64 16,.str #[].toList,An ([x_6]++zs)] fun x_10 y=>rA (KE n) x [.int .i64 (AQ (xh x_10)),srd x_10.1 (Av (xh x_10) {kind:=(G5 x_10),text:=(G6 x_10),kids:=(Z7 x_10),blank:=false})])) (cA FX [srd x_4.1 (Cc x_4.1.sg (xh x_4) (Z5 x_4)),.str #[(119:UInt8),104,105,108,101].toList] fun x_5 y=>Ae (isG x_5.1.sg (xh x_5) (1:Int) (Z5 x_5)) (cA Pz [srd x_5.1 (Cc x_5.1.sg (xh x_5) (Z5 x_5))] fun x_6 y=>∃(x_7:Int),y.1=x_7∧cA (MD n) [srd x_6.1 (yG y.2)] fun x_8 y=>∃(x_9:Int),y.1=x_9∧∃(zs:Ad),An [x_9]=An zs∧Ca BE∧Bb (List.length [x_7]+zs.length) (8:Nat)∧cA BD [srd x_8.1 (yG y.2),.int .i64 17,.str #[].toList,An ([x_7]++zs)] fun x_10 y=>rA (KE n) x [.int .i64 (AQ (xh x_10)),srd x_10.1 (Av (xh x_10) {kind:=(G5 x_10),text:=(G6 x_10),kids:=(Z7 x_10),blank:=false})]) (true=true∧true=true∧∃(x_6:ST×Int×Int×Bool×List Nd×Int),(rOk x_6.1 (xh x_6)∧(Z5 x_6)≠(0:Int))∧AV.pf [AV.sl false 0 4 Sg (fun(x:Sg)=>fzL (sgA x)) x_5.1.sg,.int .i64 (Cc x_5.1.sg (xh x_5) (Z5 x_5)).pos,.bool (Cc x_5.1.sg (xh x_5) (Z5 x_5)).bad,.int .i64 (Cc x_5.1.sg (xh x_5) (Z5 x_5)).deep,AV.sl false 0 4 Nd (fun(x:Nd)=>fzL (ndA true x)) (Cc x_5.1.sg (xh x_5) (Z5 x_5)).nodes]=AV.pf [sgs x_6.1.sg,.int .i64 (xh x_6).pos,.bool (xh x_6).bad,.int .i64 (xh x_6).deep,nds (xh x_6).nodes]∧1=(Z5 x_6)∧∃(y0:Unit),(∀(y:Unit),True→AV.bool (kdG x_6.1.sg (xh x_6) (Z5 x_6))=AV.bool (kdG x_6.1.sg (xh x_6) (Z5 x_6)))∧true=true∧Ae (kdG x_6.1.sg (xh x_6) (Z5 x_6)) (inR .i64 ((Cc x_5.1.sg (xh x_5) (Z5 x_5)).pos+1)∧Ae (decide ((Cc x_5.1.sg (xh x_5) (Z5 x_5)).pos+1<(nL x_5.1.sg))) (inR .i64 ((Cc x_5.1.sg (xh x_5) (Z5 x_5)).pos+1)∧(0≤(Cc x_5.1.sg (xh x_5) (Z5 x_5)).pos+1∧(Cc x_5.1.sg (xh x_5) (Z5 x_5)).pos+1<(nL x_5.1.sg))∧∀(e:Sg),x_5.1.sg[Int.toNat ((Cc x_5.1.sg (xh x_5) (Z5 x_5)).pos+1)]? =some e→Ae (e.kind==4) (inR .i64 ((Cc x_5.1.sg (xh x_5) (Z5 x_5)).pos+1)∧(0≤(Cc x_5.1.sg (xh x_5) (Z5 x_5)).pos+1∧(Cc x_5.1.sg (xh x_5) (Z5 x_5)).pos+1<(nL x_5.1.sg))∧∀(e:Sg),x_5.1.sg[Int.toNat ((Cc x_5.1.sg (xh x_5) (Z5 x_5)).pos+1)]? =some e→Ae (e.text== #[(61:UInt8)].toList) (cA Dh [srd x_5.1 (Cc x_5.1.sg (xh x_5) (Z5 x_5)),.int .i64 1] fun x_7 y=>cA Ct [srd x_7.1 (Bi x_7.1.sg (xh x_7) (Z5 x_7)),.str #[(61:UInt8)].toList] fun x_8 y=>cA JS [srd x_8.1 (Ax x_8.1.sg (xh x_8) (Z5 x_8))] fun x_9 y=>cA Ct [srd x_9.1 (yG y.2),.str #[(59:UInt8)].toList] fun x_10 y_1=>∃(x_11:Int),y.1=x_11∧cA BD [srd x_10.1 (Ax x_10.1.sg (xh x_10) (Z5 x_10)),.int .i64 13,.str (BK x_7.1.sg (xh x_7) (Z5 x_7)),An [x_11]] fun x_12 y=>rA (KE n) x [.int .i64 (AQ (xh x_12)),srd x_12.1 (Av (xh x_12) {kind:=(G5 x_12),text:=(G6 x_12),kids:=(Z7 x_12),blank:=false})]) (UI n x x_5)) (UI n x x_5)) (UI n x x_5)) (UI n x x_5))))))) (by kernel_rfl) fun(x:ST×Int×Int×Bool×List Nd) (hx:(okQ x.1 (xg x)∧(xg x).bad=false)∧21-(xg x).deep≤(n+1:Nat))=>(by
 dsimp only[nL,G5,G6,Z5,Z6,Z7,UI,cA,Ce,nds,An,BJ,rA,MD,Pz,Fs,Lu,BD,KE,Dh,JS,IX,Ct,FX,CD,sgs,srd,srf,AB,AF,mvL,lnL,mvE,lnE]
 obtain⟨s,p,d,b,ns⟩:=x;dsimp only[xg,xh] at hx ⊢
 obtain⟨⟨hx,hb⟩,hd⟩:=hx
 have hx:okQ s ⟨p,d,b,ns⟩:=hx
 have hD:=FY hx;have hM:=RR hx;have h1:=hD.1
 (repeat' first|(show AV.pf _=AV.pf _;first|exact b0Z|(with_unfolding_all exact b0Z)|(with_unfolding_all rfl))|(with_reducible first|rfl|exact⟨⟩|apply AG|apply AM)|apply AL|(apply AK<;>try dsimp only)|apply AJ|((try refine AH.2 ?_);intro _;try dsimp only))
 all_goals(try dsimp only[xg,xh,yG,yS,iG,iF] at*)
 all_goals(try simp only[Ic] at*)
 all_goals(try(have e:=MB ‹isG s.sg ⟨p,d,b,ns⟩ 1 [118,97,114]=false›;simp only[e] at*))
 all_goals(try(have e:=MC ‹isG s.sg ⟨p,d,b,ns⟩ 1 [118,97,114]=true›;simp only[e] at*))
 all_goals(try(have e:=MB ‹isG s.sg ⟨p,d,b,ns⟩ 1 [114,101,116,117,114,110]=false›;simp only[e] at*))
 all_goals(try(have e:=MC ‹isG s.sg ⟨p,d,b,ns⟩ 1 [114,101,116,117,114,110]=true›;simp only[e] at*))
 all_goals(try(have e:=MB ‹isG s.sg ⟨p,d,b,ns⟩ 1 [105,102]=false›;simp only[e] at*))
 all_goals(try(have e:=MC ‹isG s.sg ⟨p,d,b,ns⟩ 1 [105,102]=true›;simp only[e] at*))
 all_goals(try(have e:=MB ‹isG s.sg ⟨p,d,b,ns⟩ 1 [119,104,105,108,101]=false›;simp only[e] at*))
 all_goals(try(have e:=MC ‹isG s.sg ⟨p,d,b,ns⟩ 1 [119,104,105,108,101]=true›;simp only[e] at*))
 all_goals first
  |rfl
  |exact h1
  |exact hM
  |omega
  |(simp;done)
  |exact c4t hx ‹_›
  |exact JR h1 (by omega)
  |exact Ij hx ‹_›
  |exact FY (Ij hx ‹_›)
  |exact(FY (Ij hx ‹_›)).1
  |exact c4u hx ‹_› ‹_› ‹_›
  |exact c4w hx ‹_› ‹_› ‹_› ‹_› ‹_›
  |exact c4v hx ‹_› ‹_› ‹_› ‹_›
  |exact GS h1 ‹_›
  |exact(IV (GS h1 ‹_›)).1
  |exact(IV (FY (Ij hx ‹_›)).1).1
  |exact c4H hx ‹_› ‹_› ‹_› ‹_› ‹_› (c4G (x:=⟨p,d,b,ns⟩) hb ‹_› ‹_› (c4A ‹_› ‹_›) (c4C ‹_› ‹_›)) ‹_›
  |exact XZ hx ‹_› ‹_› ‹_› ‹_› ‹_› (c4E ‹_›) ‹_›
  |exact XZ hx ‹_› ‹_› ‹_› ‹_› ‹_› (c4F (x:=⟨p,d,b,ns⟩) ‹_›) ‹_›
  |exact XZ hx ‹_› ‹_› ‹_› ‹_› ‹_› (b0U (x:=⟨p,d,b,ns⟩) hb ‹_› (.inl (c4B ‹_› ‹_›))) ‹_›
  |exact XZ hx ‹_› ‹_› ‹_› ‹_› ‹_› (b0U (x:=⟨p,d,b,ns⟩) hb ‹_› (.inr (c4D ‹_› ‹_›))) ‹_›
  |(have hq:=IQ h1;dsimp only at hq;(try simp only[Aw]);omega)
  |exact(b0V hx).1
  |exact FY (b0V hx).2
  |exact hD
  |(simp [Bb];done)
  |exact(show Bb 2 8 by simp [Bb])
  |exact(show Bb 3 8 by simp [Bb])
  |skip
 all_goals(try(have hc:= ‹BU s.sg (Au ⟨p,d,b,ns⟩) (Ez s.sg) _›;have k0:=Ij hx ‹isG s.sg ⟨p,d,b,ns⟩ 1 _=true›;have k1:=c4I k0 hc;have k2:=c4J (n:=n) (x:=⟨p,d,b,ns⟩) hd hc))
 all_goals first
  |exact k1
  |exact k2
  |exact(FY (RT k1 ‹_›)).1
  |exact b0X (FY (RT k1 ‹_›)).1
  |exact Ij (RT k1 ‹_›) ‹_›
  |exact b0Y (RT k1 ‹_›)
  |(have hh:=c4K (m:=[101,108,115,101]) k2 ‹Ag s.sg _ (Cf s.sg _) _›;exact hh)
  |exact GS h1 ‹_›
  |exact c4x hx ‹_› ‹_› ‹_› ‹_› ‹_› ‹_› ‹_›
  |exact c4y hx ‹_› ‹_› ‹_› ‹_› ‹_› ‹_› ‹_› ‹_›
  |exact c4z hx ‹_› ‹_› ‹_› ‹_› ‹_› ‹_› ‹_›
  |exact(FY (RT (b0Y (RT k1 ‹_›)) ‹_›)).1
  |exact h1
  |skip)
end Go.My
end
section
namespace Go.My
open Go.Eng Go.Proofs
variable {G:GInv}
variable {N:Nat}{ks:Ad}{s:ST}{x y:Gs}{z:Int×Gs}
theorem c4O(n:Nat):CtG G 79 (Py n):=by
 induction n with
 |zero=>exact Pq Tryz.func79 rfl (by decide) (fun x h=>by have h1:=h.1.1.1.2;have h2:=h.2;omega)
 |succ n ih=>exact c4N n ih
def PA:Sig:=⟨ST×Int×Int×Bool×List Nd,fun x=>[srd x.1 (xg x)],fun x=>okQ x.1 (xg x),Int×Int×Int×Bool×List Nd,fun x y=>Ag x.1.sg (xg x) (Hi x.1.sg) (yS y),fun x y=> .int .i64 y.1,fun x y=>[srd x.1 (yG y.2)],true,[],[]⟩
theorem b1b{g:Gs}(h:okQ s g):okQ s g∧20-g.deep≤(stN:Int):=by
 have h1:=h.1.1.2.2.1.1
 exact⟨h,by unfold stN;omega⟩
theorem b1c:CtG G 54 PA:=
 have c:=b1a (G:=G) stN (c4O stN)
 ⟨⟨c.1.1,fun x y hx hy=>c.1.2 x y (b1b hx) hy⟩,fun x hx=>c.2 x (b1b hx)⟩
theorem b1d{v:Ad×Gs}(h:okQ s x)(hv:vlQ s.sg (Cn s.sg) [41] [] (Ax s.sg (Bi s.sg x 1) [40]) v):okQ s v.2:=by
 have a:=IV (m:=[40]) (JR (k:=1) h.1.1 (by omega))
 have e:(Bi s.sg x 1).deep=x.deep:=by unfold Bi;split<;>rfl
 obtain⟨b1,b2,b3,b4⟩:=a2V h.1.1.1 hv
 exact⟨⟨b1,by have:=h.1.2;omega⟩,h.2⟩
theorem b1e{v:Ad×Gs}{q:Int×Gs}(h:okQ s x)(hv:vlQ s.sg (Cn s.sg) [41] [] (Ax s.sg (Bi s.sg x 1) [40]) v)(hq:Ag s.sg v.2 (Hi s.sg) q):
 Ag s.sg x (HI s.sg false) (AQ q.2,Av q.2 ⟨20,BK s.sg x 1,v.1++[q.1],false⟩):=by
 rw[KA.1] at hv;rw[KA.2]
 obtain⟨l,⟨a,b⟩,rfl⟩:=hv
 exact c1N (l:=l) h.1.1.1 h.1.1.2 a b hq
def clS(sg:List Sg)(x y:Gs)(ks:Ad)(N:Nat):Prop:=NM sg (Ed sg) [125] (Ax sg (Bi sg (Au x) 1) [123]) y ks N∧y.deep=x.deep
theorem b1f(h:okQ s (Au x)):clS s.sg x (Ax s.sg (Bi s.sg (Au x) 1) [123]) [] (s.sg.length+1):=by
 have a:=JR (k:=1) h.1.1 (by omega)
 refine⟨a9Q (IV a).1.2,?_⟩
 rw[(IV a).2];unfold Bi;split<;>rfl
theorem c4P(h:okQ s x)(h1:isG s.sg x 1 [118,97,114]=false)(h2:isG s.sg (Cc s.sg x [118,97,114]) 1 [99,108,97,115,115]=true):
 clS s.sg x (Ax s.sg (Bi s.sg (Cc s.sg (Cc s.sg x [118,97,114]) [99,108,97,115,115]) 1) [123]) [] (s.sg.length+1):=by
 rw[MB h1] at h2 ⊢
 rw[MC h2];exact b1f (Ij h h2)
theorem c4Q(h:okQ s (Au x)):rOk s (Bi s.sg (Au x) 1)∧rOk s (Ax s.sg (Bi s.sg (Au x) 1) [123]):=
 have a:=JR (k:=1) h.1.1 (by omega)
 ⟨a,(IV a).1⟩
theorem a3z(h:okQ s (Au x))(hj:clS s.sg x y ks N):okQ s y:=⟨⟨⟨h.1.1.1,hj.1.1.1⟩,by have:=hj.2;have:=h.1.2;simp only[Au] at*;omega⟩,h.2⟩
theorem b1g(h:okQ s (Au x))(hj:clS s.sg x y ks N)(hb:y.bad=false)(hq:isG s.sg y 4 [125]=false):okQ s (AA s.sg y [125])∧(AA s.sg y [125]).bad=false:=by
 rw[EL hq];exact⟨a3z h hj,hb⟩
theorem a3A(h:okQ s (Au x))(hj:clS s.sg x y ks N):ks.length≤3001:=by
 have:=hj.1.2.2.1;have:=hj.1.1.1.1;have:=h.1.1.1.1;omega
theorem NU{b:Bool}(hj:clS s.sg x y ks N)(hb:y.bad=false)(hq:isG s.sg y 4 [125]=false)(hz:Ag s.sg (AA s.sg y [125]) (Ed s.sg false) z)(e:b=(blG s.sg (AA s.sg y [125])&&decide (0<(ks.length:Int)))):
 clS s.sg x (gBl z.2 z.1 b) (ks++[z.1]) (N-1)∧N-1<N:=by
 rw[EL hq] at hz e
 rw[a3s hb] at e
 have hz2:Ag s.sg y (Ed s.sg b) (z.1,gBl z.2 z.1 b):=a3r a3p hz
 subst e
 obtain⟨a,b⟩:=RE (a9U hj.1 hb hq (z:=(z.1,gBl z.2 z.1 ((pkG s.sg y 0).blank&&decide (0<(ks.length:Int))))) (by
  have:decide (0<ks.length)=decide (0<(ks.length:Int)):=by simp
  rw[this];exact hz2))
 have:=(DG hz2).1
 exact⟨⟨a,by have:=hj.2;simp only at*;omega⟩,b⟩
theorem b1h{l:Ad×Gs}(h:okQ s (Au x))(hl:BU s.sg (Ax s.sg (Bi s.sg (Au x) 1) [123]) (Dp s.sg (Ed s.sg) [125] (s.sg.length+1) []) l)(hll:l.1.length≤3001):
 Ag s.sg (Au x) (IP s.sg false) (AQ (Ax s.sg l.2 [125]),Av (Ax s.sg l.2 [125]) ⟨21,BK s.sg (Au x) 1,l.1,false⟩):=by
 rw[KA.1] at hl;rw[KA.2]
 exact Kz hl.1 (Gz (Mu h.1.1.1) (by omega)) (c1O h.1.1.1 h.1.1.2 hl hll)
theorem c4R(h:okQ s (Au x))(hj:clS s.sg x y ks N)(hq:isG s.sg y 4 [125]=true):
 Ag s.sg (Au x) (IP s.sg false) (AQ (AA s.sg y [125]),Av (AA s.sg y [125]) ⟨21,BK s.sg (Au x) 1,ks,false⟩):=by
 rw[FW hq,←Mx hq];exact b1h (l:=(ks,y)) h (a9T hj.1 hq) (a3A h hj)
theorem c4S(h:okQ s (Au x))(hj:clS s.sg x y ks N)(hb:y.bad=true):
 Ag s.sg (Au x) (IP s.sg false) (AQ y,Av y ⟨21,BK s.sg (Au x) 1,ks,false⟩):=by
 have a:=b1h (l:=(ks,y)) h (a9R hj.1 hb) (a3A h hj)
 simp only[XJ hb] at a;exact a
theorem c4T(h:okQ s x)(hk:kdG s.sg x 5=true):Ag s.sg x (Ed s.sg false) (AQ (Bi s.sg x 5),Av (Bi s.sg x 5) ⟨19,BK s.sg x 5,[],false⟩):=by
 have hn:=hk
 rw[UE (by omega)] at hn
 exact RM h.1.1.1 h.1.1.2 (by omega) hk (c1P h.1.1.1 h.1.1.2 (by simpa using hn))
theorem c4U(h:okQ s x)(hk:kdG s.sg x 5=true):Ag s.sg x (Er s.sg false) (AQ (Bi s.sg x 5),Av (Bi s.sg x 5) ⟨19,BK s.sg x 5,[],false⟩):=by
 have hn:=hk
 rw[UE (by omega)] at hn
 exact RM h.1.1.1 h.1.1.2 (by omega) hk (c1S h.1.1.1 h.1.1.2 (by simpa using hn))
theorem c4V(h:okQ s x)(hk:kdG s.sg x 5=false)(hq:isG s.sg x 1 [118,97,114]=true)(hz:Ag s.sg (Au x) (Eq s.sg false) z):Ag s.sg x (Ed s.sg false) z:=c1Q h.1.1.2 (IW hk) hq hz
theorem c4W(h:okQ s x)(hk:kdG s.sg x 5=false)(hq:isG s.sg x 1 [118,97,114]=true)(hz:Ag s.sg (Au x) (Eq s.sg false) z):Ag s.sg x (Er s.sg false) z:=c1T h.1.1.2 (IW hk) hq hz
theorem c4X(h:okQ s x)(hk:kdG s.sg x 5=false)(hq:isG s.sg x 1 [118,97,114]=false)(hz:Ag s.sg x (HI s.sg false) z):Ag s.sg x (Ed s.sg false) z:=c1R h.1.1.2 (IW hk) hq hz
theorem c4Y(h:okQ s x)(hk:kdG s.sg x 5=false)(h1:isG s.sg x 1 [118,97,114]=false)(hq:isG s.sg x 1 [99,108,97,115,115]=false)(hz:Ag s.sg x (HI s.sg false) z):Ag s.sg x (Er s.sg false) z:=c1V h.1.1.2 (IW hk) h1 hq hz
theorem b1i(h:okQ s x)(hk:kdG s.sg x 5=false)(h1:isG s.sg x 1 [118,97,114]=false)(hq:isG s.sg x 1 [99,108,97,115,115]=true)(hz:Ag s.sg (Au x) (IP s.sg false) z):Ag s.sg x (Er s.sg false) z:=c1U h.1.1.2 (IW hk) h1 hq hz
def b1j:Sig:=⟨ST×Int×Int×Bool×List Nd,fun x=>[srd x.1 (xg x),.bool false],fun x=>False,Int×Int×Int×Bool×List Nd,fun x y=>True,fun x y=> .int .i64 y.1,fun x y=>[srd x.1 (yG y.2),.top],true,[],[]⟩
theorem c4Z:CtG G 33 b1j:=Pq Tryz.func33 rfl (by decide) (fun x h=>h)
attribute [local irreducible] pE BG DL fnR Ag BU gsOk Ax Dq Av Eh FT AA Fq FD AQ Dr pkG isG nmG kdG Bi BK Cn vlQ Cc gBl blG Eq IU Ez CE Cf stR Dp okQ sgM clS Ed Er HI IP Hi
def ME:Sig:=⟨ST×Int×Int×Bool×List Nd,fun x=>[srd x.1 (xg x),.bool false],fun x=>okQ x.1 (xg x)∧(xg x).bad=false,Int×Int×Int×Bool×List Nd,fun x y=>Ag x.1.sg (xg x) (Ed x.1.sg false) (yS y),fun x y=> .q y.1,fun x y=>[srd x.1 (yG y.2),.top],true,[],[]⟩
def c5a(x:ST×Int×Int×Bool×List Nd):LS:=⟨Int×Int×Bool×List Nd×Ad×Nat,fun i=>False,fun i=>[(0,srd x.1 (iG i)),(5,.str (BK x.1.sg (Au (xg x)) 1)),(6,An i.2.2.2.2.1)],[],fun i=>i.2.2.2.2.2,fun _=>[],[]⟩
theorem c5b:CtG G 33 ME:=
 vFq [(47,0,Ft),(48,0,Dh),(35,0,BD),(49,0,FX),(50,0,IX),(51,0,Ct),(52,0,Cw),(32,0,Ig),(33,0,b1j),(34,0,GA),(53,0,Ii),(54,0,PA)] [(27,⟨Int,BE⟩)] (fun x=>[(9,c5a x)]) Tryz.func33 ⟨XG,NR,JQ,a2N,a3x,Ky,JP,XH,c4Z,XI,a3a,b1c,trivial⟩ (fun x=>True∧cA Ft [srd x.1 (xg x),.q 5] fun x_1 y=>Ae (kdG x_1.1.sg (xh x_1) (Z5 x_1)) (cA Dh [srd x_1.1 (xh x_1),.q 5] fun x_2 y=>cA BD [srd x_2.1 (Bi x_2.1.sg (xh x_2) (Z5 x_2)),.q 19,.str (BK x_2.1.sg (xh x_2) (Z5 x_2)),An []] fun x_3 y=>rA ME x [.q (AQ (xh x_3)),srd x_3.1 (Av (xh x_3) {kind:=(G5 x_3),text:=(G6 x_3),kids:=(Z7 x_3),blank:=false}),.top]) (cA FX [srd x_1.1 (xh x_1),.str #[(118:UInt8),97,114].toList] fun x_2 y=>Ae (isG x_2.1.sg (xh x_2) (1:Int) (Z5 x_2)) (cA IX [srd x_2.1 (Cc x_2.1.sg (xh x_2) (Z5 x_2))] fun x_3 y=>rA ME x [.q y.1,srd x_3.1 (yG y.2),.top]) (cA Dh [srd x_2.1 (Cc x_2.1.sg (xh x_2) (Z5 x_2)),.q 1] fun x_3 y=>cA Ii [srd x_3.1 (Bi x_3.1.sg (xh x_3) (Z5 x_3))] fun x_4 y=>cA PA [srd x_4.1 (yG y.2)] fun x_5 y_1=>∃(x_6:Int),y_1.1=x_6∧∃(zs:Ad),An [x_6]=An zs∧Ca BE∧Bb (y.1.length+zs.length) (8:Nat)∧cA BD [srd x_5.1 (yG y_1.2),.q 20,.str (BK x_3.1.sg (xh x_3) (Z5 x_3)),An (y.1++zs)] fun x_7 y=>rA ME x [.q (AQ (xh x_7)),srd x_7.1 (Av (xh x_7) {kind:=(G5 x_7),text:=(G6 x_7),kids:=(Z7 x_7),blank:=false}),.top]))) (by kernel_rfl) fun(x:ST×Int×Int×Bool×List Nd) (hx:okQ x.1 (xg x)∧(xg x).bad=false)=>(by
 dsimp only[G5,G6,Z5,Z7,cA,Ce,An,BJ,rA,PA,Ft,ME,Ii,BD,Dh,IX,FX,CD,sgs,srd,AB,AF,mvL,lnL,mvE,lnE,AV.q]
 obtain⟨s,p,d,b,ns⟩:=x;dsimp only[xg,xh] at hx ⊢
 obtain⟨hx,hb⟩:=hx
 have hx:okQ s ⟨p,d,b,ns⟩:=hx
 have hD:=FY hx;have hM:=RR hx;have h1:=hD.1;have hs:=h1.1
 (repeat' first|(with_reducible first|rfl|exact⟨⟩|apply AG|apply AM)|apply AL|(apply AK<;>try dsimp only)|apply AJ|((try refine AH.2 ?_);intro _;try dsimp only))
 all_goals(try dsimp only[xg,xh,yG,yS,iG,iF] at*)
 all_goals(try simp only[Ic] at*)
 all_goals(try(have e:=MB ‹isG s.sg ⟨p,d,b,ns⟩ 1 [118,97,114]=false›;simp only[e] at*))
 all_goals(try(have e:=MC ‹isG s.sg ⟨p,d,b,ns⟩ 1 [118,97,114]=true›;simp only[e] at*))
 all_goals first
  |rfl
  |exact h1
  |omega
  |contradiction
  |exact c4T hx ‹_›
  |exact JR h1 (by omega)
  |exact Ij hx ‹_›
  |exact c4V hx ‹_› ‹_› ‹_›
  |exact b1d hx ‹_›
  |exact GS h1 ‹_›
  |exact c4X hx ‹_› ‹_› (b1e hx ‹_› ‹_›)
  |(have hq:=a3d hs ‹vlQ _ _ _ [] _ _›;(try simp only[Bb,Ba,AE,AX] at*);omega)
  |skip)
def KF:Sig:=⟨ST×Int×Int×Bool×List Nd,fun x=>[srd x.1 (xg x),.bool true],fun x=>okQ x.1 (xg x)∧(xg x).bad=false,Int×Int×Int×Bool×List Nd,fun x y=>Ag x.1.sg (xg x) (Er x.1.sg false) (yS y),fun x y=> .q y.1,fun x y=>[srd x.1 (yG y.2),.top],true,[],[]⟩
def UJ(x:ST×Int×Int×Bool×List Nd):LS:=⟨Int×Int×Bool×List Nd×Ad×Nat,fun i=>clS x.1.sg (xg x) (iG i) i.2.2.2.2.1 i.2.2.2.2.2,fun i=>[(0,srd x.1 (iG i)),(5,.str (BK x.1.sg (Au (xg x)) 1)),(6,An i.2.2.2.2.1)],[],fun i=>i.2.2.2.2.2,fun _=>[],[]⟩
theorem c5c:CtG G 33 KF:=
 vFq [(47,0,Ft),(48,0,Dh),(35,0,BD),(49,0,FX),(50,0,IX),(51,0,Ct),(52,0,Cw),(32,0,Ig),(33,0,ME),(34,0,GA),(53,0,Ii),(54,0,PA)] [(27,⟨Int,BE⟩)] (fun x=>[(9,UJ x)]) Tryz.func33 ⟨XG,NR,JQ,a2N,a3x,Ky,JP,XH,c5b,XI,a3a,b1c,trivial⟩ (fun x=>True∧cA Ft [srd x.1 (xg x),.q 5] fun x_1 y=>Ae (kdG x_1.1.sg (xh x_1) (Z5 x_1)) (cA Dh [srd x_1.1 (xh x_1),.q 5] fun x_2 y=>cA BD [srd x_2.1 (Bi x_2.1.sg (xh x_2) (Z5 x_2)),.q 19,.str (BK x_2.1.sg (xh x_2) (Z5 x_2)),An []] fun x_3 y=>rA KF x [.q (AQ (xh x_3)),srd x_3.1 (Av (xh x_3) {kind:=(G5 x_3),text:=(G6 x_3),kids:=(Z7 x_3),blank:=false}),.top]) (cA FX [srd x_1.1 (xh x_1),.str #[(118:UInt8),97,114].toList] fun x_2 y=>Ae (isG x_2.1.sg (xh x_2) (1:Int) (Z5 x_2)) (cA IX [srd x_2.1 (Cc x_2.1.sg (xh x_2) (Z5 x_2))] fun x_3 y=>rA KF x [.q y.1,srd x_3.1 (yG y.2),.top]) (cA FX [srd x_2.1 (Cc x_2.1.sg (xh x_2) (Z5 x_2)),.str #[(99:UInt8),108,97,115,115].toList] fun x_3 y=>Ae (isG x_3.1.sg (xh x_3) (1:Int) (Z5 x_3)) (cA Dh [srd x_3.1 (Cc x_3.1.sg (xh x_3) (Z5 x_3)),.q 1] fun x_4 y=>cA Ct [srd x_4.1 (Bi x_4.1.sg (xh x_4) (Z5 x_4)),.str #[(123:UInt8)].toList] fun x_5 y=>eA (UJ x) [srd x_5.1 (Ax x_5.1.sg (xh x_5) (Z5 x_5)),.str (BK x_4.1.sg (xh x_4) (Z5 x_4)),An []]∧∀(i:Int×Int×Bool×List Nd×Ad×Nat),clS x.1.sg (xg x) (iG i) (G4 i) (Z5 i)→Ae (!(iG i).bad) (cA Cw [srd x.1 (iG i),.str #[(125:UInt8)].toList] fun x_6 y=>Ae (!isG x_6.1.sg (xh x_6) (4:Int) (Z5 x_6)) (cA Ig [srd x_6.1 (AA x_6.1.sg (xh x_6) (Z5 x_6))] fun x_7 y=>Ae (blG x_7.1.sg (xg x_7)) (cA ME [srd x_7.1 (xg x_7),.bool false] fun x_8 y=>cA GA [srd x_8.1 (yG y.2),.q y.1,.bool (decide ((nL (G4 i))>(0:Int)))] fun x_9 y_1=>∃(x_10:Int),y.1=x_10∧(∃(zs:Ad),An [x_10]=An zs∧(Ca BE∧(Bb ((G4 i).length+zs.length) (8:Nat)∧(eN (UJ x) i [srd x_9.1 (gBl (xh x_9) (G5 x_9) (Z6 x_9)),.str (BK x.1.sg (Au (xg x)) (1:Int)),An ((G4 i)++zs)]))))) (cA ME [srd x_7.1 (xg x_7),.bool false] fun x_8 y=>cA GA [srd x_8.1 (yG y.2),.q y.1,.bool false] fun x_9 y_1=>∃(x_10:Int),y.1=x_10∧(∃(zs:Ad),An [x_10]=An zs∧(Ca BE∧(Bb ((G4 i).length+zs.length) (8:Nat)∧(eN (UJ x) i [srd x_9.1 (gBl (xh x_9) (G5 x_9) (Z6 x_9)),.str (BK x.1.sg (Au (xg x)) (1:Int)),An ((G4 i)++zs)])))))) (cA BD [srd x_6.1 (AA x_6.1.sg (xh x_6) (Z5 x_6)),.q 21,.str (BK x.1.sg (Au (xg x)) (1:Int)),An (G4 i)] fun x_7 y=>rA KF x [.q (AQ (xh x_7)),srd x_7.1 (Av (xh x_7) {kind:=(G5 x_7),text:=(G6 x_7),kids:=(Z7 x_7),blank:=false}),.top])) (cA BD [srd x.1 (iG i),.q 21,.str (BK x.1.sg (Au (xg x)) (1:Int)),An (G4 i)] fun x_6 y=>rA KF x [.q (AQ (xh x_6)),srd x_6.1 (Av (xh x_6) {kind:=(G5 x_6),text:=(G6 x_6),kids:=(Z7 x_6),blank:=false}),.top])) (cA Dh [srd x_3.1 (Cc x_3.1.sg (xh x_3) (Z5 x_3)),.q 1] fun x_4 y=>cA Ii [srd x_4.1 (Bi x_4.1.sg (xh x_4) (Z5 x_4))] fun x_5 y=>cA PA [srd x_5.1 (yG y.2)] fun x_6 y_1=>∃(x_7:Int),y_1.1=x_7∧∃(zs:Ad),An [x_7]=An zs∧Ca BE∧Bb (y.1.length+zs.length) (8:Nat)∧cA BD [srd x_6.1 (yG y_1.2),.q 20,.str (BK x_4.1.sg (xh x_4) (Z5 x_4)),An (y.1++zs)] fun x_8 y=>rA KF x [.q (AQ (xh x_8)),srd x_8.1 (Av (xh x_8) {kind:=(G5 x_8),text:=(G6 x_8),kids:=(Z7 x_8),blank:=false}),.top])))) (by kernel_rfl) fun(x:ST×Int×Int×Bool×List Nd) (hx:okQ x.1 (xg x)∧(xg x).bad=false)=>(by
 dsimp only[nL,G4,G5,G6,Z5,Z6,Z7,cA,eA,eN,UJ,Ce,An,BJ,rA,PA,Ig,GA,Ft,Cw,KF,ME,Ii,BD,Dh,IX,Ct,FX,CD,sgs,srd,AB,AF,mvL,lnL,mvE,lnE,Bn,AV.q]
 obtain⟨s,p,d,b,ns⟩:=x;dsimp only[xg,xh] at hx ⊢
 obtain⟨hx,hb⟩:=hx
 have hx:okQ s ⟨p,d,b,ns⟩:=hx
 have hD:=FY hx;have hM:=RR hx;have h1:=hD.1;have hs:=h1.1
 (repeat' first|(with_reducible first|rfl|exact⟨⟩|apply AG|apply AM)|apply AL|(apply AK<;>try dsimp only)|apply AJ|((try refine AH.2 ?_);intro _;try dsimp only))
 all_goals(try dsimp only[xg,xh,yG,yS,iG,iF] at*)
 all_goals(try simp only[Ic] at*)
 all_goals first
  |(show Nat;skip)
  |exact c4P hx ‹_› ‹_›
  |exact(NU ‹_› ‹_› ‹_› ‹_› (NN ‹_›)).1
  |exact(NU ‹_› ‹_› ‹_› ‹_› (NO ‹_›)).1
  |skip
 all_goals(try(first|exact(NU ‹_› ‹_› ‹_› ‹_› (NN ‹_›)).2|exact(NU ‹_› ‹_› ‹_› ‹_› (NO ‹_›)).2))
 all_goals(try(have e:=MB ‹isG s.sg ⟨p,d,b,ns⟩ 1 [118,97,114]=false›;simp only[e] at*))
 all_goals(try(have e:=MC ‹isG s.sg ⟨p,d,b,ns⟩ 1 [118,97,114]=true›;simp only[e] at*))
 all_goals(try(have e:=MB ‹isG s.sg ⟨p,d,b,ns⟩ 1 [99,108,97,115,115]=false›;simp only[e] at*))
 all_goals(try(have e:=MC ‹isG s.sg ⟨p,d,b,ns⟩ 1 [99,108,97,115,115]=true›;simp only[e] at*))
 all_goals(try(have hw:=Ij hx ‹isG s.sg ⟨p,d,b,ns⟩ 1 [99,108,97,115,115]=true›))
 all_goals first
  |(show Nat;skip)
  |rfl
  |exact h1
  |omega
  |contradiction
  |exact c4U hx ‹_›
  |exact JR h1 (by omega)
  |exact Ij hx ‹_›
  |exact c4W hx ‹_› ‹_› ‹_›
  |exact b1d hx ‹_›
  |exact(FY hw).1
  |exact(c4Q hw).1
  |exact b1f hw
  |exact(FY (a3z hw ‹_›)).1
  |exact(b1g hw ‹_› ‹_› ‹_›).1
  |exact(b1g hw ‹_› ‹_› ‹_›).2
  |exact Hl (FY (a3z hw ‹_›)).1
  |exact GS h1 ‹_›
  |exact RQ a3p ‹_›
  |exact RQ a3p ‹_› ‹_›
  |exact(NU ‹_› ‹_› ‹_› ‹_› (NN ‹_›)).1
  |exact(NU ‹_› ‹_› ‹_› ‹_› (NO ‹_›)).1
  |exact b1i hx ‹_› ‹_› ‹_› (c4R hw ‹_› ‹_›)
  |exact b1i hx ‹_› ‹_› ‹_› (c4S hw ‹_› ‹_›)
  |exact c4Y hx ‹_› ‹_› ‹_› (b1e hx ‹_› ‹_›)
  |(have hq:=a3d hs ‹vlQ _ _ _ [] _ _›;(try simp only[Bb,Ba,AE,AX] at*);omega)
  |(have hq:=a3A hw ‹clS _ _ _ _ _›;(try simp only[Bb,Ba,AE,AX]);omega)
  |skip
 all_goals first
  |exact(NU ‹_› ‹_› ‹_› ‹_› (NN ‹_›)).2
  |exact(NU ‹_› ‹_› ‹_› ‹_› (NO ‹_›)).2
  |skip)
end Go.My
end
section
namespace Go.My
open Go.Eng Go.Proofs
variable {G:GInv}
variable {b:Bool}{br i k m p:Int}{c:UInt8}{l:List Sg}{n:Nat}{t tx:Aa}
theorem b1k(h1:BQ c=false)(h2:Bh c=false):BA c=false:=by simp [BA,h1,h2]
theorem c5d(h1:BQ c=true):BA c=true:=by simp [BA,h1]
theorem c5e(h1:Bh c=true):BA c=true:=by simp [BA,h1]
theorem c5f{s:Aa}:Dg s≤s.length:=by
 unfold Dg
 cases h:Dk isQ (s.drop 1) with
 |none=>simp
 |some i=>
  simp only
  split
  ·have:=Ue h;simp at this;omega
  ·omega
theorem c5g{s:Aa}:CP s≤s.length:=by
 unfold CP
 split
 ·split
  ·exact Xx
  ·omega
 ·omega
theorem c5h{s:Aa}:(HK s).length≤2:=by
 rw[b0i]
 split
 ·simp;omega
 ·split
  ·simp;omega
  ·simp
theorem c5i{x:Aa×Int}(h0:0≤x.2)(h1:x.2<x.1.length):(CP (x.1.drop x.2.toNat):Int)≤x.1.length-x.2∧(Dg (x.1.drop x.2.toNat):Int)≤x.1.length-x.2:=by
 have a:= @c5g (x.1.drop x.2.toNat);have b:= @c5f (x.1.drop x.2.toNat)
 simp at a b;omega
theorem b1l{x:Aa×Int}{d e:UInt8}(h0:0≤x.2)(hf:BQ c=false)(hc:x.1[x.2.toNat]? =some c)(hg:Bh d=true)(hd:x.1[x.2.toNat]? =some d)(h:rwI Bh x i)(hz:Bh e=false)(he:x.1[i.toNat]? =some e):
 (i-x.2>12→sgR x 0 [] 0 false 0)∧(¬i-x.2>12→sgR x 2 (List.drop (Int.toNat x.2) (List.take (Int.toNat i) x.1)) x.2 false (i-x.2)):=by
 rw[hc] at hd;cases hd
 exact UC h0 hc hf hg h (.inr ⟨_,he,hz⟩)
theorem b1m{c2:UInt8}(h32:(c.toNat:Int)≠32)(hc:t[i.toNat]? =some c)(h10:(c2.toNat:Int)≠10)(hc2:t[i.toNat]? =some c2)(h:sgJ t i br l n)(hi:i<t.length)(hs:sgR (t,i) k tx p b m)(hm:m≠0):
 sgJ t (i+m) 0 (l++[⟨k,tx,p,decide (br>1)⟩]) (n-1)∧n-1<n:=by
 rw[hc] at hc2;cases hc2
 rcases hs with⟨h1,⟨rfl,rfl,rfl,rfl⟩,rfl⟩|hs
 ·exact a2I hc h hi (by omega) (by omega) h1
 ·exact(hm hs.2).elim
theorem b1n{c2:UInt8}(h32:(c.toNat:Int)≠32)(hc:t[i.toNat]? =some c)(h10:(c2.toNat:Int)≠10)(hc2:t[i.toNat]? =some c2)(h:sgJ t i br l n)(hi:i<t.length)(hs:sgR (t,i) k tx p b m)(hm:m=0):Cr t=none:=by
 rw[hc] at hc2;cases hc2
 rcases hs with⟨h1,_,h2⟩|hs
 ·have a:=(a2G h1).1;rw[hm] at h2;rw[←h2] at a;omega
 ·exact a2J hc h hi (by omega) (by omega) hs.1
theorem c5j(h:sgJ t i br l n)(hs:sgR (t,i) k tx p b m):0≤m∧m≤t.length-i:=by
 rcases hs with⟨h1,_,h2⟩|hs
 ·have a:=a2H h h1;simp only at h2;omega
 ·have:=Mw h;omega
attribute [local irreducible] rwI sgR AW CP Dg HK
def Ya:Sig:=⟨Aa×Int,fun x=>[.str x.1,.q x.2],fun x=>0≤x.2∧x.2<x.1.length∧x.1.length<2^62,Int×Aa×Int×Bool×Int,fun x y=>sgR x y.1 y.2.1 y.2.2.1 y.2.2.2.1 y.2.2.2.2,fun x y=> .tup [.agg [.q y.1,.str y.2.1,.q y.2.2.1,.bool y.2.2.2.1],.q y.2.2.2.2],fun x y=>[.top,.top],false,[],[]⟩
def UK(x:Aa×Int):LS:=⟨Int,fun i=>rwI BA x i,fun i=>[(0,.str x.1),(1,.q x.2),(4,.box 0 [.q 0,.str [],.q 0,.bool false]),(6,.q i)],[],fun i=>x.1.length-i.toNat,fun _=>[],[]⟩
def Yb(x:Aa×Int):LS:=⟨Int,fun i=>rwI Bh x i,fun i=>[(0,.str x.1),(1,.q x.2),(4,.box 0 [.q 0,.str [],.q 0,.bool false]),(6,.q i)],[],fun i=>x.1.length-i.toNat,fun _=>[],[]⟩
def a3B(x:Aa×Int)(i:Int):Prop:=Ae (decide (i-x.2>(30:Int))) (∃(y:Int×Aa×Int×Bool×Int),sgR x y.1 y.2.1 y.2.2.1 y.2.2.2.1 (Z4 y)∧0=y.1∧ #[].toList=y.2.1∧0=y.2.2.1∧false=y.2.2.2.1∧0=(Z4 y)∧True) ((0≤x.2∧x.2≤i∧i≤(nL x.1))∧inR .i64 (i-x.2)∧(∃(y:Int×Aa×Int×Bool×Int),sgR x y.1 y.2.1 y.2.2.1 y.2.2.2.1 (Z4 y)∧1=y.1∧List.drop (Int.toNat x.2) (List.take (Int.toNat i) x.1)=y.2.1∧x.2=y.2.2.1∧false=y.2.2.2.1∧i-x.2=(Z4 y)∧True))
def a3C(x:Aa×Int)(i:Int):Prop:=Ae (decide (i-x.2>(12:Int))) (∃(y:Int×Aa×Int×Bool×Int),sgR x y.1 y.2.1 y.2.2.1 y.2.2.2.1 (Z4 y)∧0=y.1∧ #[].toList=y.2.1∧0=y.2.2.1∧false=y.2.2.2.1∧0=(Z4 y)∧True) ((0≤x.2∧x.2≤i∧i≤(nL x.1))∧inR .i64 (i-x.2)∧(∃(y:Int×Aa×Int×Bool×Int),sgR x y.1 y.2.1 y.2.2.1 y.2.2.2.1 (Z4 y)∧2=y.1∧List.drop (Int.toNat x.2) (List.take (Int.toNat i) x.1)=y.2.1∧x.2=y.2.2.1∧false=y.2.2.2.1∧i-x.2=(Z4 y)∧True))
theorem c5k:CtG G 40 Ya:=
 vFq [(67,0,II),(68,0,Lm),(69,0,GK),(70,0,HC),(71,0,Ks),(72,0,Pt)] [] (fun x=>[(6,UK x),(12,Yb x)]) Tryz.func40 ⟨a8D,a8A,a8o,a1V,a8C,c2L,trivial⟩ (fun x=>(∀(y:Int×Aa×Int×Bool×Int),sgR x y.1 y.2.1 y.2.2.1 y.2.2.2.1 (Z4 y)→((True∧True∧True∧True∧True)∧True∧True)∧True∧True∧True)∧cA II [.str x.1,.q x.2] fun x_1 y=>Ae (decide ((↑(CP (List.drop (Int.toNat x_1.2) x_1.1)):Int)>(0:Int))) (inR .i64 (x.2+(↑(CP (List.drop (Int.toNat x_1.2) x_1.1)):Int))∧(0≤x.2∧x.2≤x.2+(↑(CP (List.drop (Int.toNat x_1.2) x_1.1)):Int)∧x.2+(↑(CP (List.drop (Int.toNat x_1.2) x_1.1)):Int)≤(nL x.1))∧cA Lm [.str (List.drop (Int.toNat x.2) (List.take (Int.toNat (x.2+(↑(CP (List.drop (Int.toNat x_1.2) x_1.1)):Int))) x.1))] fun x_2 y=>∃(y:Int×Aa×Int×Bool×Int),sgR x y.1 y.2.1 y.2.2.1 y.2.2.2.1 (Z4 y)∧5=y.1∧Cv x_2=y.2.1∧x.2=y.2.2.1∧false=y.2.2.2.1∧(↑(CP (List.drop (Int.toNat x_1.2) x_1.1)):Int)=(Z4 y)∧True) ((0≤x.2∧x.2<(nL x.1))∧∀(c:UInt8),x.1[Int.toNat x.2]? =some c→cA GK [AV.int IntKind.u8 (↑(UInt8.toNat c):Int)] fun x_2 y=>Ae (BQ x_2) (eA (UK x) [.str x.1,.q x.2,.box 0 [.q 0,.str #[].toList,.q 0,.bool false],.q x.2]∧∀(i:Int),rwI BA x i→Ae (decide (i<(nL x.1))) ((0≤i∧i<(nL x.1))∧∀(c:UInt8),x.1[Int.toNat i]? =some c→cA GK [AV.int IntKind.u8 (↑(UInt8.toNat c):Int)] fun x_3 y=>Ae (BQ x_3) (inR .i64 (i+1)∧(eN (UK x) i [.str x.1,.q x.2,.box 0 [.q 0,.str [],.q 0,.bool false],.q (i+1)])) ((0≤i∧i<(nL x.1))∧∀(c:UInt8),x.1[Int.toNat i]? =some c→cA HC [AV.int IntKind.u8 (↑(UInt8.toNat c):Int)] fun x_4 y=>Ae (Bh x_4) (inR .i64 (i+1)∧(eN (UK x) i [.str x.1,.q x.2,.box 0 [.q 0,.str [],.q 0,.bool false],.q (i+1)])) (inR .i64 (i-x.2)∧(a3B x i)))) (inR .i64 (i-x.2)∧(a3B x i))) ((0≤x.2∧x.2<(nL x.1))∧∀(c:UInt8),x.1[Int.toNat x.2]? =some c→cA HC [AV.int IntKind.u8 (↑(UInt8.toNat c):Int)] fun x_3 y=>Ae (Bh x_3) (eA (Yb x) [.str x.1,.q x.2,.box 0 [.q 0,.str #[].toList,.q 0,.bool false],.q x.2]∧∀(i:Int),rwI Bh x i→Ae (decide (i<(nL x.1))) ((0≤i∧i<(nL x.1))∧∀(c:UInt8),x.1[Int.toNat i]? =some c→cA HC [AV.int IntKind.u8 (↑(UInt8.toNat c):Int)] fun x_4 y=>Ae (Bh x_4) (inR .i64 (i+1)∧eN (Yb x) i [.str x.1,.q x.2,.box 0 [.q 0,.str [],.q 0,.bool false],.q (i+1)]) (inR .i64 (i-x.2)∧(a3C x i))) (inR .i64 (i-x.2)∧(a3C x i))) ((0≤x.2∧x.2<(nL x.1))∧∀(c:UInt8),x.1[Int.toNat x.2]? =some c→Ae ((↑(UInt8.toNat c):Int)==(39:Int)) (cA Ks [.str x.1,.q x.2] fun x_4 y=>inR .i64 (x.2+(↑(Dg (List.drop (Int.toNat x_4.2) x_4.1)):Int))∧(0≤x.2∧x.2≤x.2+(↑(Dg (List.drop (Int.toNat x_4.2) x_4.1)):Int)∧x.2+(↑(Dg (List.drop (Int.toNat x_4.2) x_4.1)):Int)≤(nL x.1))∧∃(y:Int×Aa×Int×Bool×Int),sgR x y.1 y.2.1 y.2.2.1 y.2.2.2.1 (Z4 y)∧3=y.1∧List.drop (Int.toNat x.2) (List.take (Int.toNat (x.2+(↑(Dg (List.drop (Int.toNat x_4.2) x_4.1)):Int))) x.1)=y.2.1∧x.2=y.2.2.1∧false=y.2.2.2.1∧(↑(Dg (List.drop (Int.toNat x_4.2) x_4.1)):Int)=(Z4 y)∧True) (cA Pt [.str x.1,.q x.2] fun x_4 y=>∃(y:Int×Aa×Int×Bool×Int),sgR x y.1 y.2.1 y.2.2.1 y.2.2.2.1 (Z4 y)∧4=y.1∧HK (List.drop (Int.toNat x_4.2) x_4.1)=y.2.1∧x.2=y.2.2.1∧false=y.2.2.2.1∧(↑((HK (List.drop (Int.toNat x_4.2) x_4.1)).length):Int)=(Z4 y)∧True))))) (by kernel_rfl) fun(x:Aa×Int) (hx:0≤x.2∧x.2<x.1.length∧x.1.length<2^62)=>(by
 dsimp only[nL,Z4,a3C,a3B,cA,eA,eN,Yb,UK,HC,GK,II,Ks,Pt,Lm,AB,AF,mvL,lnL,mvE,lnE,mvG,mvH,lnG,lnH,Bn,AV.q]
 obtain⟨h1,h2,h3⟩:=hx
 have hn:=c5i h1 h2
 (repeat' first|(with_reducible first|rfl|exact⟨⟩|apply AG|apply AM)|apply AL|(apply AK<;>try dsimp only)|apply AJ|((try refine AH.2 ?_);intro _;try dsimp only))
 all_goals(try((repeat(rename x.1[_]? =some _=>hq;revert hq;rename x.1[_]? =some _=>hr;intro hq;rw[hr] at hq;cases hq))))
 all_goals first
  |rfl
  |omega
  |exact c2O h1 ‹_›
  |exact c2M (by omega)
  |exact a2L h1 ‹_› ‹_› ‹_› (c5d ‹_›)
  |exact a2L h1 ‹_› ‹_› ‹_› (c5e ‹_›)
  |exact a2L h1 ‹_› ‹_› ‹_› ‹_›
  |exact(XE h1 ‹_› ‹_› ‹_› (.inl ‹_›)).1 ‹_›
  |exact(XE h1 ‹_› ‹_› ‹_› (.inl ‹_›)).2 ‹_›
  |exact(XE h1 ‹_› ‹_› ‹_› (.inr ⟨_,by assumption,b1k ‹_› ‹_›⟩)).1 ‹_›
  |exact(XE h1 ‹_› ‹_› ‹_› (.inr ⟨_,by assumption,b1k ‹_› ‹_›⟩)).2 ‹_›
  |exact(UC h1 ‹_› ‹_› ‹_› ‹_› (.inl ‹_›)).1 ‹_›
  |exact(UC h1 ‹_› ‹_› ‹_› ‹_› (.inl ‹_›)).2 ‹_›
  |exact(UC h1 ‹_› ‹_› ‹_› ‹_› (.inr ⟨_,by assumption,by assumption⟩)).1 ‹_›
  |exact(UC h1 ‹_› ‹_› ‹_› ‹_› (.inr ⟨_,by assumption,by assumption⟩)).2 ‹_›
  |exact(b1l h1 ‹_› ‹_› ‹_› ‹_› ‹_› ‹_› ‹_›).1 ‹_›
  |exact(b1l h1 ‹_› ‹_› ‹_› ‹_› ‹_› ‹_› ‹_›).2 ‹_›
  |exact c2Q h1 ‹_› ‹_› ‹_› ‹_›
  |exact c2R h1 ‹_› ‹_› ‹_› ‹_› ‹_›
  |(have hq:=c2N ‹rwI _ _ _›;(try simp only[Aw]);omega)
  |(have hq:= @c5h (x.1.drop x.2.toNat);(try simp only[Aw]);omega)
  |(simp only[GW,DU];omega)
  |skip)
attribute [local irreducible] sgJ Cr
def Ik:Sig:=⟨Aa,fun x=>[.str x],fun x=>x.length<2^62,List Sg×Int,fun x y=>sgQ x y.1,fun x y=> .tup [sgs y.1,.q y.2,.bool (Cr x).isSome],fun x y=>[.top],true,[],[]⟩
def RW(x:Aa):LS:=⟨Int×Int×List Sg×Nat,fun i=>sgJ x i.1 i.2.1 i.2.2.1 i.2.2.2,fun i=>[(0,.str x),(5,CL i.2.2.1),(6,.q i.1),(7,.q i.2.1)],[],fun i=>i.2.2.2,fun _=>[],[]⟩
theorem a3D:CtG G 25 Ik:=
 vFq [(40,0,Ya)] [(32,⟨Sg,sgA⟩)] (fun x=>[(6,RW x)]) Tryz.func25 ⟨c5k,trivial⟩ (fun(x:Aa)=>True∧Ae (decide ((nL x)>(3000:Int))) (rA Ik x [.tup [CL [],.q 3000,.bool false],.top]) (eA (RW x) [.str x,CL [],.q 0,.q 0]∧∀(i:Int×Int×List Sg×Nat),sgJ x i.1 i.2.1 i.2.2.1 i.2.2.2→Ae (decide (i.1<(nL x))) ((0≤i.1∧i.1<(nL x))∧∀(c:UInt8),x[Int.toNat i.1]? =some c→Ae ((↑(UInt8.toNat c):Int)==(32:Int)) (inR .i64 (i.1+(1:Int))∧eN (RW x) i [.str x,CL i.2.2.1,.q (i.1+(1:Int)),.q i.2.1]) ((0≤i.1∧i.1<(nL x))∧∀(c:UInt8),x[Int.toNat i.1]? =some c→Ae ((↑(UInt8.toNat c):Int)==(10:Int)) (inR .i64 (i.2.1+(1:Int))∧inR .i64 (i.1+(1:Int))∧eN (RW x) i [.str x,CL i.2.2.1,.q (i.1+(1:Int)),.q (i.2.1+(1:Int))]) (cA Ya [.str x,.q i.1] fun x_1 y=>Ae ((Z4 y)==(0:Int)) (rA Ik x [.tup [CL [],.q i.1,.bool false],.top]) (∃(x_2:Sg),y.1=x_2.kind∧y.2.1=x_2.text∧y.2.2.1=x_2.pos∧decide (i.2.1>(1:Int))=x_2.blank∧∃(zs:List Sg),CL [x_2]=CL zs∧Ca sgA∧Bb (i.2.2.1.length+zs.length) (40:Nat)∧inR .i64 (i.1+(Z4 y))∧eN (RW x) i [.str x,CL (i.2.2.1++zs),.q (i.1+(Z4 y)),.q 0])))) (rA Ik x [.tup [CL i.2.2.1,.q 0,.bool true],.top]))) (by kernel_rfl) fun(x:Aa) (hx:x.length<2^62)=>(by
 dsimp only[nL,Z4,cA,eA,eN,RW,CL,rA,Ya,Ik,CD,sgs,AB,AF,mvL,lnL,mvE,lnE,mvG,mvH,lnG,lnH,Bn,AV.q]
 have hx:x.length<2^62:=hx
 (repeat' first|(with_reducible first|rfl|exact⟨⟩|apply AG|apply AM)|apply AL|(apply AK<;>try dsimp only)|apply AJ|((try refine AH.2 ?_);intro _;try dsimp only))
 all_goals first
  |(show Nat;skip)
  |rfl
  |exact b0d ‹_›
  |exact(NP (XB ‹_›)).2
  |exact(NP (XB ‹_›)).1.symm
  |exact(Xy ‹_› ‹_› ‹_› (by omega)).1
  |exact(Xz ‹_› ‹_› ‹_› (by omega)).1
  |exact(b1m ‹_› ‹_› ‹_› ‹_› ‹_› ‹_› ‹_› ‹_›).1
  |exact(NP (b1n ‹_› ‹_› ‹_› ‹_› ‹_› ‹_› ‹_› ‹_›)).2
  |exact(NP (b1n ‹_› ‹_› ‹_› ‹_› ‹_› ‹_› ‹_› ‹_›)).1.symm
  |exact(XA ‹_› ‹_›).2
  |exact(XA ‹_› ‹_›).1.symm
  |(have hq:=Mw ‹sgJ _ _ _ _ _›;(try simp only[Aw]);omega)
  |(have hj:= ‹sgJ _ _ _ _ _›;have hq:=Mw hj;have hz:=c5j hj ‹_›;(try simp only[Aw]);omega)
  |(have hq:=Mw ‹sgJ _ _ _ _ _›;(try simp only[Bb,Ba,AE,AX]);omega)
  |(simp [Bb];done)
  |skip
 all_goals first
  |exact(Xy ‹_› ‹_› ‹_› (by omega)).2
  |exact(Xz ‹_› ‹_› ‹_› (by omega)).2
  |exact(b1m ‹_› ‹_› ‹_› ‹_› ‹_› ‹_› ‹_› ‹_›).2
  |rfl
  |skip)
end Go.My
end
section
namespace Go.My
open Go.Eng Go.Proofs
variable {G:GInv}
variable {N:Nat}{ks:Ad}{l:List Sg}{ms:List (Int×Int)}{s t:Aa}{y:Gs}
theorem c5l:Cv s <+: s:=by
 have h:=List.dropWhile_suffix (fun c:UInt8=>decide (c.toNat=32)) (l:=s.reverse)
 unfold Cv
 rw[←List.reverse_suffix,List.reverse_reverse];exact h
theorem a3E{c:UInt8}{a:Aa}(h:t <+: c::s)(ht:t=a)(ha:a≠[]):a.head? =some c:=by
 subst ht
 match t with
 |[]=>exact(ha rfl).elim
 |d::r=>
  obtain⟨k,hk⟩:=h
  simp at hk
  simp [hk.1]
theorem c5m(h:(AW s).ok=true)(ht:(AW s).text=[41]∨(AW s).text=[61,62]∨(AW s).text=[44]):(AW s).kind=4:=by
 match s with
 |[]=>cases h
 |b::s=>
  have key:∀t:Aa,t <+: b::s→(t=[41]∨t=[61,62]∨t=[44])→b=41∨b=61∨b=44:=by
   intro t hp ht
   rcases ht with ht|ht|ht
   ·have:=a3E hp ht (by simp);simp at this;exact .inl this.symm
   ·have:=a3E hp ht (by simp);simp at this;exact .inr (.inl this.symm)
   ·have:=a3E hp ht (by simp);simp at this;exact .inr (.inr this.symm)
  unfold AW at h ht ⊢
  simp only at h ht ⊢
  split
  ·rename_i hb
   rw[if_pos hb] at ht
   rcases key _ (Kg _) ht with rfl|rfl|rfl<;>exact absurd hb (by decide)
  ·rename_i hb
   rw[if_neg hb] at h ht
   split
   ·rename_i hb2
    rw[if_pos hb2] at ht
    rcases key _ (Kg _) ht with rfl|rfl|rfl<;>exact absurd hb2 (by decide)
   ·rename_i hb2
    rw[if_neg hb2] at h ht
    split
    ·rename_i hb3
     rw[if_pos hb3] at ht h
     simp only at ht h
     have hp:(Df (b::s)).1 <+: b::s:=by
      unfold Df;split
      ·exact List.nil_prefix
      ·exact List.take_prefix _ _
     rcases key _ hp ht with rfl|rfl|rfl<;>exact absurd hb3 (by decide)
    ·rename_i hb3
     rw[if_neg hb3] at h ht
     split
     ·rename_i hb4
      rw[if_pos hb4] at ht
      have hb5:b=47:=by
       cases s with
       |nil=>simp at hb4
       |cons c s=>simp at hb4;exact hb4.1
      rcases key _ (c5l.trans (Kg _)) ht with rfl|rfl|rfl<;>exact absurd hb5 (by decide)
     ·rename_i hb4
      rw[if_neg hb4] at h
      split
      ·rfl
      ·rename_i hb5
       rw[if_neg hb5] at h
       split
       ·rfl
       ·rename_i hb6
        rw[if_neg hb6] at h;cases h
theorem Yc{t:Aa}:∀(n:Nat) (i br:Int) (l:List Sg),Ey t n i br=some l→sgM l
 |0,_,_,_,h=>by cases h
 |n+1,i,br,l,h=>by
  rw[Ey] at h
  split at h
  ·simp at h;subst h;intro e he;simp at he
  ·split at h
   ·exact Yc n _ _ _ h
   ·split at h
    ·exact Yc n _ _ _ h
    ·split at h
     ·rename_i hok
      rw[FM] at h
      obtain⟨l',h1,rfl⟩:=h
      intro e he ht
      simp only[EX] at he
      rcases he with rfl|he
      ·exact c5m hok ht
      ·exact Yc n _ _ _ h1 e he ht
     ·cases h
theorem c5n(h:Cr t=some l):sgM l:=by
 rw[Cr] at h
 split at h
 ·cases h
 ·exact Yc _ _ _ _ h
def frI(t:Aa)(l:List Sg)(y:Gs)(ks:Ad)(ms:List (Int×Int))(N:Nat):Prop:=(Cr t=some l∧sgB l)∧Hk l y ks ms N
theorem c5o(h:sgQ t l)(hn:(Cr t).isSome=true):frI t l ⟨0,0,false,[]⟩ [] [] (l.length+1):=⟨RH h hn,c2u⟩
theorem a3F{s:ST}(h:frI t s.sg y ks ms N):okQ s y:=⟨c2w h.1.2 h.2,c5n h.1.1⟩
theorem Yd{b:Bool}{z:Int×Gs}(h:frI t l y ks ms N)(hb:y.bad=false)(hl:y.pos<l.length)(hz:Ag l y (Er l false) z)(e:b=(blG l y&&decide (0<(ks.length:Int)))):
 frI t l (gBl z.2 z.1 b) (ks++[z.1]) (ms++[(y.pos,(gBl z.2 z.1 b).pos)]) (N-1)∧N-1<N:=by
 rw[a3s hb] at e
 have hz2:Ag l y (Er l b) (z.1,gBl z.2 z.1 b):=a3r a3q hz
 obtain⟨a,c⟩:=c2v h.2 hb hl hz2 e
 exact⟨⟨h.1,a⟩,c⟩
theorem c5p(h:frI t l y ks ms N):ks.length≤3001∧0≤y.pos∧y.pos≤l.length:=by
 have:=b0e h.1.2 h.2;omega
def frE(l:List Sg)(y:Gs):Prop:=y.bad=true∨¬y.pos<l.length
theorem RX(h:y.bad=true):frE l y:= .inl h
theorem RY(h:¬y.pos<l.length):frE l y:= .inr h
theorem RZ:Ew []:=⟨by simp,by simp⟩
theorem Ye(h:frI t l y ks ms N):sgQ t l∧(Cr t).isSome=true:=⟨.inl h.1,by rw[h.1.1];rfl⟩
theorem Yf(h:frI t l y ks ms N)(he:frE l y)(hb:(Av y ⟨22,[],ks,false⟩).bad=true):CX t=none:=b0h (c2y (Ye h).1 (Ye h).2 ⟨h.2,he⟩ hb) hb
theorem NV(h:frI t l y ks ms N)(he:frE l y)(hb:(Av y ⟨22,[],ks,false⟩).bad=false):
 (CT (Av y ⟨22,[],ks,false⟩).nodes=false→CX t=none)∧(CT (Av y ⟨22,[],ks,false⟩).nodes=true→CX t=some (Av y ⟨22,[],ks,false⟩).nodes):=by
 have a:=c2z (Ye h).1 (Ye h).2 ⟨h.2,he⟩ hb
 refine⟨fun h2=>b0h a (by simp only[GT,h2];rfl),fun h2=>(c2A a (by simp only[GT,h2];rfl)).1⟩
theorem UL(h:frI t l y ks ms N):Ew (Av y ⟨22,[],ks,false⟩).nodes∧(Av y ⟨22,[],ks,false⟩).nodes.length≤1073741824∧0≤(Av y ⟨22,[],ks,false⟩).pos:=by
 have a:=Us h.2.1 (b0g h.1.2 h.2)
 have b:=b0f a
 exact⟨b.1,by omega,a.1.1⟩
theorem b1o(h:(Cr t).isSome=false):CX t=none:=by
 rw[CX]
 cases hs:Cr t with
 |none=>rfl
 |some l=>rw[hs] at h;cases h
theorem c5q{T0 T1 T2 T3:Type}{p q:ST×T0×T1×T2×T3→Prop}(a:List Sg)(v0:T0)(v1:T1)(v2:T2)(v3:T3)(h2:q (⟨a,0,[]⟩,v0,v1,v2,v3))(h1:p (⟨a,0,[]⟩,v0,v1,v2,v3)):∃x,p x∧q x:=⟨_,h1,h2⟩
theorem c5r{T0 T1 T2 T3 T4 T5:Type}{p q:ST×T0×T1×T2×T3×T4×T5→Prop}(a:List Sg)(v0:T0)(v1:T1)(v2:T2)(v3:T3)(v4:T4)(v5:T5)(h2:q (⟨a,0,[]⟩,v0,v1,v2,v3,v4,v5))(h1:p (⟨a,0,[]⟩,v0,v1,v2,v3,v4,v5)):∃x,p x∧q x:=⟨_,h1,h2⟩
theorem c5s{T0 T1 T2 T3 T4 T5 T6:Type}{p q:ST×T0×T1×T2×T3×T4×T5×T6→Prop}(a:List Sg)(v0:T0)(v1:T1)(v2:T2)(v3:T3)(v4:T4)(v5:T5)(v6:T6)(h2:q (⟨a,0,[]⟩,v0,v1,v2,v3,v4,v5,v6))(h1:p (⟨a,0,[]⟩,v0,v1,v2,v3,v4,v5,v6)):∃x,p x∧q x:=⟨_,h1,h2⟩
attribute [local irreducible] frI frE gBl blG Av AQ gsOk Ag Er CX Cr CT sgM okQ
def IY:Sig:=⟨Aa,fun x=>[.str x],fun x=>x.length<2^62,List Nd×Int,fun x y=>y.1=(CX x).getD []∧Ew y.1,fun x y=> .tup [nds y.1,.q y.2,.bool (CX x).isSome],fun x y=>[.top],true,[],[]⟩
def UM(x:Aa):LS:=⟨List Sg×Int×Int×Bool×List Nd×Ad×List (Int×Int)×Nat,fun i=>frI x i.1 (iF i.2) i.2.2.2.2.2.1 i.2.2.2.2.2.2.1 i.2.2.2.2.2.2.2,fun i=>[(0,.str x),(5,BJ []),(6,sgs i.1),(9,srd ⟨i.1,0,[]⟩ (iF i.2)),(10,An i.2.2.2.2.2.1)],[],fun i=>i.2.2.2.2.2.2.2,fun _=>[],[]⟩
def a3G(x:Aa)(i:List Sg×Int×Int×Bool×List Nd×Ad×List (Int×Int)×Nat):Prop:=cA BD [.box 0 [sgs i.1,.q (iF i.2).pos,.bool (iF i.2).bad,.q (iF i.2).deep,BJ (iF i.2).nodes],.q 22,.str #[].toList,An (G5 i)] fun x_2 y=>Ae (Av (xh x_2) {kind:=(G5 x_2),text:=(G6 x_2),kids:=(Z7 x_2),blank:=false}).bad (Ae (decide ((Av (xh x_2) {kind:=(G5 x_2),text:=(G6 x_2),kids:=(Z7 x_2),blank:=false}).pos<(nL i.1))) (true=true∧(true=true∧((0≤(Av (xh x_2) {kind:=(G5 x_2),text:=(G6 x_2),kids:=(Z7 x_2),blank:=false}).pos∧((Av (xh x_2) {kind:=(G5 x_2),text:=(G6 x_2),kids:=(Z7 x_2),blank:=false}).pos<(nL i.1)))∧(∀(e:Sg),i.1[Int.toNat (Av (xh x_2) {kind:=(G5 x_2),text:=(G6 x_2),kids:=(Z7 x_2),blank:=false}).pos]? =some e→rA IY x [.tup [BJ [],.q e.pos,.bool false],.top])))) (rA IY x [.tup [BJ [],.q (nL x),.bool false],.top])) (cA IM [BJ (Av (xh x_2) {kind:=(G5 x_2),text:=(G6 x_2),kids:=(Z7 x_2),blank:=false}).nodes] fun x_3 y=>Ae (!CT x_3) (rA IY x [.tup [BJ [],.q 0,.bool false],.top]) (rA IY x [.tup [BJ (Av (xh x_2) {kind:=(G5 x_2),text:=(G6 x_2),kids:=(Z7 x_2),blank:=false}).nodes,.q 0,.bool true],.top]))
theorem b1p:CtG G 19 IY:=
 vFq [(25,0,Ik),(32,0,Ig),(33,0,KF),(34,0,GA),(35,0,BD),(36,0,IM)] [(32,⟨Sg,sgA⟩),(27,⟨Int,BE⟩),(40,⟨Nd,ndA true⟩)] (fun x=>[(7,UM x)]) Tryz.func19 ⟨a3D,XH,c5c,XI,JQ,a9b,trivial⟩ (fun(x:Aa)=>True∧cA Ik [.str x] fun x_1 y=>Ae (!Option.isSome (Cr x_1)) (rA IY x [.tup [BJ [],.q y.2,.bool false],.top]) (eA (UM x) [.str x,BJ [],sgs y.1,.box 0 [sgs y.1,.q 0,.bool false,.q 0,.nil],An []]∧∀(i:List Sg×Int×Int×Bool×List Nd×Ad×List (Int×Int)×Nat),frI x i.1 (iF i.2) (G5 i) (G6 i) (Z7 i)→Ae (!(iF i.2).bad) (Ae (decide ((iF i.2).pos<(nL i.1))) (cA Ig [.box 0 [sgs i.1,.q (iF i.2).pos,.bool (iF i.2).bad,.q (iF i.2).deep,BJ (iF i.2).nodes]] fun x_2 y=>Ae (blG x_2.1.sg (xg x_2)) (cA KF [srd x_2.1 (xg x_2),.bool true] fun x_3 y=>cA GA [srd x_3.1 (yG y.2),.q y.1,.bool (decide ((nL (G5 i))>(0:Int)))] fun x_4 y_1=>∃(x_5:Int),y.1=x_5∧(∃(zs:Ad),An [x_5]=An zs∧(Ca BE∧(Bb ((G5 i).length+zs.length) (8:Nat)∧(eN (UM x) i [.str x,BJ [],sgs i.1,srd x_4.1 (gBl (xh x_4) (G5 x_4) (Z6 x_4)),An ((G5 i)++zs)]))))) (cA KF [srd x_2.1 (xg x_2),.bool true] fun x_3 y=>cA GA [srd x_3.1 (yG y.2),.q y.1,.bool false] fun x_4 y_1=>∃(x_5:Int),y.1=x_5∧(∃(zs:Ad),An [x_5]=An zs∧(Ca BE∧(Bb ((G5 i).length+zs.length) (8:Nat)∧(eN (UM x) i [.str x,BJ [],sgs i.1,srd x_4.1 (gBl (xh x_4) (G5 x_4) (Z6 x_4)),An ((G5 i)++zs)])))))) (a3G x i)) (a3G x i))) (by kernel_rfl) fun(x:Aa) (hx:x.length<2^62)=>(by
 dsimp only[nL,G5,G6,Z6,Z7,a3G,cA,eA,eN,UM,Ce,nds,An,BJ,CL,rA,Ig,GA,KF,BD,IY,Ik,IM,CD,sgs,srd,AB,AF,mvL,lnL,mvE,lnE,Bn,AV.q]
 have hx:x.length<2^62:=hx
 (repeat' first|(apply c5s<;>try dsimp only)|(apply c5r<;>try dsimp only)|(apply c5q<;>try dsimp only)|(with_reducible first|rfl|exact⟨⟩|apply AG|apply AM)|apply AL|(apply AK<;>try dsimp only)|apply AJ|((try refine AH.2 ?_);intro _;try dsimp only))
 all_goals(try dsimp only[xg,xh,yG,yS,iG,iF] at*)
 all_goals(try simp only[Ic] at*)
 all_goals first
  |(show Nat;skip)
  |(show List (Int×Int);skip)
  |rfl
  |exact hx
  |exact c5o ‹_› ‹_›
  |(rw[b1o ‹_›];rfl)
  |(rw[b1o ‹_›];exact RZ)
  |exact(Yd ‹_› ‹_› ‹_› ‹_› (NN ‹_›)).1
  |exact(Yd ‹_› ‹_› ‹_› ‹_› (NO ‹_›)).1
  |exact a3F (s:=⟨_,0,[]⟩) ‹_›
  |exact(FY (a3F (s:=⟨_,0,[]⟩) ‹_›)).1
  |exact GS (FY (a3F (s:=⟨_,0,[]⟩) ‹_›)).1 ‹_›
  |exact RQ a3q ‹_›
  |exact RQ a3q ‹_› ‹_›
  |assumption
  |omega
  |exact(UL ‹_›).1
  |exact(UL ‹_›).2.1
  |(rw[Yf ‹_› (RX ‹_›) ‹_›];rfl)
  |(rw[Yf ‹_› (RX ‹_›) ‹_›];exact RZ)
  |(rw[(NV ‹_› (RX ‹_›) ‹_›).1 ‹_›];rfl)
  |(rw[(NV ‹_› (RX ‹_›) ‹_›).2 ‹_›];rfl)
  |(rw[(NV ‹_› (RX ‹_›) ‹_›).1 ‹_›];exact RZ)
  |(rw[(NV ‹_› (RX ‹_›) ‹_›).2 ‹_›];exact(UL ‹_›).1)
  |(rw[Yf ‹_› (RY ‹_›) ‹_›];rfl)
  |(rw[Yf ‹_› (RY ‹_›) ‹_›];exact RZ)
  |(rw[(NV ‹_› (RY ‹_›) ‹_›).1 ‹_›];rfl)
  |(rw[(NV ‹_› (RY ‹_›) ‹_›).2 ‹_›];rfl)
  |(rw[(NV ‹_› (RY ‹_›) ‹_›).1 ‹_›];exact RZ)
  |(rw[(NV ‹_› (RY ‹_›) ‹_›).2 ‹_›];exact(UL ‹_›).1)
  |(have hq:=(UL ‹frI _ _ _ _ _ _›).2.2;omega)
  |exact RZ
  |(simp [Bb];done)
  |(have hq:=c5p ‹frI _ _ _ _ _ _›;(try simp only[Bb,Ba,AE,AX]);omega)
  |skip
 all_goals first
  |exact(Yd ‹_› ‹_› ‹_› ‹_› (NN ‹_›)).2
  |exact(Yd ‹_› ‹_› ‹_› ‹_› (NO ‹_›)).2
  |rfl
  |skip)
end Go.My
end
section
namespace Go.My
open Go.Eng Go.Proofs
variable {G:GInv}
def eqF{α:Type}(p:α→α→Bool):List α→List α→Bool
 |[],[]=>true
 |x::a,y::b=>p x y&&eqF p a b
 |_,_=>false
def eqW{α:Type}(p:α→α→Bool)(a b:List α)(i:Int):Prop:=((0≤i∧i≤a.length)∧a.length=b.length)∧eqF p a b=eqF p (a.drop i.toNat) (b.drop i.toNat)
def c5t(x y:Sg):Bool:=decide (x.kind=y.kind)&&(x.text==y.text)
attribute [local irreducible] eqW
end Go.My
end
section
namespace Go.My
open Go.Eng Go.Proofs
variable {G:GInv}
variable {i:Int}{l o:List Sg}
def Ek(l:List Sg)(i:Int):Bool:=decide (i+1<l.length)&&(Gy l i 4 [44]&&(Gy l (i+1) 4 [41]||Gy l (i+1) 4 [93]))
def EM(l:List Sg):Nat→List Sg
 |0=>[]
 |n+1=>if Ek l n then EM l n else EM l n++[sgO l n]
theorem a3H{l:List Sg}:∀ {n:Nat},(EM l n).length≤n
 |0=>Bu _
 |n+1=>by
  have:= @a3H l n
  rw[EM];split
  ·omega
  ·simp;omega
theorem c5u(h0:0≤i)(h:Ek l i=true):EM l i.toNat=EM l (i+1).toNat:=by
 have e:((i.toNat:Nat):Int)=i:=by omega
 rw[show(i+1).toNat=i.toNat+1 by omega,EM,e,if_pos h]
theorem b1q(h0:0≤i)(h:Ek l i=false):EM l i.toNat++[sgO l i]=EM l (i+1).toNat:=by
 have e:((i.toNat:Nat):Int)=i:=by omega
 rw[show(i+1).toNat=i.toNat+1 by omega,EM,e,if_neg (by simp [h])]
def UN(l:List Sg):Nat→List Aa
 |0=>[]
 |n+1=>if(sgO l n).kind=5 then UN l n++[(sgO l n).text] else UN l n
def EN(l:List Sg):List Sg:=EM l l.length
def a3I(l:List Sg):List Aa:=UN l l.length
def lfI(l:List Sg)(i:Int)(o:List Sg):Prop:=(0≤i∧i≤l.length)∧o=EM l i.toNat
theorem b1r:lfI l 0 []:=⟨by omega,rfl⟩
theorem Yg(h:lfI l i o):(0≤i∧i≤l.length)∧o.length≤l.length:=by
 refine⟨h.1,?_⟩
 rw[h.2];have:= @a3H l i.toNat;have:=h.1;omega
theorem a3J(h:lfI l i o)(hi:i<l.length)(hs:Ek l i=true):lfI l (i+1) o:=⟨by have:=h.1;omega,by rw[h.2];exact c5u h.1.1 hs⟩
theorem b1s{e:Sg}(h:lfI l i o)(hi:i<l.length)(he:l[i.toNat]? =some e)(hs:Ek l i=false):lfI l (i+1) (o++[e]):=⟨by have:=h.1;omega,by rw[h.2,←Ia he];exact b1q h.1.1 hs⟩
theorem c5v(h:lfI l i o)(hi:i<l.length)(hs:Ek l i=false):lfI l (i+1) (o++[sgO l i]):=⟨by have:=h.1;omega,by rw[h.2];exact b1q h.1.1 hs⟩
theorem Yh(h:lfI l i o)(hi:¬i<l.length):o=EN l:=by
 rw[h.2,EN,show i.toNat=l.length by have:=h.1;omega]
def ntI(l:List Sg)(i:Int)(o:List Aa):Prop:=(0≤i∧i≤l.length)∧o=UN l i.toNat
theorem c5w{l:List Sg}:(EN l).length≤l.length:= @a3H l l.length
attribute [local irreducible] EM UN lfI ntI EN a3I
def KG:Sig:=⟨List Sg×Int,fun x=>[sgs x.1,.q x.2],fun x=>(0≤x.2∧x.2<x.1.length)∧x.1.length<2^62,Unit,fun x y=>True,fun x y=> .bool (Ek x.1 x.2),fun x y=>[.top,.top],false,[],[]⟩
theorem c5x:CtG G 39 KG:=
 vFq [] [] (fun x=>[]) Tryz.func39 trivial (fun x=>U4∧inR .i64 (x.2+(1:Int))∧Ae (decide (x.2+1≥(nL x.1))) (rA KG x [.bool false,.top,.top]) ((0≤x.2∧x.2<(nL x.1))∧∀(e:Sg),x.1[Int.toNat x.2]? =some e→Ae (e.kind != 4) (rA KG x [.bool false,.top,.top]) ((0≤x.2∧x.2<(nL x.1))∧∀(e:Sg),x.1[Int.toNat x.2]? =some e→Ae (!e.text== #[(44:UInt8)].toList) (rA KG x [.bool false,.top,.top]) (inR .i64 (x.2+(1:Int))∧(0≤x.2+(1:Int)∧x.2+1<(nL x.1))∧∀(e:Sg),x.1[Int.toNat (x.2+(1:Int))]? =some e→Ae (e.kind==4) (Ae (e.text== #[(41:UInt8)].toList) (rA KG x [.bool true,.top,.top]) (rA KG x [.bool (e.text== #[(93:UInt8)].toList),.top,.top])) (rA KG x [.bool false,.top,.top]))))) (by kernel_rfl) fun(x:List Sg×Int) (hx:(0≤x.2∧x.2<x.1.length)∧x.1.length<2^62)=>(by
 dsimp only[nL,U4,rA,KG,CD,sgs,AB,AF,AV.q]
 obtain⟨h1,h2⟩:=hx
 (repeat' first|(with_reducible first|rfl|exact⟨⟩|apply AG|apply AM)|apply AL|(apply AK<;>try dsimp only)|apply AJ|((try refine AH.2 ?_);intro _;try dsimp only))
 all_goals(repeat(rename x.1[_]? =some _=>hq;have hq2:=Ia hq;clear hq;subst hq2))
 all_goals first
  |rfl
  |((try simp only[Aw]);omega)
  |(rw[DR];simp [Ek,Gy, *];done)
  |(rw[DR];simp [Ek,Gy, *];omega)
  |skip)
def Sa:Sig:=⟨List Sg,fun x=>[sgs x],fun x=>x.length<2^30,Unit,fun x y=>True,fun x y=>sgs (EN x),fun x y=>[.top],true,[],[]⟩
def UO(x:List Sg):LS:=⟨Int×List Sg,fun i=>lfI x i.1 i.2,fun i=>[(0,sgs x),(3,CL i.2),(6,sgs x),(7,.q x.length),(8,.q i.1)],[],fun i=>x.length-i.1.toNat,fun _=>[],[]⟩
theorem c5y:CtG G 24 Sa:=
 vFq [(39,0,KG)] [(32,⟨Sg,sgA⟩)] (fun x=>[(3,UO x)]) Tryz.func24 ⟨c5x,trivial⟩ (fun(x:List Sg)=>True∧eA (UO x) [sgs x,.nil,sgs x,.q (nL x),.q 0]∧∀(i:Int×List Sg),lfI x i.1 i.2→Ae (decide (i.1<(nL x))) ((0≤i.1∧i.1<(nL x))∧∀(e:Sg),x[Int.toNat i.1]? =some e→cA KG [sgs x,.q i.1] fun x_1 y=>Ae (!Ek x_1.1 x_1.2) (∃(x_2:Sg),e.kind=x_2.kind∧e.text=x_2.text∧e.pos=x_2.pos∧e.blank=x_2.blank∧∃(zs:List Sg),CL [x_2]=CL zs∧Ca sgA∧Bb (i.2.length+zs.length) (40:Nat)∧inR .i64 (i.1+(1:Int))∧eN (UO x) i [sgs x,CL (i.2++zs),sgs x,.q (nL x),.q (i.1+(1:Int))]) (inR .i64 (i.1+(1:Int))∧eN (UO x) i [sgs x,CL i.2,sgs x,.q (nL x),.q (i.1+(1:Int))])) (rA Sa x [CL i.2,.top])) (by kernel_rfl) fun(x:List Sg) (hx:x.length<2^30)=>(by
 dsimp only[nL,cA,eA,eN,UO,CL,rA,Sa,KG,CD,sgs,AB,AF,mvL,lnL,mvE,lnE,Bn,AV.q]
 have hx:x.length<2^30:=hx
 (repeat' first|(with_reducible first|rfl|exact⟨⟩|apply AG|apply AM)|apply AL|(apply AK<;>try dsimp only)|apply AJ|((try refine AH.2 ?_);intro _;try dsimp only))
 all_goals first
  |rfl
  |exact b1r
  |exact a3J ‹_› ‹_› ‹_›
  |exact b1s ‹_› ‹_› ‹_› ‹_›
  |exact Yh ‹_› ‹_›
  |exact congrArg _ (Yh ‹_› ‹_›)
  |omega
  |(have hq:=Yg ‹lfI _ _ _›;(try simp only[Aw]);omega)
  |(have hq:=Yg ‹lfI _ _ _›;(try simp only[Bb,Ba,AE,AX]);omega)
  |skip)
def Sb:Sig:=⟨List Sg,fun x=>[sgs x],fun x=>x.length<2^30,Unit,fun x y=>True,fun x y=>sgs (EN x),fun x y=>[.top],true,[],[]⟩
def Sc(x:List Sg):LS:=⟨Int×List Sg,fun i=>lfI x i.1 i.2,fun i=>[(0,sgs x),(3,CL i.2),(4,.q i.1)],[],fun i=>x.length-i.1.toNat,fun _=>[],[]⟩
def Sd(x:List Sg)(i:Int×List Sg):Prop:=(0≤i.1∧i.1<(nL x))∧(∀(e:Sg),x[Int.toNat i.1]? =some e→∃(x_1:Sg),e.kind=x_1.kind∧e.text=x_1.text∧e.pos=x_1.pos∧e.blank=x_1.blank∧(∃(zs:List Sg),CL [x_1]=CL zs∧(Ca sgA∧(Bb (i.2.length+zs.length) (40:Nat)∧inR .i64 (i.1+(1:Int))∧eN (Sc x) i [sgs x,CL (i.2++zs),.q (i.1+(1:Int))]))))
theorem c5z:CtG G 26 Sb:=
 vFq [] [(32,⟨Sg,sgA⟩)] (fun x=>[(3,Sc x)]) Tryz.func26 trivial (fun(x:List Sg)=>True∧eA (Sc x) [sgs x,CL [],.q 0]∧∀(i:Int×List Sg),lfI x i.1 i.2→Ae (decide (i.1<(nL x))) ((0≤i.1∧i.1<(nL x))∧∀(e:Sg),x[Int.toNat i.1]? =some e→Ae (e.kind==4) ((0≤i.1∧i.1<(nL x))∧∀(e:Sg),x[Int.toNat i.1]? =some e→Ae (e.text== #[(44:UInt8)].toList) (inR .i64 (i.1+(1:Int))∧Ae (decide (i.1+1<(nL x))) (inR .i64 (i.1+(1:Int))∧(0≤i.1+(1:Int)∧i.1+1<(nL x))∧∀(e:Sg),x[Int.toNat (i.1+(1:Int))]? =some e→Ae (e.kind==4) (inR .i64 (i.1+(1:Int))∧(0≤i.1+(1:Int)∧i.1+1<(nL x))∧∀(e:Sg),x[Int.toNat (i.1+(1:Int))]? =some e→Ae (e.text== #[(41:UInt8)].toList) (inR .i64 (i.1+(1:Int))∧eN (Sc x) i [sgs x,CL i.2,.q (i.1+(1:Int))]) (inR .i64 (i.1+(1:Int))∧(0≤i.1+(1:Int)∧i.1+1<(nL x))∧∀(e:Sg),x[Int.toNat (i.1+(1:Int))]? =some e→Ae (e.text== #[(93:UInt8)].toList) (inR .i64 (i.1+(1:Int))∧eN (Sc x) i [sgs x,CL i.2,.q (i.1+(1:Int))]) (Sd x i))) (Sd x i)) (Sd x i)) (Sd x i)) (Sd x i)) (rA Sb x [CL i.2,.top])) (by kernel_rfl) fun(x:List Sg) (hx:x.length<2^30)=>(by
 dsimp only[nL,Sd,eA,eN,Sc,CL,rA,Sb,CD,sgs,AB,AF,Bn,AV.q]
 have hx:x.length<2^30:=hx
 (repeat' first|(with_reducible first|rfl|exact⟨⟩|apply AG|apply AM)|apply AL|(apply AK<;>try dsimp only)|apply AJ|((try refine AH.2 ?_);intro _;try dsimp only))
 all_goals first
  |rfl
  |exact b1r
  |exact a3J ‹_› ‹_› ‹_›
  |exact b1s ‹_› ‹_› ‹_› ‹_›
  |exact Yh ‹_› ‹_›
  |exact congrArg _ (Yh ‹_› ‹_›)
  |omega
  |(have hq:=Yg ‹lfI _ _ _›;(try simp only[Aw]);omega)
  |(have hq:=Yg ‹lfI _ _ _›;(try simp only[Bb,Ba,AE,AX]);omega)
  |skip
 all_goals(repeat(rename x[_]? =some _=>hq;have hq2:=Ia hq;clear hq;subst hq2))
 all_goals first
  |(refine a3J ‹_› ‹_› ?_;simp [Ek,Gy, *];done)
  |(refine c5v ‹_› ‹_› ?_;simp [Ek,Gy, *];done)
  |skip)
def kwF(p q:List Sg):Bool:=eqF c5t (EN p) (EN q)
def sgD(t:Aa):List Sg:=(Cr t).getD []
attribute [local irreducible] CX Cr kwF sgD eqF
end Go.My
end
section
namespace Go.My
open Go.Eng
variable {i k:Int}{sg sg2:List Sg}
def FL(L:List Nd)(k:Int):List Sg:=HF L (L.length+1) k
theorem Yi{f g:Int→List Sg}:∀ {l:Ad},(∀c∈l,f c=g c)→l.flatMap f=l.flatMap g
 |[],_=>rfl
 |c::l,h=>by rw[GV,GV,h c (by simp),Yi fun d hd=>h d (by simp [hd])]
theorem a3K{f g:Int→List Sg}{m:Aa}:∀ {l:Ad},(∀c∈l,f c=g c)→BH f m l=BH g m l
 |[],_=>rfl
 |c::l,h=>by
  rw[BH,BH,h c (by simp)]
  congr 1
  exact Yi (f:=fun d=>mkS m::f d) (g:=fun d=>mkS m::g d) fun d hd=>by show mkS m::f d=mkS m::g d;rw[h d (by simp [hd])]
theorem Yj{f g:Int→List Sg}{x:Nd}(hl:(Ci x.kind).1≤x.kids.length)(h:∀c∈x.kids,f c=g c):Bv f x=Bv g x:=by
 have h0:∀i:Nat,i<x.kids.length→f (kd x i)=g (kd x i):=fun i hi=>by
  refine h _ ?_
  have e:x.kids[i]? =some x.kids[i]:=DS hi
  rw[Dw e];exact List.getElem_mem hi
 have hs:∀m,BH f m x.kids=BH g m x.kids:=fun m=>a3K h
 have hd:∀m,BH f m (x.kids.drop 1)=BH g m (x.kids.drop 1):=fun m=>a3K fun c hc=>h c (Iw hc)
 have ht:∀m n,BH f m (x.kids.take n)=BH g m (x.kids.take n):=fun m n=>a3K fun c hc=>h c (GX hc)
 have hf:x.kids.flatMap f=x.kids.flatMap g:=Yi h
 have hk:x.kind=5∨x.kind=9∨x.kind=20∨x.kind=6∨x.kind=11∨x.kind=13∨x.kind=14→1≤x.kids.length:=by
  intro hk
  have:(Ci x.kind).1=1:=by rcases hk with e|e|e|e|e|e|e<;>rw[e]<;>rfl
  omega
 have h8:x.kind=8→3≤x.kids.length:=by intro e;have:(Ci x.kind).1=3:=(by rw[e];rfl);omega
 have h16:x.kind=16∨x.kind=17→2≤x.kids.length:=by
  intro hk
  have:(Ci x.kind).1=2:=by rcases hk with e|e<;>rw[e]<;>rfl
  omega
 unfold Bv
 refine ite_congr rfl (fun _=>rfl) fun _=> ?_
 refine ite_congr rfl (fun _=>rfl) fun _=> ?_
 refine ite_congr rfl (fun _=>rfl) fun _=> ?_
 refine ite_congr rfl (fun _=>by rw[hs]) fun _=> ?_
 refine ite_congr rfl (fun e=>by rw[h0 0 (by have:=hk (by omega);omega),hd]) fun _=> ?_
 refine ite_congr rfl (fun e=>by rw[h0 0 (by have:=hk (by omega);omega)]) fun _=> ?_
 refine ite_congr rfl (fun _=>by rw[hs]) fun _=> ?_
 refine ite_congr rfl (fun e=>by have:=h8 e;rw[h0 0 (by omega),h0 1 (by omega),h0 2 (by omega)]) fun _=> ?_
 refine ite_congr rfl (fun e=>by have:=hk (by omega);rw[ht,h0 _ (by omega)]) fun _=> ?_
 refine ite_congr rfl (fun _=>by rw[hs]) fun _=> ?_
 refine ite_congr rfl (fun e=>by rw[h0 0 (by have:=hk (by omega);omega)]) fun _=> ?_
 refine ite_congr rfl (fun _=>by rw[hf]) fun _=> ?_
 refine ite_congr rfl (fun _=>by rw[hf]) fun _=> ?_
 refine ite_congr rfl (fun _=>by rw[hf]) fun _=> ?_
 refine ite_congr rfl (fun _=>by rw[hf]) fun _=> ?_
 refine ite_congr rfl (fun e=> ?_) fun _=> ?_
 ·have:=h16 (by omega)
  rw[h0 0 (by omega),h0 1 (by omega)]
  congr 1
  exact ite_congr rfl (fun e3=>by rw[h0 2 (by omega)]) fun _=>rfl
 refine ite_congr rfl (fun e=>by have:=h16 (by omega);rw[h0 0 (by omega),h0 1 (by omega)]) fun _=> ?_
 refine ite_congr rfl (fun _=>by rw[hf]) fun _=> ?_
 refine ite_congr rfl (fun _=>rfl) fun _=> ?_
 refine ite_congr rfl (fun e=>by have:=hk (by omega);rw[ht,h0 _ (by omega)]) fun _=> ?_
 exact ite_congr rfl (fun _=>by rw[hf]) fun _=>by rw[hf]
theorem b1t{L:List Nd}:∀ {n m:Nat} {k:Int},BB L k→k<n→k<m→HF L n k=HF L m k
 |0,_,k,h,h1,_=>by have:=BF.1 h.1;omega
 |_,0,k,h,_,h2=>by have:=BF.1 h.1;omega
 |n+1,m+1,k,h,h1,h2=>by
  rw[HF,HF]
  have hs:=GN h
  have hm:∀c∈(Ab L k).kids,HF L n c=HF L m c:=fun c hc=>by
   have:=CQ h hc
   exact b1t this.1 (by omega) (by omega)
  exact Yj hs.2.1 hm
def KH(L:List Nd):Prop:=∀i:Nat,i<L.length→DC L i=true
theorem MF{L:List Nd}(h:KH L)(h0:0≤k)(hk:k<L.length):BB L k:=⟨BF.2 ⟨h0,hk⟩,fun i hi=>h i (by omega)⟩
theorem UP{L:List Nd}(h:KH L)(h0:0≤k)(hk:k<L.length):FL L k=Bv (FL L) (Ab L k):=by
 have hu:=MF h h0 hk
 rw[FL,HF]
 refine Yj (GN hu).2.1 fun c hc=> ?_
 have:=CQ hu hc
 exact b1t this.1 (by omega) (by omega)
theorem bind_some{α β:Type}{o:Option α}{f:α→Option β}{r:β}(h:o.bind f=some r):∃a,o=some a∧f a=some r:=BP.1 h
def JT(sg:List Sg)(n:Nat):Nat:=(EM sg n).length
theorem a3L{n:Nat}:JT sg (n+1)=JT sg n+if Ek sg n then 0 else 1:=by
 unfold JT
 rw[EM]
 split<;>simp
theorem b1u{sg:List Sg}{m:Nat}:∀ {n:Nat},m≤n→JT sg m≤JT sg n
 |0,h=>by rw[show m=0 by omega];exact Bu _
 |n+1,h=>by
  by_cases e:m=n+1
  ·subst e;exact Bu _
  ·have:=b1u (sg:=sg) (m:=m) (n:=n) (by omega)
   rw[a3L];omega
theorem b1v{sg:List Sg}{n:Nat}(hs:Ek sg (n:Int)=false):∀ {m:Nat},n<m→(EM sg m)[JT sg n]? =some (sgO sg n)
 |0,h=>by omega
 |m+1,h=>by
  by_cases e:n=m
  ·subst e
   rw[EM,hs]
   simp only[Bl,Br]
   unfold JT
   rw[LQ (Bu _)]
   simp
  ·have h1:=b1v hs (m:=m) (by omega)
   rw[EM]
   split
   ·exact h1
   ·rw[Le (Ec h1).1];exact h1
structure Rg where
 fr:Int
 tuu:Int
def nb(x:Nd):Nd:=⟨x.kind,x.text,x.kids,false⟩
def muK(sg:List Sg)(i:Int):Int:=JT sg i.toNat
structure LKS (sg sg2:List Sg):Prop where
 toks:sg2.map kt=(EN sg).map kt
 blank:∀e∈sg2,e.blank=false
 cc:nCC (sg.map kt)
 tx:∀e∈sg,(e.text=[44]∨e.text=[41]∨e.text=[61,62])→e.kind=4
theorem c5A(h0:0≤i)(h:Ek sg i=false):muK sg (i+1)=muK sg i+1:=by
 unfold muK
 rw[show(i+1).toNat=i.toNat+1 by omega,a3L,show((i.toNat:Nat):Int)=i by omega,h];simp
theorem c5B(h0:0≤i)(h:Ek sg i=true):muK sg (i+1)=muK sg i:=by
 unfold muK
 rw[show(i+1).toNat=i.toNat+1 by omega,a3L,show((i.toNat:Nat):Int)=i by omega,h];simp
theorem c5C{j:Int}(h:i≤j):muK sg i≤muK sg j:=by
 unfold muK
 have:=b1u (sg:=sg) (m:=i.toNat) (n:=j.toNat) (by omega);omega
theorem Yk(h:Ek sg i=true):tkK sg i=cmK∧EA (tkK sg (i+1))=true∧i+1<sg.length:=by
 simp only[Ek,AY,CG,Bf,Gy,DB] at h
 refine⟨by unfold tkK kt;rw[h.2.1.1,h.2.1.2];rfl,?_,h.1⟩
 unfold EA tkK kt
 rcases h.2.2 with h|h<;>rw[h.1,h.2]<;>decide
theorem a3M(h:tkK sg i≠cmK):Ek sg i=false:=by
 cases hh:Ek sg i with
 |false=>rfl
 |true=>exact(h (Yk hh).1).elim
theorem c5D(h0:0≤i)(h:tkK sg i=cmK)(hc:EA (tkK sg (i+1))=true):Ek sg i=true:=by
 have h1:(tkK sg (i+1)).1≠0:=by
  simp only[EA,CG,DB] at hc
  rcases hc with hc|hc<;>rw[hc]<;>decide
 have hl:=Xe h1 (by omega)
 have a1:(sgO sg i).kind=4:=congrArg Prod.fst h
 have a2:(sgO sg i).text=[44]:=congrArg Prod.snd h
 simp only[Ek,AY,CG,Bf,Gy,DB]
 refine⟨hl,⟨a1,a2⟩,?_⟩
 simp only[EA,CG,DB] at hc
 exact hc.imp (fun h=>⟨congrArg Prod.fst h,congrArg Prod.snd h⟩) (fun h=>⟨congrArg Prod.fst h,congrArg Prod.snd h⟩)
theorem a3N(h:(sg.length:Int)≤i):tkK sg i=(0,[]):=by
 unfold tkK kt sgO;rw[List.getD,Gi (by omega)];rfl
theorem LKS.len(h:LKS sg sg2):(sg2.length:Int)=muK sg sg.length:=by
 have:=congrArg List.length h.toks
 simp only[Fv] at this
 rw[this];unfold muK JT EN;simp
theorem LKS.ns(h:LKS sg sg2)(h0:0≤i)(hs:Ek sg i=false):tkK sg2 (muK sg i)=tkK sg i:=by
 by_cases hl:i<sg.length
 ·have h1:=b1v (sg:=sg) (n:=i.toNat) (by rw[show((i.toNat:Nat):Int)=i by omega];exact hs) (m:=sg.length) (by omega)
  have h2:((EN sg).map kt)[JT sg i.toNat]? =some (kt (sgO sg (i.toNat:Int))):=by rw[LR];unfold EN;rw[h1];rfl
  rw[←h.toks,LR,FM] at h2
  obtain⟨e,h3,h4⟩:=h2
  unfold tkK sgO muK
  rw[List.getD,show((JT sg i.toNat:Nat):Int).toNat=JT sg i.toNat from LN _,h3,LT,h4]
  rw[show((i.toNat:Nat):Int)=i by omega];rfl
 ·have h1:=c5C (sg:=sg) (i:=sg.length) (j:=i) (by omega)
  rw[a3N (sg:=sg2) (by rw[h.len];exact h1),a3N (by omega)]
theorem LKS.sp(h:LKS sg sg2)(h0:0≤i)(hs:Ek sg i=true):tkK sg2 (muK sg i)=tkK sg (i+1):=by
 obtain⟨h1,h2,h3⟩:=Yk hs
 have hn:Ek sg (i+1)=false:=a3M (by
  intro e;rw[e] at h2;simp [EA,cmK] at h2)
 rw[←c5B h0 hs];exact h.ns (by omega) hn
theorem LKS.bl(h:LKS sg sg2)(i:Int):(sgO sg2 i).blank=false:=by
 unfold sgO
 rw[List.getD]
 cases hh:sg2[i.toNat]? with
 |none=>rfl
 |some e=>exact h.blank e (Iv hh)
theorem LKS.tk(h:LKS sg sg2)(h0:0≤i)(hn:tkK sg i≠cmK):tkK sg2 (muK sg i)=tkK sg i∧muK sg (i+1)=muK sg i+1:=⟨h.ns h0 (a3M hn),c5A h0 (a3M hn)⟩
theorem LKS.nm(h:LKS sg sg2)(h0:0≤i):DF sg2 (muK sg i)=DF sg i:=by
 have e:∀l j,DF l j=(decide ((tkK l j).1=1)&& !kw (tkK l j).2):=fun _ _=>rfl
 rw[e,e]
 cases hs:Ek sg i with
 |false=>rw[h.ns h0 hs]
 |true=>
  obtain⟨h1,h2,_⟩:=Yk hs
  rw[h.sp h0 hs,h1]
  simp only[EA,CG,DB] at h2
  rcases h2 with h2|h2<;>rw[h2]<;>rfl
def VTK(k:Int)(x:Aa):Prop:=(x≠[]∧(x.headD 0).toNat≠32∧(x.headD 0).toNat≠10)∧
 ∀rest:Aa,((k=5∧∃r,rest=10::r)∨(k≠5∧(rest=[]∨∃r,rest=32::r)))→AW (x++rest)=⟨k,x,x.length,true⟩
theorem Se{p:UInt8→Bool}:∀ {w rest:Aa},(∀c∈w,p c=true)→(∀c,rest.head? =some c→p c=false)→(w++rest).takeWhile p=w
 |[],[],_,_=>rfl
 |[],c::r,_,h=>by rw[Hr,Js,h c rfl];rfl
 |c::w,rest,h1,h2=>by
  rw[EW,Js,h1 c (by simp)]
  simp only[BN]
  rw[Se (fun d hd=>h1 d (by simp [hd])) h2]
theorem Sf{p:UInt8→Bool}:∀ {l:Aa} {c:UInt8},c∈l.takeWhile p→p c=true
 |[],c,h=>by simp at h
 |d::l,c,h=>by
  rw[Js] at h
  split at h
  ·rename_i hd
   rcases EX.1 h with rfl|h
   ·exact hd
   ·exact Sf h
  ·cases h
theorem a3O{p:UInt8→Bool}:∀ {u rest:Aa} {i:Nat},Dk p u=some i→Dk p (u++rest)=some i
 |[],_,i,h=>by simp [Dk] at h
 |c::u,rest,i,h=>by
  rw[EW]
  unfold Dk at h ⊢
  split
  ·rename_i hc;rw[if_pos hc] at h;exact h
  ·rename_i hc
   rw[if_neg hc,FM] at h
   obtain⟨j,h1,rfl⟩:=h
   rw[a3O h1];rfl
theorem b1w{p:UInt8→Bool}:∀ {u:Aa} {i:Nat},Dk p u=some i→Dk p (u.take (i+1))=some i
 |[],i,h=>by simp [Dk] at h
 |c::u,i,h=>by
  unfold Dk at h
  split at h
  ·rename_i hc
   simp only[AS] at h;subst h
   rw[Kh];unfold Dk;rw[if_pos hc]
  ·rename_i hc
   rw[FM] at h
   obtain⟨j,h1,rfl⟩:=h
   rw[Kh];unfold Dk;rw[if_neg hc,b1w h1];rfl
theorem Sh{b:UInt8}(h:BQ b=true∨Bh b=true∨b.toNat=39):b.toNat≠32∧b.toNat≠10:=by
 simp only[BQ,Bh,CG,AY,Bf] at h;omega
theorem a3P{rest:Aa}(hk:k≠5)(h:(k=5∧∃r,rest=10::r)∨(k≠5∧(rest=[]∨∃r,rest=32::r))):rest=[]∨∃r,rest=32::r:=by
 rcases h with h|h
 ·exact(hk h.1).elim
 ·exact h.2
theorem c5E{b:UInt8}:BW [b,32]=false:=by simp [BW,mk2]
theorem Yl{x:Aa}(h:BW x=true):x≠[]∧(x.headD 0).toNat≠32∧(x.headD 0).toNat≠10:=by
 match x with
 |[]=>simp [BW,mk2] at h
 |[c]=>
  simp only[BW,mk2,CG,DB,List.elem_iff] at h
  refine⟨by simp,?_⟩
  simp only[Nb]
  have:c∈mk1:=by rcases h with h|h;(·simp at h);exact h
  simp only[mk1,EX,List.not_mem_nil,or_false] at this
  rcases this with rfl|rfl|rfl|rfl|rfl|rfl|rfl|rfl|rfl|rfl|rfl|rfl|rfl|rfl|rfl|rfl<;>decide
 |c::d::l=>
  have h:mk2 (c::d::l)=true:=by simpa [BW] using h
  simp only[mk2,CG,DB,HQ] at h
  refine⟨by simp,?_⟩
  simp only[Nb]
  rcases h with h|h|h|h|h<;>(rw[h.1];decide)
theorem b1x{s:Aa}(h:(AW s).ok=true):VTK (AW s).kind (AW s).text:=by
 cases s with
 |nil=>simp [AW] at h
 |cons b t=>
  by_cases h1:BQ b=true
  ·rw[Ub h1] at h ⊢
   simp only[Bf] at h ⊢
   have hi:=b7Y h1
   have e:(b::t).takeWhile BA=b::t.takeWhile BA:=by rw[Js,hi];rfl
   rw[e] at h ⊢
   refine⟨⟨by simp,(Sh (.inl h1))⟩,fun rest hr=> ?_⟩
   have hr:=a3P (by decide) hr
   have e2:(b::(t.takeWhile BA++rest)).takeWhile BA=b::t.takeWhile BA:=by
    rw[←EW]
    refine Se (fun c hc=> ?_) fun c hc=> ?_
    ·rcases EX.1 hc with rfl|hc
     ·exact hi
     ·exact Sf hc
    ·rcases hr with rfl|⟨r,rfl⟩
     ·cases hc
     ·simp at hc;subst hc;decide
   rw[EW,Ub h1,e2,Ht h]
  ·have h1:BQ b=false:=by simpa using h1
   by_cases h2:Bh b=true
   ·rw[Uc h1 h2] at h ⊢
    simp only[Bf] at h ⊢
    have e:(b::t).takeWhile Bh=b::t.takeWhile Bh:=by rw[Js,h2];rfl
    rw[e] at h ⊢
    refine⟨⟨by simp,(Sh (.inr (.inl h2)))⟩,fun rest hr=> ?_⟩
    have hr:=a3P (by decide) hr
    have e2:(b::(t.takeWhile Bh++rest)).takeWhile Bh=b::t.takeWhile Bh:=by
     rw[←EW]
     refine Se (fun c hc=> ?_) fun c hc=> ?_
     ·rcases EX.1 hc with rfl|hc
      ·exact h2
      ·exact Sf hc
     ·rcases hr with rfl|⟨r,rfl⟩
      ·cases hc
      ·simp at hc;subst hc;decide
    rw[EW,Uc h1 h2,e2,Ht h]
   ·have h2:Bh b=false:=by simpa using h2
    by_cases h3:b.toNat=39
    ·have e:∀l,AW (b::l)=⟨3,(Df (b::l)).1,(Df (b::l)).1.length,(Df (b::l)).2⟩:=fun l=>by
      simp only[AW,h1,h2,h3,Bl,Br,BN]
     rw[e] at h ⊢
     simp only at h ⊢
     rw[Ud] at h ⊢
     simp only[Na,GU] at h ⊢
     cases hi:Dk isQ t with
     |none=>rw[hi] at h;cases h
     |some i=>
      rw[hi] at h
      simp only at h ⊢
      have hlt:=Ue hi
      rw[Kh] at h ⊢
      refine⟨⟨by simp,(Sh (.inr (.inr h3)))⟩,fun rest hr=> ?_⟩
      have e3:Df (b::(t.take (i+1)++rest))=(b::t.take (i+1),true):=by
       rw[Ud]
       simp only[Na,GU]
       rw[a3O (b1w hi)]
       simp only
       have:(b::(t.take (i+1)++rest)).take (i+2)=b::t.take (i+1):=by
        rw[Kh,List.take_left' (by rw[DU];omega)]
       rw[this,h]
      rw[EW,e,e3]
    ·by_cases h4:(b::t).take 2=[47,47]
     ·have e:∀l,(b::l).take 2=[47,47]→AW (b::l)=⟨5,Cv ((b::l).takeWhile Cb),((b::l).takeWhile Cb).length,((b::l).takeWhile Cb).all BV⟩:=fun l hl=>by
       simp only[AW,h1,h2,h3,hl,Bl,Br,BN]
      rw[e t h4] at h ⊢
      simp only at h ⊢
      obtain⟨n,hn⟩:=a8s ((b::t).takeWhile Cb)
      obtain⟨rfl,c,u,rfl,rfl⟩:b=47∧∃c u,t=c::u∧c=47:=by
       cases t with
       |nil=>simp at h4
       |cons c u=>simp at h4;exact⟨h4.1,c,u,rfl,h4.2⟩
      have ew:(47::47::u).takeWhile Cb=47::47::u.takeWhile Cb:=by
       rw[Js,Js];rfl
      have h2n:∃v,Cv (47::47::u.takeWhile Cb)=47::47::v:=by
       have:∀(w:Aa) (n:Nat),w.length=n→∃v,Cv (47::47::w)=47::47::v:=by
        intro w n
        induction n generalizing w with
        |zero=>intro hw;rw[Hq.1 hw];exact⟨[],rfl⟩
        |succ n ih=>
         intro hw
         have hne:w≠[]:=by intro e;rw[e] at hw;cases hw
         have ed:=(List.dropLast_concat_getLast hne).symm
         rw[ed]
         have:(47::47::(w.dropLast++[w.getLast hne]):Aa)=(47::47::w.dropLast)++[w.getLast hne]:=by simp
         rw[this,a1X]
         split
         ·exact ih _ (by rw[List.length_dropLast];omega)
         ·exact⟨w.dropLast++[w.getLast hne],by simp⟩
       exact this _ _ rfl
      obtain⟨v,hv⟩:=h2n
      rw[ew] at h hn ⊢
      rw[hv] at hn ⊢
      have hmem:∀c∈(47::47::v:Aa),Cb c=true∧BV c=true:=by
       intro c hc
       rw[hn] at hc
       have hc:=GX hc
       refine⟨?_,CC.1 h c hc⟩
       rw[←ew] at hc;exact Sf hc
      refine⟨⟨by simp,by simp,by simp⟩,fun rest hr=> ?_⟩
      obtain⟨r,rfl⟩:∃r,rest=10::r:=by rcases hr with hr|hr;exact hr.2;exact(hr.1 rfl).elim
      have e3:((47::47::v)++10::r:Aa).takeWhile Cb=47::47::v:=Se (fun c hc=>(hmem c hc).1) (fun c hc=>by simp at hc;subst hc;decide)
      have e4:Cv (47::47::v)=47::47::v:=by
       have:∀x:Aa,Cv (Cv x)=Cv x:=by
        intro x
        unfold Cv
        rw[List.reverse_reverse]
        congr 1
        generalize x.reverse=y
        induction y with
        |nil=>rfl
        |cons a y ih=>
         rw[List.dropWhile_cons]
         split
         ·exact ih
         ·rename_i ha
          rw[List.dropWhile_cons,if_neg ha]
       rw[←hv];exact this _
      have:=e (47::v++10::r) (by simp)
      rw[show(47::47::v)++10::r=47::(47::v++10::r) from rfl,this,show(47::(47::v++10::r):Aa)=(47::47::v)++10::r from rfl,e3,e4]
      have:(47::47::v:Aa).all BV=true:=CC.2 fun c hc=>(hmem c hc).2
      rw[this]
     ·have eM:∀l,(b::l).take 2≠[47,47]→AW (b::l)=if BW ((b::l).take 2) then⟨4,(b::l).take 2,((b::l).take 2).length,true⟩ else if BW ((b::l).take 1) then⟨4,(b::l).take 1,1,true⟩ else⟨0,[],0,false⟩:=fun l hl=>by
       simp only[AW,h1,h2,h3,hl,Bl,Br]
      have one:BW [b]=true→VTK 4 [b]:=fun hm=>by
       refine⟨Yl hm,fun rest hr=> ?_⟩
       have hr:=a3P (by decide) hr
       rcases hr with rfl|⟨r,rfl⟩
       ·rw[GE,eM [] (by simp)]
        simp [hm]
       ·rw[List.singleton_append,eM (32::r) (by simp)]
        simp [c5E,hm]
      rw[eM t h4] at h ⊢
      by_cases h5:BW ((b::t).take 2)=true
      ·rw[if_pos h5] at h ⊢
       simp only at h ⊢
       cases t with
       |nil=>exact one h5
       |cons c u=>
        have e2:(b::c::u).take 2=[b,c]:=rfl
        rw[e2] at h5 h4 ⊢
        refine⟨Yl h5,fun rest hr=> ?_⟩
        rw[show [b,c]++rest=b::c::rest from rfl,eM (c::rest) h4,show(b::c::rest).take 2=[b,c] from rfl,if_pos h5]
      ·rw[if_neg h5] at h ⊢
       by_cases h6:BW ((b::t).take 1)=true
       ·rw[if_pos h6];exact one h6
       ·rw[if_neg h6] at h;cases h
def a3Q:List Sg→Aa
 |[]=>[]
 |e::l=>e.text++((if e.kind=5 then [10] else if l=[] then [] else [32])++a3Q l)
end Go.My
end
