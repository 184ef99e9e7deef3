/- joined -/
import Derived.Test.YtblmpjljedglaaaGreatDoorQI
set_option linter.unusedSimpArgs false
set_option linter.unusedVariables false
section
namespace Go.My
open Go.Eng Go.Proofs
variable {G:GInv}
variable {N n:Nat}{c q z:Int×Gs}{e:Sg}{i:Int}{ks:List Int}{m:List UInt8}{s:ST}{sg:List Sg}{x y:Gs}
def okQ(s:ST)(x:Gs):Prop:=okD s x∧sgM s.sg
theorem EX(h:okQ s x):okD s x:=h.1
theorem OB(h:okQ s x):sgM s.sg:=h.2
theorem Kb(h:isG sg x 1 m=false):BK sg x m=x:=by simp [BK,h]
theorem Kc(h:isG sg x 1 m=true):BK sg x m=Aw x:=by simp [BK,h]
theorem GL(h:okQ s x)(hq:isG s.sg x 1 m=true):okQ s (Aw x):=⟨a5p h.1 hq,h.2⟩
theorem Zs(h:okQ s x):rOk s (Bh s.sg x 1)∧rOk s (AS s.sg (Bh s.sg x 1) [61]):=by
 have a:=HW (k:=1) h.1.1 (by omega);exact⟨a,FY a⟩
theorem b9o(h:okQ s x)(hq:isG s.sg (Bh s.sg x 1) 4 [61]=true):okQ s (AS s.sg (Bh s.sg x 1) [61]):=by
 rw[II.1] at hq ⊢
 exact⟨b7g h.1.1 h.1.2 hq,h.2⟩
theorem b9p(h:okQ s x)(hq:isG s.sg (Bh s.sg x 1) 4 [61]=true)(hz:Ah s.sg (AS s.sg (Bh s.sg x 1) [61]) (Cl s.sg) z):
 Ah s.sg x (DN s.sg false) (AY (AP s.sg z.2 [59]),Ax (AP s.sg z.2 [59]) ⟨12,Bz s.sg x 1,[z.1],false⟩):=by
 rw[II.1] at hq hz;rw[II.2]
 exact IH (Gt hz) (Fp (JW h.1.1.1) (by simp)) (b7h h.1.1 hq hz)
theorem b9q(h:okQ s x)(hq:isG s.sg (Bh s.sg x 1) 4 [61]=false):
 Ah s.sg x (DN s.sg false) (AY (AP s.sg (AS s.sg (Bh s.sg x 1) [61]) [59]),Ax (AP s.sg (AS s.sg (Bh s.sg x 1) [61]) [59]) ⟨12,Bz s.sg x 1,[],false⟩):=by
 rw[II.1] at hq ⊢;rw[II.2]
 exact IH (b7i h.1.1 hq).2 (Fp (JW h.1.1.1) (by simp)) (b7j h.1.1 hq)
def mbS(sg:List Sg)(n:Nat)(x y:Gs)(ks:List Int)(N:Nat):Prop:=
 Lb sg (stR sg n) [125] (pkX (AP sg x [123])) y ks N∧y.deep=x.deep+1∧(y.bad=false→x.deep≠20)
theorem a6j(h:okQ s x):mbS s.sg n x (pkX (AP s.sg x [123])) [] (s.sg.length+1):=by
 have t:=HT (m:=[123]) h.1.1.2
 obtain⟨p1,p2,p3⟩:= @QE (AP s.sg x [123])
 have t1:=t.1;have t2:=t.2.1;have hd:=h.1.2
 refine⟨a5d ⟨by simp only[pkX] at*;rw[p1];exact t1.1,by simp only[pkX] at*;rw[p2];have:=t1.2.1;omega,?_⟩,by simp only[pkX] at*;rw[p2];omega,fun hb=>by have:=(p3 hb).2;omega⟩
 have e:(pkX (AP s.sg x [123])).nodes=(AP s.sg x [123]).nodes:=by unfold pkX;split<;>rfl
 rw[e];exact t1.2.2
theorem b9r(h:okQ s x)(h20:(AP s.sg x [123]).deep+1>20):mbS s.sg n x ⟨(AP s.sg x [123]).pos,(AP s.sg x [123]).deep+1,true,(AP s.sg x [123]).nodes⟩ [] (s.sg.length+1):=by
 have a:=a6j (n:=n) h
 have t2:=(HT (m:=[123]) h.1.1.2).2.1;have hd:=h.1.2
 have e:pkX (AP s.sg x [123])=⟨(AP s.sg x [123]).pos,(AP s.sg x [123]).deep+1,true,(AP s.sg x [123]).nodes⟩:=by rw[pkX,if_pos (by omega)];rfl
 rw[←e];exact a
theorem b9s(h:okQ s x)(h20:¬(AP s.sg x [123]).deep+1>20):mbS s.sg n x ⟨(AP s.sg x [123]).pos,(AP s.sg x [123]).deep+1,(AP s.sg x [123]).bad,(AP s.sg x [123]).nodes⟩ [] (s.sg.length+1):=by
 have a:=a6j (n:=n) h
 have e:pkX (AP s.sg x [123])=⟨(AP s.sg x [123]).pos,(AP s.sg x [123]).deep+1,(AP s.sg x [123]).bad,(AP s.sg x [123]).nodes⟩:=by rw[pkX,if_neg (by omega)];rfl
 rw[←e];exact a
theorem b9t(h:okQ s x):0≤(AP s.sg x [123]).deep∧(AP s.sg x [123]).deep≤20:=by
 have t:=HT (m:=[123]) h.1.1.2
 have:=t.1.2.1;have:=t.2.1;have:=h.1.2;omega
theorem TW(h:okQ s x)(hj:mbS s.sg n x y ks N):rOk s y:=⟨h.1.1.1,hj.1.1.1⟩
theorem Zt{n:Nat}(h:okQ s x)(h2:20-x.deep≤(n:Int))(hj:mbS s.sg n x y ks N)(hb:y.bad=false)(hq:isG s.sg y 4 [125]=false):okQ s (AS s.sg y [125])∧(AS s.sg y [125]).bad=false∧21-(AS s.sg y [125]).deep≤(n:Int):=by
 rw[Ea hq]
 have:=hj.2.1;have:=hj.2.2 hb;have:=h.1.2
 exact⟨⟨⟨TW h hj,by omega⟩,h.2⟩,hb,by omega⟩
theorem Zu(h:okQ s x)(hj:mbS s.sg n x y ks N):ks.length≤3001:=by
 have:=hj.1.2.2.1;have:=hj.1.1.1.1;have:=h.1.1.1.1;omega
theorem TX{b:Bool}(hj:mbS s.sg n x y ks N)(hb:y.bad=false)(hq:isG s.sg y 4 [125]=false)(hz:Ah s.sg (AS s.sg y [125]) (stR s.sg n false) z)(e:b=(blG s.sg (AS s.sg y [125])&&decide (0<(ks.length:Int)))):
 mbS s.sg n x (gBl z.2 z.1 b) (ks++[z.1]) (N-1)∧N-1<N:=by
 rw[Ea hq] at hz e
 rw[Zq hb] at e
 have hz2:Ah s.sg y (stR s.sg n b) (z.1,gBl z.2 z.1 b):=Zp Zm hz
 subst e
 obtain⟨a,b⟩:=Om (a5h hj.1 hb hq (z:=(z.1,gBl z.2 z.1 ((pkG s.sg y 0).blank&&decide (0<(ks.length:Int))))) (by
  have:decide (0<ks.length)=decide (0<(ks.length:Int)):=by simp
  rw[this];exact hz2))
 have:=(Dh hz2).1
 exact⟨⟨a,by have:=hj.2.1;simp only at*;omega,fun hw=>hj.2.2 hb⟩,b⟩
theorem b9u(h:okQ s x)(hj:mbS s.sg n x y ks N)(hq:isG s.sg y 4 [125]=true):
 Ah s.sg x (BO s.sg (stR s.sg n)) (AY (gDp (AS s.sg y [125]) (-1)),Ax (gDp (AS s.sg y [125]) (-1)) ⟨18,[],ks,false⟩):=by
 rw[EV hq,←JY hq]
 exact a6i (l:=(ks,y)) h.1.1.2 h.1.2 (a5g hj.1 hq) (Zu h hj)
theorem b9v(h:okQ s x)(hj:mbS s.sg n x y ks N)(hb:y.bad=true):
 Ah s.sg x (BO s.sg (stR s.sg n)) (AY (gDp y (-1)),Ax (gDp y (-1)) ⟨18,[],ks,false⟩):=by
 have a:=a6i (l:=(ks,y)) h.1.1.2 h.1.2 (a5e hj.1 hb) (Zu h hj)
 simp only[TH hb] at a;exact a
theorem Zv(h:okQ s x)(hj:mbS s.sg n x y ks N):(1≤y.deep∧y.deep≤21)∧rOk s (gDp y (-1))∧rOk s (gDp (AS s.sg y [125]) (-1))∧(AS s.sg y [125]).deep=y.deep:=by
 have h1:=hj.2.1;have h2:=h.1.1.2.2.1;have h3:=h.1.2
 have a:=TW h hj
 have b:=FY (m:=[125]) a
 have e:(AS s.sg y [125]).deep=y.deep:=by unfold AS;split<;>rfl
 refine⟨by omega,⟨a.1,a.2.1,by simp only[gDp];omega,a.2.2.2⟩,⟨b.1,b.2.1,by simp only[gDp];omega,b.2.2.2⟩,e⟩
theorem b9w(h:okQ s x)(hk:kdG s.sg x 5=true):Ah s.sg x (stR s.sg (n+1) false) (AY (Bh s.sg x 5),Ax (Bh s.sg x 5) ⟨19,Bz s.sg x 5,[],false⟩):=by
 have hn:=hk
 rw[QM (by omega)] at hn
 exact Ow h.1.1.1 h.1.1.2 (by omega) hk (b6J h.1.1.1 h.1.1.2 (by simpa using hn))
theorem Hi(h:kdG sg x 5=false):(pkG sg x 0).kind≠5:=Ka h (by omega)
theorem b9x(h:okQ s x)(hk:kdG s.sg x 5=false)(hq:isG s.sg x 1 [118,97,114]=true)(hz:Ah s.sg (Aw x) (DN s.sg false) z):Ah s.sg x (stR s.sg (n+1) false) z:=b6K h.1.1.2 (Hi hk) hq hz
theorem b9y(h:okQ s x)(hk:kdG s.sg x 5=false)(h1:isG s.sg x 1 [118,97,114]=false)(hq:isG s.sg x 1 [114,101,116,117,114,110]=true)(hs:isG s.sg (Aw x) 4 [59]=true):
 Ah s.sg x (stR s.sg (n+1) false) (AY (AP s.sg (Aw x) [59]),Ax (AP s.sg (Aw x) [59]) ⟨15,[],[],false⟩):=by
 have o:=(GL h hq).1.1.2
 exact a5j h.1.1.2 (Hi hk) h1 hq (IH o (Fp (by simp) (by simp)) (b6y o hs))
theorem b9z(h:okQ s x)(hk:kdG s.sg x 5=false)(h1:isG s.sg x 1 [118,97,114]=false)(hq:isG s.sg x 1 [114,101,116,117,114,110]=true)(hs:isG s.sg (Aw x) 4 [59]=false)(hz:Ah s.sg (Aw x) (Cl s.sg) z):
 Ah s.sg x (stR s.sg (n+1) false) (AY (AP s.sg z.2 [59]),Ax (AP s.sg z.2 [59]) ⟨15,[],[z.1],false⟩):=by
 have o:=(GL h hq).1.1.2
 exact a5j h.1.1.2 (Hi hk) h1 hq (IH (Gt hz) (Fp (by simp) (by simp)) (b6z o hs hz))
theorem b9A(h:okQ s x)(hk:kdG s.sg x 5=false)(h1:isG s.sg x 1 [118,97,114]=false)(h2:isG s.sg x 1 [114,101,116,117,114,110]=false)(hq:isG s.sg x 1 [105,102]=true)
 (hc:BF s.sg (Aw x) (DZ s.sg) c) (hb:Ah s.sg c.2 (BO s.sg (stR s.sg n)) q) (he:isG s.sg q.2 1 [101,108,115,101]=false):
 Ah s.sg x (stR s.sg (n+1) false) (AY (BK s.sg q.2 [101,108,115,101]),Ax (BK s.sg q.2 [101,108,115,101]) ⟨16,[],[c.1,q.1],false⟩):=by
 rw[Kb he]
 exact a5k h.1.1.2 (Hi hk) h1 h2 hq (b6E (GL h hq).1.1.2 hc hb he)
theorem b9B{r:Int×Gs}(h:okQ s x)(hk:kdG s.sg x 5=false)(h1:isG s.sg x 1 [118,97,114]=false)(h2:isG s.sg x 1 [114,101,116,117,114,110]=false)(hq:isG s.sg x 1 [105,102]=true)
 (hc:BF s.sg (Aw x) (DZ s.sg) c) (hb:Ah s.sg c.2 (BO s.sg (stR s.sg n)) q) (he:isG s.sg q.2 1 [101,108,115,101]=true) (hr:Ah s.sg (BK s.sg q.2 [101,108,115,101]) (BO s.sg (stR s.sg n)) r):
 Ah s.sg x (stR s.sg (n+1) false) (AY r.2,Ax r.2 ⟨16,[],[c.1,q.1,r.1],false⟩):=by
 rw[Kc he] at hr
 exact a5k h.1.1.2 (Hi hk) h1 h2 hq (b6F (GL h hq).1.1.2 hc hb he hr)
theorem b9C(h:okQ s x)(hk:kdG s.sg x 5=false)(h1:isG s.sg x 1 [118,97,114]=false)(h2:isG s.sg x 1 [114,101,116,117,114,110]=false)(h3:isG s.sg x 1 [105,102]=false)(hq:isG s.sg x 1 [119,104,105,108,101]=true)
 (hc:BF s.sg (Aw x) (DZ s.sg) c) (hb:Ah s.sg c.2 (BO s.sg (stR s.sg n)) q):Ah s.sg x (stR s.sg (n+1) false) (AY q.2,Ax q.2 ⟨17,[],[c.1,q.1],false⟩):=b7k h.1 (Hi hk) h1 h2 h3 hq hc hb
theorem b9D{k:Int}(hk:e.kind=k)(he:sg[i.toNat]? =some e):(sgO sg i).kind=k:=by rw[JQ he];exact hk
theorem b9E{k:Int}(hk:e.kind≠k)(he:sg[i.toNat]? =some e):(sgO sg i).kind≠k:=by rw[JQ he];exact hk
theorem b9F(hk:e.text=m)(he:sg[i.toNat]? =some e):((sgO sg i).text==m)=true:=by rw[JQ he];simpa using hk
theorem b9G(hk:e.text≠m)(he:sg[i.toNat]? =some e):((sgO sg i).text==m)=false:=by rw[JQ he];simpa using hk
theorem b9H(hk:kdG sg x 1=false):seG sg x=false:=by rw[Jo] at hk;simp [seG,hk]
theorem a6k(hb:x.bad=false)(hl:x.pos+1<sg.length)(he:sgO sg (x.pos+1)=e):pkG sg x 1=e:=by
 rw[pkG,if_neg (by simp [hb];omega),he]
theorem b9I(hl:¬x.pos+1<sg.length):seG sg x=false:=by
 have:pkG sg x 1=EQ:=by rw[pkG,if_pos (.inr (by omega))]
 simp [seG,this,EQ]
theorem a6l(hb:x.bad=false)(hl:x.pos+1<sg.length)(hk:(sgO sg (x.pos+1)).kind≠4∨((sgO sg (x.pos+1)).text==[61])=false):seG sg x=false:=by
 rw[seG,a6k hb hl rfl]
 rcases hk with hk|hk<;>simp [hk]
theorem b9J(hb:x.bad=false)(hl:x.pos+1<sg.length)(h1:kdG sg x 1=true)(hk:(sgO sg (x.pos+1)).kind=4)(ht:((sgO sg (x.pos+1)).text==[61])=true):seG sg x=true:=by
 rw[Jo] at h1
 rw[seG,a6k hb hl rfl];simp [h1,hk,ht]
theorem b9K(h:okQ s x)(hk:kdG s.sg x 5=false)(h1:isG s.sg x 1 [118,97,114]=false)(h2:isG s.sg x 1 [114,101,116,117,114,110]=false)(h3:isG s.sg x 1 [105,102]=false)(h4:isG s.sg x 1 [119,104,105,108,101]=false)
 (he:seG s.sg x=true) (hz:Ah s.sg (AP s.sg (Bh s.sg x 1) [61]) (Cl s.sg) z):Ah s.sg x (stR s.sg (n+1) false) (AY (AP s.sg z.2 [59]),Ax (AP s.sg z.2 [59]) ⟨13,Bz s.sg x 1,[z.1],false⟩):=by
 rw[II.1] at hz;rw[II.2]
 exact b6M h.1.1.2 (Hi hk) h1 h2 h3 h4 he (IH (Gt hz) (Fp (JW h.1.1.1) (by simp)) (b6H h.1.1.1 h.1.1.2 hz))
theorem TY(h:okQ s x)(hk:kdG s.sg x 5=false)(h1:isG s.sg x 1 [118,97,114]=false)(h2:isG s.sg x 1 [114,101,116,117,114,110]=false)(h3:isG s.sg x 1 [105,102]=false)(h4:isG s.sg x 1 [119,104,105,108,101]=false)
 (he:seG s.sg x=false) (hz:Ah s.sg x (Cl s.sg) z):Ah s.sg x (stR s.sg (n+1) false) (AY (AP s.sg z.2 [59]),Ax (AP s.sg z.2 [59]) ⟨14,[],[z.1],false⟩):=
 b6N h.1.1.2 (Hi hk) h1 h2 h3 h4 he (IH (Gt hz) (Fp (by simp) (by simp)) (b6I h.1.1.2 hz))
theorem a6m(h:okQ s x):rOk s (AP s.sg (Bh s.sg x 1) [61])∧okQ s (AP s.sg (Bh s.sg x 1) [61]):=by
 have a:=Hh (m:=[61]) (HW (k:=1) h.1.1 (by omega))
 have e:(Bh s.sg x 1).deep=x.deep:=by unfold Bh;split<;>rfl
 exact⟨a.1,⟨a.1,by have:=h.1.2;omega⟩,h.2⟩
theorem b9L{α:Type}{f:Ps→Option (α×Ps)}{y:α×Gs}(h:okQ s x)(hy:BF s.sg x f y):okQ s y.2:=⟨a5n h.1 hy,h.2⟩
theorem OC{α:Type}{f:Ps→Option (α×Ps)}{y:α×Gs}(h:okQ s x)(hy:Ah s.sg x f y):okQ s y.2:=⟨a5n h.1 hy.1,h.2⟩
theorem b9M{α:Type}{n:Nat}{f:Ps→Option (α×Ps)}{y:α×Gs}(h:21-x.deep≤((n+1:Nat):Int))(hy:BF s.sg (Aw x) f y):20-y.2.deep≤(n:Int):=by
 have:=hy.2.1;simp only[Aw] at this;omega
theorem a6n:(BK sg x m).deep=x.deep:=by unfold BK;split<;>rfl
theorem a6o(h:rOk s x):rOk s (BK s.sg x m):=by
 unfold BK;split
 ·rename_i hq;exact⟨h.1,GF h.2 (Dy hq (by omega)).2⟩
 ·exact h
theorem a6p(h:okQ s x):okQ s (BK s.sg x m):=⟨⟨a6o h.1.1,by rw[a6n];exact h.1.2⟩,h.2⟩
theorem b9N{α:Type}{n:Nat}{f:Ps→Option (α×Ps)}{y:α×Gs}(h:20-x.deep≤(n:Int))(hy:Ah s.sg x f y):20-(BK s.sg y.2 m).deep≤(n:Int):=by
 rw[a6n];exact b7m h hy
def ML(n:Nat):Sig:= {X:=ST×Int×Int×Bool×List Nd,args:=fun x=>[srd x.1 (xg x)],pre:=fun x=>(okQ x.1 (xg x)∧(xg x).bad=false)∧21-(xg x).deep≤n,Y:=Int×Int×Int×Bool×List Nd,post:=fun x y=>Ah x.1.sg (xg x) (stR x.1.sg n false) (yS y),res:=fun x y=> .int .i64 y.1,outs:=fun x y=>[srd x.1 (yG y.2)],keep:=true}
attribute [local irreducible] pE Bw Dq fnR Ah BF gsOk AP CZ Ax Dz ER AS Ew EI AY Da pkG isG nmG kdG Bh Bz BQ vlQ BK gBl blG DN Hg DZ Cl BO stR CY mbS seG okQ sgM
def srf(s:ST)(g:Gs):AV:= .pf [sgs s.sg,.int .i64 g.pos,.bool g.bad,.int .i64 g.deep,nds g.nodes]
theorem a6q{l:List Sg}{p d:Int}{b:Bool}{ns:List Nd}:AV.pf (fzL [AV.sl false 0 4 Sg sgA l,.int .i64 p,.bool b,.int .i64 d,AV.sl true 0 4 Nd (ndA true) ns])=AV.pf [AV.sl false 0 4 Sg sgA l,.int .i64 p,.bool b,.int .i64 d,AV.sl false 0 4 Nd (ndA false) ns]:=rfl
def Jq:Sig:= {X:=ST×Int×Int×Bool×List Nd×Int,args:=fun x=>[srf x.1 (xh x),.q x.2.2.2.2.2],pre:=fun x=>rOk x.1 (xh x)∧x.2.2.2.2.2≠0,Y:=Unit,post:=fun x y=>True,res:=fun x y=> .bool (kdG x.1.sg (xh x) x.2.2.2.2.2),outs:=fun x y=>[.top,.top],keep:=false}
theorem b9O:Ai G Tryz.prog 130 Jq:=
 vcFun_okP [(175,0,GB)] [] false (fun x=>[]) Tryz.func130 rfl (by decide) ⟨Yi,trivial⟩ (fun(x:ST×Int×Int×Bool×List Nd×Int)=>(∀(y:Unit),True→True∧True∧True∧True)∧true=true∧true=true∧Aa (!(xh x).bad) (Aa (decide ((xh x).pos<(x.1.sg.length:Int))) ((0≤(xh x).pos∧(xh x).pos<(x.1.sg.length:Int))∧∀(e:Sg),x.1.sg[Int.toNat (xh x).pos]? =some e→Aa (e.kind==x.2.2.2.2.2) (Aa (x.2.2.2.2.2 != (1:Int)) (rA Jq x [.bool true,.top,.top]) ((0≤(xh x).pos∧(xh x).pos<(x.1.sg.length:Int))∧∀(e:Sg),x.1.sg[Int.toNat (xh x).pos]? =some e→∃(x_1:List UInt8),True∧e.text=x_1∧∃(y0:Unit),(∀(y:Unit),True→AV.bool (kw x_1)=AV.bool (kw x_1))∧true=true∧rA Jq x [.bool !kw x_1,.top,.top])) (rA Jq x [.bool false,.top,.top])) (rA Jq x [.bool false,.top,.top])) (rA Jq x [.bool false,.top,.top])) (fun x=>by kernel_rfl) fun(x:ST×Int×Int×Bool×List Nd×Int) (hx:rOk x.1 (xh x)∧x.2.2.2.2.2≠0)=>(by
 dsimp only[Br,nds,rA,Jq,Du,sgs,srf,As,Az,AV.q]
 obtain⟨s,p,d,b,ns,k⟩:=x;dsimp only[xg,xh] at hx ⊢
 obtain⟨h1,h2⟩:=hx;have hs:=Hd h1;dsimp only at hs
 (repeat' first|(with_reducible first|rfl|exact True.intro|apply AK|apply And.intro|((first|apply AA|apply AI|apply AB|apply AJ)<;>intro _))|(apply Av<;>intro _)|apply AH|refine Ae () ?_ ?_|((first|apply AO|apply AN|apply AM|apply AL|apply AG|apply AF|apply AE|apply AD|apply AC)<;>try dsimp only)|apply Ae|(refine Prod.forall.2 ?_;intro _;try dsimp only)|(intro _;try dsimp only))
 all_goals(try(repeat(rename s.sg[_]? =some _=>hq;revert hq;rename s.sg[_]? =some _=>hr;intro hq;rw[hr] at hq;cases hq)))
 all_goals first
  |rfl
  |exact(Ou h2 (.inl ‹_›)).symm
  |exact(Ou h2 (.inr (by simp only;omega))).symm
  |(rw[a5G ‹_› ‹_› (by simp only;omega)];simp [*];done)
  |((try simp only[An]);omega)
  |skip)
def Hj:Sig:= {X:=ST×Int×Int×Bool×List Nd,args:=fun x=>[srd x.1 (xg x)],pre:=fun x=>okQ x.1 (xg x),Y:=Int×Int×Int×Bool×List Nd,post:=fun x y=>Ah x.1.sg (xg x) (DN x.1.sg false) (yS y),res:=fun x y=> .q y.1,outs:=fun x y=>[srd x.1 (yG y.2)],keep:=true}
theorem Zw:Ai G Tryz.prog 133 Hj:=
 vcFun_okP [(131,0,CL),(135,0,Cb),(177,0,HX),(134,0,BZ),(108,0,Bv)] [(38,⟨Int,Bx⟩)] false (fun x=>[]) Tryz.func133 rfl (by decide) ⟨Le,HU,Zh,IG,HV,trivial⟩ (fun(x:ST×Int×Int×Bool×List Nd)=>True∧cA CL [srd x.1 (xg x),.q 1] fun x_1 y=>cA Cb [srd x_1.1 (Bh x_1.1.sg (xh x_1) x_1.2.2.2.2.2),.str #[(61:UInt8)].toList] fun x_2 y=>Aa (isG x_2.1.sg (xh x_2) (4:Int) x_2.2.2.2.2.2) (cA HX [srd x_2.1 (AS x_2.1.sg (xh x_2) x_2.2.2.2.2.2)] fun x_3 y=>∃(x_4:Int),y.1=x_4∧∃(zs:List Int),Al [x_4]=Al zs∧BI Bx∧Bb ((0:Nat)+zs.length) (8:Nat)∧cA BZ [srd x_3.1 (yG y.2),.str #[(59:UInt8)].toList] fun x_5 y=>cA Bv [srd x_5.1 (AP x_5.1.sg (xh x_5) x_5.2.2.2.2.2),.q 12,.str (Bz x_1.1.sg (xh x_1) x_1.2.2.2.2.2),Al ([]++zs)] fun x_6 y=>rA Hj x [.q (AY (xh x_6)),srd x_6.1 (Ax (xh x_6) {kind:=x_6.2.2.2.2.2.1,text:=x_6.2.2.2.2.2.2.1,kids:=x_6.2.2.2.2.2.2.2,blank:=false})]) (cA BZ [srd x_2.1 (AS x_2.1.sg (xh x_2) x_2.2.2.2.2.2),.str #[(59:UInt8)].toList] fun x_3 y=>cA Bv [srd x_3.1 (AP x_3.1.sg (xh x_3) x_3.2.2.2.2.2),.q 12,.str (Bz x_1.1.sg (xh x_1) x_1.2.2.2.2.2),Al []] fun x_4 y=>rA Hj x [.q (AY (xh x_4)),srd x_4.1 (Ax (xh x_4) {kind:=x_4.2.2.2.2.2.1,text:=x_4.2.2.2.2.2.2.1,kids:=x_4.2.2.2.2.2.2.2,blank:=false})])) (fun x=>by kernel_rfl) fun(x:ST×Int×Int×Bool×List Nd) (hx:okQ x.1 (xg x))=>(by
 dsimp only[cA,Br,Al,Bj,rA,Cb,Bv,CL,HX,Hj,BZ,Du,sgs,srd,As,Az,mvL,lnL,mvE,lnE,AV.q]
 obtain⟨s,p,d,b,ns⟩:=x;dsimp only[xg,xh] at hx ⊢
 have hx:okQ s ⟨p,d,b,ns⟩:=hx
 have hD:=EX hx;have hM:=OB hx;have h1:=hD.1
 (repeat' first|(with_reducible first|rfl|exact True.intro|apply AK|apply And.intro|((first|apply AA|apply AI|apply AB|apply AJ)<;>intro _))|(apply Av<;>intro _)|apply AH|refine Ae () ?_ ?_|((first|apply AO|apply AN|apply AM|apply AL|apply AG|apply AF|apply AE|apply AD|apply AC)<;>try dsimp only)|apply Ae|(refine Prod.forall.2 ?_;intro _;try dsimp only)|(intro _;try dsimp only))
 all_goals(try dsimp only[xg,xh,yG,yS,iG,iF] at*)
 all_goals(try simp only[GG] at*)
 all_goals first
  |rfl
  |exact h1
  |omega
  |exact(Zs hx).1
  |exact(Zs hx).2
  |exact EX (b9o hx ‹_›)
  |exact hM
  |exact FG h1 ‹_›
  |exact(Hh (FG h1 ‹_›)).1
  |exact(Hh (Zs hx).2).1
  |exact b9p hx ‹_› ‹_›
  |exact b9q hx ‹_›
  |(simp [Bb];done)
  |skip)
def MM:Sig:= {X:=ST×Int×Int×Bool×List Nd,args:=fun x=>[srd x.1 (xg x)],pre:=fun x=>okQ x.1 (xg x),Y:=Int×Int×Int×Bool×List Nd,post:=fun x y=>BF x.1.sg (xg x) (DZ x.1.sg) (yS y),res:=fun x y=> .q y.1,outs:=fun x y=>[srd x.1 (yG y.2)],keep:=true}
theorem b9P:Ai G Tryz.prog 202 MM:=
 vcFun_okP [(177,0,HX),(134,0,BZ)] [] false (fun x=>[]) Tryz.func202 rfl (by decide) ⟨Zh,IG,trivial⟩ (fun(x:ST×Int×Int×Bool×List Nd)=>True∧cA BZ [srd x.1 (xg x),.str #[(40:UInt8)].toList] fun x_1 y=>cA HX [srd x_1.1 (AP x_1.1.sg (xh x_1) x_1.2.2.2.2.2)] fun x_2 y=>cA BZ [srd x_2.1 (yG y.2),.str #[(41:UInt8)].toList] fun x_3 y_1=>rA MM x [.q y.1,srd x_3.1 (AP x_3.1.sg (xh x_3) x_3.2.2.2.2.2)]) (fun x=>by kernel_rfl) fun(x:ST×Int×Int×Bool×List Nd) (hx:okQ x.1 (xg x))=>(by
 dsimp only[cA,Br,Bj,rA,MM,HX,BZ,Du,sgs,srd,As,Az,mvL,lnL,mvE,lnE,AV.q]
 obtain⟨s,p,d,b,ns⟩:=x;dsimp only[xg,xh] at hx ⊢
 have hx:okQ s ⟨p,d,b,ns⟩:=hx
 have hD:=EX hx;have hM:=OB hx;have h1:=hD.1
 have t:=Hh (m:=[40]) h1;have hd:=hD.2;dsimp only at hd
 (repeat' first|(with_reducible first|rfl|exact True.intro|apply AK|apply And.intro|((first|apply AA|apply AI|apply AB|apply AJ)<;>intro _))|(apply Av<;>intro _)|apply AH|refine Ae () ?_ ?_|((first|apply AO|apply AN|apply AM|apply AL|apply AG|apply AF|apply AE|apply AD|apply AC)<;>try dsimp only)|apply Ae|(refine Prod.forall.2 ?_;intro _;try dsimp only)|(intro _;try dsimp only))
 all_goals(try dsimp only[xg,xh,yG,yS,iG,iF] at*)
 all_goals(try simp only[GG] at*)
 all_goals first
  |rfl
  |exact h1
  |exact t.1
  |exact hM
  |exact⟨t.1,by rw[t.2];exact hd⟩
  |exact FG h1 ‹_›
  |exact b6A h1.2 ‹_›
  |skip)
def Kd(n:Nat):Sig:= {X:=ST×Int×Int×Bool×List Nd,args:=fun x=>[srd x.1 (xg x)],pre:=fun x=>okQ x.1 (xg x)∧20-(xg x).deep≤(n:Int),Y:=Int×Int×Int×Bool×List Nd,post:=fun x y=>Ah x.1.sg (xg x) (BO x.1.sg (stR x.1.sg n)) (yS y),res:=fun x y=> .q y.1,outs:=fun x y=>[srd x.1 (yG y.2)],keep:=true}
def OD(n:Nat)(x:ST×Int×Int×Bool×List Nd):LS:= {ι:=Int×Int×Bool×List Nd×List Int×Nat,inv:=fun i=>mbS x.1.sg n (xg x) (iG i) i.2.2.2.2.1 i.2.2.2.2.2,regs:=fun i=>[(0,srd x.1 (iG i)),(3,Al i.2.2.2.2.1)],als:=[],meas:=fun i=>i.2.2.2.2.2}
def Zx(n:Nat)(x:ST×Int×Int×Bool×List Nd):Prop:=∀(i:Int×Int×Bool×List Nd×List Int×Nat),mbS x.1.sg n (xg x) (iG i) i.2.2.2.2.1 i.2.2.2.2.2→Aa (!(iG i).bad) (cA Cb [srd x.1 (iG i),.str #[(125:UInt8)].toList] fun x_2 y=>Aa (!isG x_2.1.sg (xh x_2) (4:Int) x_2.2.2.2.2.2) (cA GI [srd x_2.1 (AS x_2.1.sg (xh x_2) x_2.2.2.2.2.2)] fun x_3 y=>Aa (blG x_3.1.sg (xg x_3)) (cA (ML n) [srd x_3.1 (xg x_3)] fun x_4 y=>cA Fq [srd x_4.1 (yG y.2),.q y.1,.bool (decide ((i.2.2.2.2.1.length:Int)>(0:Int)))] fun x_5 y_1=>∃(x_6:Int),y.1=x_6∧(∃(zs:List Int),Al [x_6]=Al zs∧(BI Bx∧(Bb (i.2.2.2.2.1.length+zs.length) (8:Nat)∧(eN (OD n x) i [srd x_5.1 (gBl (xh x_5) x_5.2.2.2.2.2.1 x_5.2.2.2.2.2.2),Al (i.2.2.2.2.1++zs)]))))) (cA (ML n) [srd x_3.1 (xg x_3)] fun x_4 y=>cA Fq [srd x_4.1 (yG y.2),.q y.1,.bool false] fun x_5 y_1=>∃(x_6:Int),y.1=x_6∧(∃(zs:List Int),Al [x_6]=Al zs∧(BI Bx∧(Bb (i.2.2.2.2.1.length+zs.length) (8:Nat)∧(eN (OD n x) i [srd x_5.1 (gBl (xh x_5) x_5.2.2.2.2.2.1 x_5.2.2.2.2.2.2),Al (i.2.2.2.2.1++zs)])))))) (inR .i64 ((AS x_2.1.sg (xh x_2) x_2.2.2.2.2.2).deep-1)∧(cA Bv [.box 0 [sgs x_2.1.sg,.q (AS x_2.1.sg (xh x_2) x_2.2.2.2.2.2).pos,.bool (AS x_2.1.sg (xh x_2) x_2.2.2.2.2.2).bad,.q ((AS x_2.1.sg (xh x_2) x_2.2.2.2.2.2).deep-1),Bj (AS x_2.1.sg (xh x_2) x_2.2.2.2.2.2).nodes],.q 18,.str #[].toList,Al i.2.2.2.2.1] fun x_3 y=>rA (Kd n) x [.q (AY (xh x_3)),srd x_3.1 (Ax (xh x_3) {kind:=x_3.2.2.2.2.2.1,text:=x_3.2.2.2.2.2.2.1,kids:=x_3.2.2.2.2.2.2.2,blank:=false})]))) (inR .i64 ((iG i).deep-1)∧(cA Bv [.box 0 [sgs x.1.sg,.q (iG i).pos,.bool (iG i).bad,.q ((iG i).deep-1),Bj (iG i).nodes],.q 18,.str #[].toList,Al i.2.2.2.2.1] fun x_2 y=>rA (Kd n) x [.q (AY (xh x_2)),srd x_2.1 (Ax (xh x_2) {kind:=x_2.2.2.2.2.2.1,text:=x_2.2.2.2.2.2.2.1,kids:=x_2.2.2.2.2.2.2.2,blank:=false})]))
theorem a6r(n:Nat)(h:Ai G Go.Proofs.Tryz.prog 178 (ML n)):Ai G Tryz.prog 137 (Kd n):=
 vcFun_okP [(134,0,BZ),(135,0,Cb),(105,0,GI),(178,0,(ML n)),(107,0,Fq),(108,0,Bv)] [(38,⟨Int,Bx⟩)] false (fun x=>[(6,OD n x)]) Tryz.func137 rfl (by decide) ⟨IG,HU,TF,h,TG,HV,trivial⟩ (fun(x:ST×Int×Int×Bool×List Nd)=>True∧cA BZ [srd x.1 (xg x),.str #[(123:UInt8)].toList] fun x_1 y=>inR .i64 ((AP x_1.1.sg (xh x_1) x_1.2.2.2.2.2).deep+1)∧Aa (decide ((AP x_1.1.sg (xh x_1) x_1.2.2.2.2.2).deep+1>(20:Int))) (eA (OD n x) [.box 0 [sgs x_1.1.sg,.q (AP x_1.1.sg (xh x_1) x_1.2.2.2.2.2).pos,.bool true,.q ((AP x_1.1.sg (xh x_1) x_1.2.2.2.2.2).deep+1),Bj (AP x_1.1.sg (xh x_1) x_1.2.2.2.2.2).nodes],Al []]∧(Zx n x)) (eA (OD n x) [.box 0 [sgs x_1.1.sg,.q (AP x_1.1.sg (xh x_1) x_1.2.2.2.2.2).pos,.bool (AP x_1.1.sg (xh x_1) x_1.2.2.2.2.2).bad,.q ((AP x_1.1.sg (xh x_1) x_1.2.2.2.2.2).deep+1),Bj (AP x_1.1.sg (xh x_1) x_1.2.2.2.2.2).nodes],Al []]∧(Zx n x))) (fun x=>by kernel_rfl) fun(x:ST×Int×Int×Bool×List Nd) (hx:okQ x.1 (xg x)∧20-(xg x).deep≤(n:Int))=>(by
 dsimp only[Zx,cA,eA,eN,OD,Br,Al,Bj,rA,GI,Fq,Kd,Cb,Bv,ML,BZ,Du,sgs,srd,As,Az,mvL,lnL,mvE,lnE,Bl,AV.q]
 obtain⟨s,p,d,b,ns⟩:=x;dsimp only[xg,xh] at hx ⊢
 obtain⟨hx,hn⟩:=hx
 have hx:okQ s ⟨p,d,b,ns⟩:=hx
 have hD:=EX hx;have hM:=OB hx;have h1:=hD.1
 have td:=b9t hx
 (repeat' first|(with_reducible first|rfl|exact True.intro|apply AK|apply And.intro|((first|apply AA|apply AI|apply AB|apply AJ)<;>intro _))|(apply Av<;>intro _)|apply AH|refine Ae () ?_ ?_|((first|apply AO|apply AN|apply AM|apply AL|apply AG|apply AF|apply AE|apply AD|apply AC)<;>try dsimp only)|apply Ae|(refine Prod.forall.2 ?_;intro _;try dsimp only)|(intro _;try dsimp only))
 all_goals(try dsimp only[xg,xh,yG,yS,iG,iF] at*)
 all_goals(try simp only[GG] at*)
 all_goals first
  |(show Nat;skip)
  |rfl
  |exact h1
  |exact b9r hx ‹_›
  |exact b9s hx ‹_›
  |exact TW hx ‹_›
  |exact FY (TW hx ‹_›)
  |exact(Zt hx hn ‹_› ‹_› ‹_›).1
  |exact(Zt hx hn ‹_› ‹_› ‹_›).2.1
  |exact(Zt hx hn ‹_› ‹_› ‹_›).2.2
  |exact FG h1 ‹_›
  |exact OA Zm ‹_›
  |exact OA Zm ‹_› ‹_›
  |exact(TX ‹_› ‹_› ‹_› ‹_› (Lc ‹_›)).1
  |exact(TX ‹_› ‹_› ‹_› ‹_› (Ld ‹_›)).1
  |exact b9u hx ‹_› ‹_›
  |exact b9v hx ‹_› ‹_›
  |exact(Zv hx ‹_›).2.1
  |exact(Zv hx ‹_›).2.2.1
  |(simp [Bb];done)
  |(have hq:=Zu hx ‹mbS _ _ _ _ _ _›;(try simp only[Bb,List.length_append,List.length_cons,List.length_nil]);omega)
  |(have hq:=Zv hx ‹mbS _ _ _ _ _ _›;(try dsimp only at hq);(try simp only[An]);omega)
  |((try simp only[An]);omega)
  |skip
 all_goals first
  |exact(TX ‹_› ‹_› ‹_› ‹_› (Lc ‹_›)).2
  |exact(TX ‹_› ‹_› ‹_› ‹_› (Ld ‹_›)).2
  |skip)
def IM(n:Nat):Sig:= {X:=ST×Int×Int×Bool×List Nd,args:=fun x=>[srd x.1 (xg x)],pre:=fun x=>(okQ x.1 (xg x)∧(xg x).bad=false)∧21-(xg x).deep≤(n+1:Nat),Y:=Int×Int×Int×Bool×List Nd,post:=fun x y=>Ah x.1.sg (xg x) (stR x.1.sg (n+1) false) (yS y),res:=fun x y=> .int .i64 y.1,outs:=fun x y=>[srd x.1 (yG y.2)],keep:=true}
def QQ(n:Nat)(x:ST×Int×Int×Bool×List Nd)(x_5:EW.X):Prop:=cA HX [srd x_5.1 (BK x_5.1.sg (xh x_5) x_5.2.2.2.2.2)] fun x_7 y=>cA BZ [srd x_7.1 (yG y.2),.str #[(59:UInt8)].toList] fun x_8 y_1=>∃(x_9:Int),y.1=x_9∧(cA Bv [srd x_8.1 (AP x_8.1.sg (xh x_8) x_8.2.2.2.2.2),.int .i64 14,.str #[].toList,Al [x_9]] fun x_10 y=>rA (IM n) x [.int .i64 (AY (xh x_10)),srd x_10.1 (Ax (xh x_10) {kind:=x_10.2.2.2.2.2.1,text:=x_10.2.2.2.2.2.2.1,kids:=x_10.2.2.2.2.2.2.2,blank:=false})])
theorem b9Q(n:Nat)(h:Ai G Go.Proofs.Tryz.prog 178 (ML n)):Ai G Tryz.prog 178 (IM n):=
 vcFun_okP [(130,0,Jq),(131,0,CL),(108,0,Bv),(132,0,EW),(133,0,Hj),(176,0,Ez),(177,0,HX),(134,0,BZ),(202,0,MM),(137,0,(Kd n))] [(38,⟨Int,Bx⟩)] false (fun x=>[]) Tryz.func178 rfl (by decide) ⟨b9O,Le,HV,YK,Zw,QL,Zh,IG,b9P,(a6r n h),trivial⟩ (fun(x:ST×Int×Int×Bool×List Nd)=>True∧cA Jq [srd x.1 (xg x),.int .i64 5] fun x_1 y=>Aa (kdG x_1.1.sg (xh x_1) x_1.2.2.2.2.2) (cA CL [srd x.1 (xg x),.int .i64 5] fun x_2 y=>cA Bv [srd x_2.1 (Bh x_2.1.sg (xh x_2) x_2.2.2.2.2.2),.int .i64 19,.str (Bz x_2.1.sg (xh x_2) x_2.2.2.2.2.2),Al []] fun x_3 y=>rA (IM n) x [.int .i64 (AY (xh x_3)),srd x_3.1 (Ax (xh x_3) {kind:=x_3.2.2.2.2.2.1,text:=x_3.2.2.2.2.2.2.1,kids:=x_3.2.2.2.2.2.2.2,blank:=false})]) (cA EW [srd x.1 (xg x),.str #[(118:UInt8),97,114].toList] fun x_2 y=>Aa (isG x_2.1.sg (xh x_2) (1:Int) x_2.2.2.2.2.2) (cA Hj [srd x_2.1 (BK x_2.1.sg (xh x_2) x_2.2.2.2.2.2)] fun x_3 y=>rA (IM n) x [.int .i64 y.1,srd x_3.1 (yG y.2)]) (cA EW [srd x_2.1 (BK x_2.1.sg (xh x_2) x_2.2.2.2.2.2),.str #[(114:UInt8),101,116,117,114,110].toList] fun x_3 y=>Aa (isG x_3.1.sg (xh x_3) (1:Int) x_3.2.2.2.2.2) (cA Ez [srd x_3.1 (BK x_3.1.sg (xh x_3) x_3.2.2.2.2.2),.int .i64 4,.str #[(59:UInt8)].toList] fun x_4 y=>Aa (!isG x_4.1.sg (xh x_4) x_4.2.2.2.2.2.1 x_4.2.2.2.2.2.2) (cA HX [srd x_4.1 (xh x_4)] fun x_5 y=>∃(x_6:Int),y.1=x_6∧∃(zs:List Int),Al [x_6]=Al zs∧BI Bx∧Bb ((0:Nat)+zs.length) (8:Nat)∧cA BZ [srd x_5.1 (yG y.2),.str #[(59:UInt8)].toList] fun x_7 y=>cA Bv [srd x_7.1 (AP x_7.1.sg (xh x_7) x_7.2.2.2.2.2),.int .i64 15,.str #[].toList,Al ([]++zs)] fun x_8 y=>rA (IM n) x [.int .i64 (AY (xh x_8)),srd x_8.1 (Ax (xh x_8) {kind:=x_8.2.2.2.2.2.1,text:=x_8.2.2.2.2.2.2.1,kids:=x_8.2.2.2.2.2.2.2,blank:=false})]) (cA BZ [srd x_4.1 (xh x_4),.str #[(59:UInt8)].toList] fun x_5 y=>cA Bv [srd x_5.1 (AP x_5.1.sg (xh x_5) x_5.2.2.2.2.2),.int .i64 15,.str #[].toList,Al []] fun x_6 y=>rA (IM n) x [.int .i64 (AY (xh x_6)),srd x_6.1 (Ax (xh x_6) {kind:=x_6.2.2.2.2.2.1,text:=x_6.2.2.2.2.2.2.1,kids:=x_6.2.2.2.2.2.2.2,blank:=false})])) (cA EW [srd x_3.1 (BK x_3.1.sg (xh x_3) x_3.2.2.2.2.2),.str #[(105:UInt8),102].toList] fun x_4 y=>Aa (isG x_4.1.sg (xh x_4) (1:Int) x_4.2.2.2.2.2) (cA MM [srd x_4.1 (BK x_4.1.sg (xh x_4) x_4.2.2.2.2.2)] fun x_5 y=>∃(x_6:Int),y.1=x_6∧cA (Kd n) [srd x_5.1 (yG y.2)] fun x_7 y=>∃(x_8:Int),y.1=x_8∧∃(zs:List Int),Al [x_8]=Al zs∧BI Bx∧Bb (List.length [x_6]+zs.length) (8:Nat)∧cA EW [srd x_7.1 (yG y.2),.str #[(101:UInt8),108,115,101].toList] fun x_9 y=>Aa (isG x_9.1.sg (xh x_9) (1:Int) x_9.2.2.2.2.2) (cA (Kd n) [srd x_9.1 (BK x_9.1.sg (xh x_9) x_9.2.2.2.2.2)] fun x_10 y=>∃(x_11:Int),y.1=x_11∧∃(zs_1:List Int),Al [x_11]=Al zs_1∧BI Bx∧Bb ((x_6::List.append._f [] PUnit.unit zs).length+zs_1.length) (8:Nat)∧cA Bv [srd x_10.1 (yG y.2),.int .i64 16,.str #[].toList,Al (x_6::List.append._f [] PUnit.unit zs++zs_1)] fun x_12 y=>rA (IM n) x [.int .i64 (AY (xh x_12)),srd x_12.1 (Ax (xh x_12) {kind:=x_12.2.2.2.2.2.1,text:=x_12.2.2.2.2.2.2.1,kids:=x_12.2.2.2.2.2.2.2,blank:=false})]) (cA Bv [srd x_9.1 (BK x_9.1.sg (xh x_9) x_9.2.2.2.2.2),.int .i64 16,.str #[].toList,Al ([x_6]++zs)] fun x_10 y=>rA (IM n) x [.int .i64 (AY (xh x_10)),srd x_10.1 (Ax (xh x_10) {kind:=x_10.2.2.2.2.2.1,text:=x_10.2.2.2.2.2.2.1,kids:=x_10.2.2.2.2.2.2.2,blank:=false})])) (cA EW [srd x_4.1 (BK x_4.1.sg (xh x_4) x_4.2.2.2.2.2),.str #[(119:UInt8),104,105,108,101].toList] fun x_5 y=>Aa (isG x_5.1.sg (xh x_5) (1:Int) x_5.2.2.2.2.2) (cA MM [srd x_5.1 (BK x_5.1.sg (xh x_5) x_5.2.2.2.2.2)] fun x_6 y=>∃(x_7:Int),y.1=x_7∧cA (Kd n) [srd x_6.1 (yG y.2)] fun x_8 y=>∃(x_9:Int),y.1=x_9∧∃(zs:List Int),Al [x_9]=Al zs∧BI Bx∧Bb (List.length [x_7]+zs.length) (8:Nat)∧cA Bv [srd x_8.1 (yG y.2),.int .i64 17,.str #[].toList,Al ([x_7]++zs)] fun x_10 y=>rA (IM n) x [.int .i64 (AY (xh x_10)),srd x_10.1 (Ax (xh x_10) {kind:=x_10.2.2.2.2.2.1,text:=x_10.2.2.2.2.2.2.1,kids:=x_10.2.2.2.2.2.2.2,blank:=false})]) (true=true∧true=true∧∃(x_6:ST×Int×Int×Bool×List Nd×Int),(rOk x_6.1 (xh x_6)∧x_6.2.2.2.2.2≠(0:Int))∧AV.pf [AV.sl false 0 4 Sg (fun(x:Sg)=>fzL (sgA x)) x_5.1.sg,.int .i64 (BK x_5.1.sg (xh x_5) x_5.2.2.2.2.2).pos,.bool (BK x_5.1.sg (xh x_5) x_5.2.2.2.2.2).bad,.int .i64 (BK x_5.1.sg (xh x_5) x_5.2.2.2.2.2).deep,AV.sl false 0 4 Nd (fun(x:Nd)=>fzL (ndA true x)) (BK x_5.1.sg (xh x_5) x_5.2.2.2.2.2).nodes]=AV.pf [sgs x_6.1.sg,.int .i64 (xh x_6).pos,.bool (xh x_6).bad,.int .i64 (xh x_6).deep,nds (xh x_6).nodes]∧1=x_6.2.2.2.2.2∧∃(y0:Unit),(∀(y:Unit),True→AV.bool (kdG x_6.1.sg (xh x_6) x_6.2.2.2.2.2)=AV.bool (kdG x_6.1.sg (xh x_6) x_6.2.2.2.2.2))∧true=true∧Aa (kdG x_6.1.sg (xh x_6) x_6.2.2.2.2.2) (inR .i64 ((BK x_5.1.sg (xh x_5) x_5.2.2.2.2.2).pos+1)∧Aa (decide ((BK x_5.1.sg (xh x_5) x_5.2.2.2.2.2).pos+1<(x_5.1.sg.length:Int))) (inR .i64 ((BK x_5.1.sg (xh x_5) x_5.2.2.2.2.2).pos+1)∧(0≤(BK x_5.1.sg (xh x_5) x_5.2.2.2.2.2).pos+1∧(BK x_5.1.sg (xh x_5) x_5.2.2.2.2.2).pos+1<(x_5.1.sg.length:Int))∧∀(e:Sg),x_5.1.sg[Int.toNat ((BK x_5.1.sg (xh x_5) x_5.2.2.2.2.2).pos+1)]? =some e→Aa (e.kind==4) (inR .i64 ((BK x_5.1.sg (xh x_5) x_5.2.2.2.2.2).pos+1)∧(0≤(BK x_5.1.sg (xh x_5) x_5.2.2.2.2.2).pos+1∧(BK x_5.1.sg (xh x_5) x_5.2.2.2.2.2).pos+1<(x_5.1.sg.length:Int))∧∀(e:Sg),x_5.1.sg[Int.toNat ((BK x_5.1.sg (xh x_5) x_5.2.2.2.2.2).pos+1)]? =some e→Aa (e.text== #[(61:UInt8)].toList) (cA CL [srd x_5.1 (BK x_5.1.sg (xh x_5) x_5.2.2.2.2.2),.int .i64 1] fun x_7 y=>cA BZ [srd x_7.1 (Bh x_7.1.sg (xh x_7) x_7.2.2.2.2.2),.str #[(61:UInt8)].toList] fun x_8 y=>cA HX [srd x_8.1 (AP x_8.1.sg (xh x_8) x_8.2.2.2.2.2)] fun x_9 y=>cA BZ [srd x_9.1 (yG y.2),.str #[(59:UInt8)].toList] fun x_10 y_1=>∃(x_11:Int),y.1=x_11∧cA Bv [srd x_10.1 (AP x_10.1.sg (xh x_10) x_10.2.2.2.2.2),.int .i64 13,.str (Bz x_7.1.sg (xh x_7) x_7.2.2.2.2.2),Al [x_11]] fun x_12 y=>rA (IM n) x [.int .i64 (AY (xh x_12)),srd x_12.1 (Ax (xh x_12) {kind:=x_12.2.2.2.2.2.1,text:=x_12.2.2.2.2.2.2.1,kids:=x_12.2.2.2.2.2.2.2,blank:=false})]) (QQ n x x_5)) (QQ n x x_5)) (QQ n x x_5)) (QQ n x x_5))))))) (fun x=>by kernel_rfl) fun(x:ST×Int×Int×Bool×List Nd) (hx:(okQ x.1 (xg x)∧(xg x).bad=false)∧21-(xg x).deep≤(n+1:Nat))=>(by
 dsimp only[QQ,cA,Br,nds,Al,Bj,rA,Kd,MM,Ez,Jq,Bv,IM,CL,HX,Hj,BZ,EW,Du,sgs,srd,srf,As,Az,mvL,lnL,mvE,lnE]
 obtain⟨s,p,d,b,ns⟩:=x;dsimp only[xg,xh] at hx ⊢
 obtain⟨⟨hx,hb⟩,hd⟩:=hx
 have hx:okQ s ⟨p,d,b,ns⟩:=hx
 have hD:=EX hx;have hM:=OB hx;have h1:=hD.1
 (repeat' first|(show AV.pf _=AV.pf _;first|exact a6q|(with_unfolding_all exact a6q)|(with_unfolding_all rfl))|(with_reducible first|rfl|exact True.intro|apply AK|apply And.intro|((first|apply AA|apply AI|apply AB|apply AJ)<;>intro _))|(apply Av<;>intro _)|apply AH|refine Ae () ?_ ?_|((first|apply AO|apply AN|apply AM|apply AL|apply AG|apply AF|apply AE|apply AD|apply AC)<;>try dsimp only)|apply Ae|(refine Prod.forall.2 ?_;intro _;try dsimp only)|(intro _;try dsimp only))
 all_goals(try dsimp only[xg,xh,yG,yS,iG,iF] at*)
 all_goals(try simp only[GG] at*)
 all_goals(try(have e:=Kb ‹isG s.sg ⟨p,d,b,ns⟩ 1 [118,97,114]=false›;simp only[e] at*))
 all_goals(try(have e:=Kc ‹isG s.sg ⟨p,d,b,ns⟩ 1 [118,97,114]=true›;simp only[e] at*))
 all_goals(try(have e:=Kb ‹isG s.sg ⟨p,d,b,ns⟩ 1 [114,101,116,117,114,110]=false›;simp only[e] at*))
 all_goals(try(have e:=Kc ‹isG s.sg ⟨p,d,b,ns⟩ 1 [114,101,116,117,114,110]=true›;simp only[e] at*))
 all_goals(try(have e:=Kb ‹isG s.sg ⟨p,d,b,ns⟩ 1 [105,102]=false›;simp only[e] at*))
 all_goals(try(have e:=Kc ‹isG s.sg ⟨p,d,b,ns⟩ 1 [105,102]=true›;simp only[e] at*))
 all_goals(try(have e:=Kb ‹isG s.sg ⟨p,d,b,ns⟩ 1 [119,104,105,108,101]=false›;simp only[e] at*))
 all_goals(try(have e:=Kc ‹isG s.sg ⟨p,d,b,ns⟩ 1 [119,104,105,108,101]=true›;simp only[e] at*))
 all_goals first
  |rfl
  |exact h1
  |exact hM
  |omega
  |(simp;done)
  |exact b9w hx ‹_›
  |exact HW h1 (by omega)
  |exact GL hx ‹_›
  |exact EX (GL hx ‹_›)
  |exact(EX (GL hx ‹_›)).1
  |exact b9x hx ‹_› ‹_› ‹_›
  |exact b9z hx ‹_› ‹_› ‹_› ‹_› ‹_›
  |exact b9y hx ‹_› ‹_› ‹_› ‹_›
  |exact FG h1 ‹_›
  |exact(Hh (FG h1 ‹_›)).1
  |exact(Hh (EX (GL hx ‹_›)).1).1
  |exact b9K hx ‹_› ‹_› ‹_› ‹_› ‹_› (b9J (x:=⟨p,d,b,ns⟩) hb ‹_› ‹_› (b9D ‹_› ‹_›) (b9F ‹_› ‹_›)) ‹_›
  |exact TY hx ‹_› ‹_› ‹_› ‹_› ‹_› (b9H ‹_›) ‹_›
  |exact TY hx ‹_› ‹_› ‹_› ‹_› ‹_› (b9I (x:=⟨p,d,b,ns⟩) ‹_›) ‹_›
  |exact TY hx ‹_› ‹_› ‹_› ‹_› ‹_› (a6l (x:=⟨p,d,b,ns⟩) hb ‹_› (.inl (b9E ‹_› ‹_›))) ‹_›
  |exact TY hx ‹_› ‹_› ‹_› ‹_› ‹_› (a6l (x:=⟨p,d,b,ns⟩) hb ‹_› (.inr (b9G ‹_› ‹_›))) ‹_›
  |(have hq:=Hd h1;dsimp only at hq;(try simp only[An]);omega)
  |exact(a6m hx).1
  |exact EX (a6m hx).2
  |exact hD
  |(simp [Bb];done)
  |exact(show Bb 2 8 by simp [Bb])
  |exact(show Bb 3 8 by simp [Bb])
  |skip
 all_goals(try(have hc:= ‹BF s.sg (Aw ⟨p,d,b,ns⟩) (DZ s.sg) _›;have k0:=GL hx ‹isG s.sg ⟨p,d,b,ns⟩ 1 _=true›;have k1:=b9L k0 hc;have k2:=b9M (n:=n) (x:=⟨p,d,b,ns⟩) hd hc))
 all_goals first
  |exact k1
  |exact k2
  |exact(EX (OC k1 ‹_›)).1
  |exact a6o (EX (OC k1 ‹_›)).1
  |exact GL (OC k1 ‹_›) ‹_›
  |exact a6p (OC k1 ‹_›)
  |(have hh:=b9N (m:=[101,108,115,101]) k2 ‹Ah s.sg _ (BO s.sg _) _›;exact hh)
  |exact FG h1 ‹_›
  |exact b9A hx ‹_› ‹_› ‹_› ‹_› ‹_› ‹_› ‹_›
  |exact b9B hx ‹_› ‹_› ‹_› ‹_› ‹_› ‹_› ‹_› ‹_›
  |exact b9C hx ‹_› ‹_› ‹_› ‹_› ‹_› ‹_› ‹_›
  |exact(EX (OC (a6p (OC k1 ‹_›)) ‹_›)).1
  |exact h1
  |skip)
end Go.My
end
section
namespace Go.My
open Go.Eng Go.Proofs
variable {G:GInv}
variable {N:Nat}{ks:List Int}{s:ST}{x y:Gs}{z:Int×Gs}
theorem b9R(n:Nat):Ai G Go.Proofs.Tryz.prog 178 (ML n):=by
 induction n with
 |zero=>exact ME Tryz.func178 rfl (by decide) (fun x h=>by have h1:=h.1.1.1.2;have h2:=h.2;omega)
 |succ n ih=>exact b9Q n ih
def MN:Sig:= {X:=ST×Int×Int×Bool×List Nd,args:=fun x=>[srd x.1 (xg x)],pre:=fun x=>okQ x.1 (xg x),Y:=Int×Int×Int×Bool×List Nd,post:=fun x y=>Ah x.1.sg (xg x) (FV x.1.sg) (yS y),res:=fun x y=> .int .i64 y.1,outs:=fun x y=>[srd x.1 (yG y.2)],keep:=true}
theorem a6s{g:Gs}(h:okQ s g):okQ s g∧20-g.deep≤(stN:Int):=by
 have h1:=h.1.1.2.2.1.1
 exact⟨h,by unfold stN;omega⟩
theorem a6t:Ai G Go.Proofs.Tryz.prog 137 MN:=
 have c:=a6r (G:=G) stN (b9R stN)
 ⟨⟨c.1.1,fun x y hx hy=>c.1.2 x y (a6s hx) hy⟩,fun x hx=>c.2 x (a6s hx)⟩
theorem a6u{v:List Int×Gs}(h:okQ s x)(hv:vlQ s.sg (BQ s.sg) [41] [] (AP s.sg (Bh s.sg x 1) [40]) v):okQ s v.2:=by
 have a:=Hh (m:=[40]) (HW (k:=1) h.1.1 (by omega))
 have e:(Bh s.sg x 1).deep=x.deep:=by unfold Bh;split<;>rfl
 obtain⟨b1,b2,b3,b4⟩:=YS h.1.1.1 hv
 exact⟨⟨b1,by have:=h.1.2;omega⟩,h.2⟩
theorem a6v{v:List Int×Gs}{q:Int×Gs}(h:okQ s x)(hv:vlQ s.sg (BQ s.sg) [41] [] (AP s.sg (Bh s.sg x 1) [40]) v)(hq:Ah s.sg v.2 (FV s.sg) q):
 Ah s.sg x (GE s.sg false) (AY q.2,Ax q.2 ⟨20,Bz s.sg x 1,v.1++[q.1],false⟩):=by
 rw[II.1] at hv;rw[II.2]
 obtain⟨l,⟨a,b⟩,rfl⟩:=hv
 exact b6O (l:=l) h.1.1.1 h.1.1.2 a b hq
def clS(sg:List Sg)(x y:Gs)(ks:List Int)(N:Nat):Prop:=Lb sg (Dv sg) [125] (AP sg (Bh sg (Aw x) 1) [123]) y ks N∧y.deep=x.deep
theorem a6w(h:okQ s (Aw x)):clS s.sg x (AP s.sg (Bh s.sg (Aw x) 1) [123]) [] (s.sg.length+1):=by
 have a:=HW (k:=1) h.1.1 (by omega)
 refine⟨a5d (Hh a).1.2,?_⟩
 rw[(Hh a).2];unfold Bh;split<;>rfl
theorem b9S(h:okQ s x)(h1:isG s.sg x 1 [118,97,114]=false)(h2:isG s.sg (BK s.sg x [118,97,114]) 1 [99,108,97,115,115]=true):
 clS s.sg x (AP s.sg (Bh s.sg (BK s.sg (BK s.sg x [118,97,114]) [99,108,97,115,115]) 1) [123]) [] (s.sg.length+1):=by
 rw[Kb h1] at h2 ⊢
 rw[Kc h2];exact a6w (GL h h2)
theorem b9T(h:okQ s (Aw x)):rOk s (Bh s.sg (Aw x) 1)∧rOk s (AP s.sg (Bh s.sg (Aw x) 1) [123]):=
 have a:=HW (k:=1) h.1.1 (by omega)
 ⟨a,(Hh a).1⟩
theorem Zy(h:okQ s (Aw x))(hj:clS s.sg x y ks N):okQ s y:=⟨⟨⟨h.1.1.1,hj.1.1.1⟩,by have:=hj.2;have:=h.1.2;simp only[Aw] at*;omega⟩,h.2⟩
theorem a6x(h:okQ s (Aw x))(hj:clS s.sg x y ks N)(hb:y.bad=false)(hq:isG s.sg y 4 [125]=false):okQ s (AS s.sg y [125])∧(AS s.sg y [125]).bad=false:=by
 rw[Ea hq];exact⟨Zy h hj,hb⟩
theorem Zz(h:okQ s (Aw x))(hj:clS s.sg x y ks N):ks.length≤3001:=by
 have:=hj.1.2.2.1;have:=hj.1.1.1.1;have:=h.1.1.1.1;omega
theorem Lg{b:Bool}(hj:clS s.sg x y ks N)(hb:y.bad=false)(hq:isG s.sg y 4 [125]=false)(hz:Ah s.sg (AS s.sg y [125]) (Dv s.sg false) z)(e:b=(blG s.sg (AS s.sg y [125])&&decide (0<(ks.length:Int)))):
 clS s.sg x (gBl z.2 z.1 b) (ks++[z.1]) (N-1)∧N-1<N:=by
 rw[Ea hq] at hz e
 rw[Zq hb] at e
 have hz2:Ah s.sg y (Dv s.sg b) (z.1,gBl z.2 z.1 b):=Zp Zn hz
 subst e
 obtain⟨a,b⟩:=Om (a5h hj.1 hb hq (z:=(z.1,gBl z.2 z.1 ((pkG s.sg y 0).blank&&decide (0<(ks.length:Int))))) (by
  have:decide (0<ks.length)=decide (0<(ks.length:Int)):=by simp
  rw[this];exact hz2))
 have:=(Dh hz2).1
 exact⟨⟨a,by have:=hj.2;simp only at*;omega⟩,b⟩
theorem a6y{l:List Int×Gs}(h:okQ s (Aw x))(hl:BF s.sg (AP s.sg (Bh s.sg (Aw x) 1) [123]) (CY s.sg (Dv s.sg) [125] (s.sg.length+1) []) l)(hll:l.1.length≤3001):
 Ah s.sg (Aw x) (Hc s.sg false) (AY (AP s.sg l.2 [125]),Ax (AP s.sg l.2 [125]) ⟨21,Bz s.sg (Aw x) 1,l.1,false⟩):=by
 rw[II.1] at hl;rw[II.2]
 exact IH hl.1 (Fp (JW h.1.1.1) (by omega)) (b6P h.1.1.1 h.1.1.2 hl hll)
theorem b9U(h:okQ s (Aw x))(hj:clS s.sg x y ks N)(hq:isG s.sg y 4 [125]=true):
 Ah s.sg (Aw x) (Hc s.sg false) (AY (AS s.sg y [125]),Ax (AS s.sg y [125]) ⟨21,Bz s.sg (Aw x) 1,ks,false⟩):=by
 rw[EV hq,←JY hq];exact a6y (l:=(ks,y)) h (a5g hj.1 hq) (Zz h hj)
theorem b9V(h:okQ s (Aw x))(hj:clS s.sg x y ks N)(hb:y.bad=true):
 Ah s.sg (Aw x) (Hc s.sg false) (AY y,Ax y ⟨21,Bz s.sg (Aw x) 1,ks,false⟩):=by
 have a:=a6y (l:=(ks,y)) h (a5e hj.1 hb) (Zz h hj)
 simp only[TH hb] at a;exact a
theorem b9W(h:okQ s x)(hk:kdG s.sg x 5=true):Ah s.sg x (Dv s.sg false) (AY (Bh s.sg x 5),Ax (Bh s.sg x 5) ⟨19,Bz s.sg x 5,[],false⟩):=by
 have hn:=hk
 rw[QM (by omega)] at hn
 exact Ow h.1.1.1 h.1.1.2 (by omega) hk (b6Q h.1.1.1 h.1.1.2 (by simpa using hn))
theorem b9X(h:okQ s x)(hk:kdG s.sg x 5=true):Ah s.sg x (DG s.sg false) (AY (Bh s.sg x 5),Ax (Bh s.sg x 5) ⟨19,Bz s.sg x 5,[],false⟩):=by
 have hn:=hk
 rw[QM (by omega)] at hn
 exact Ow h.1.1.1 h.1.1.2 (by omega) hk (b6T h.1.1.1 h.1.1.2 (by simpa using hn))
theorem b9Y(h:okQ s x)(hk:kdG s.sg x 5=false)(hq:isG s.sg x 1 [118,97,114]=true)(hz:Ah s.sg (Aw x) (DN s.sg false) z):Ah s.sg x (Dv s.sg false) z:=b6R h.1.1.2 (Hi hk) hq hz
theorem b9Z(h:okQ s x)(hk:kdG s.sg x 5=false)(hq:isG s.sg x 1 [118,97,114]=true)(hz:Ah s.sg (Aw x) (DN s.sg false) z):Ah s.sg x (DG s.sg false) z:=b6U h.1.1.2 (Hi hk) hq hz
theorem c0a(h:okQ s x)(hk:kdG s.sg x 5=false)(hq:isG s.sg x 1 [118,97,114]=false)(hz:Ah s.sg x (GE s.sg false) z):Ah s.sg x (Dv s.sg false) z:=b6S h.1.1.2 (Hi hk) hq hz
theorem c0b(h:okQ s x)(hk:kdG s.sg x 5=false)(h1:isG s.sg x 1 [118,97,114]=false)(hq:isG s.sg x 1 [99,108,97,115,115]=false)(hz:Ah s.sg x (GE s.sg false) z):Ah s.sg x (DG s.sg false) z:=b6W h.1.1.2 (Hi hk) h1 hq hz
theorem a6z(h:okQ s x)(hk:kdG s.sg x 5=false)(h1:isG s.sg x 1 [118,97,114]=false)(hq:isG s.sg x 1 [99,108,97,115,115]=true)(hz:Ah s.sg (Aw x) (Hc s.sg false) z):Ah s.sg x (DG s.sg false) z:=b6V h.1.1.2 (Hi hk) h1 hq hz
def a6A:Sig:= {X:=ST×Int×Int×Bool×List Nd,args:=fun x=>[srd x.1 (xg x),.bool false],pre:=fun x=>False,Y:=Int×Int×Int×Bool×List Nd,post:=fun x y=>True,res:=fun x y=> .int .i64 y.1,outs:=fun x y=>[srd x.1 (yG y.2),.top],keep:=true}
theorem c0c:Ai G Go.Proofs.Tryz.prog 106 a6A:=ME Tryz.func106 rfl (by decide) (fun x h=>h)
attribute [local irreducible] pE Bw Dq fnR Ah BF gsOk AP CZ Ax Dz ER AS Ew EI AY Da pkG isG nmG kdG Bh Bz BQ vlQ BK gBl blG DN Hg DZ Cl BO stR CY okQ sgM clS Dv DG GE Hc FV
def Ke:Sig:= {X:=ST×Int×Int×Bool×List Nd,args:=fun x=>[srd x.1 (xg x),.bool false],pre:=fun x=>okQ x.1 (xg x)∧(xg x).bad=false,Y:=Int×Int×Int×Bool×List Nd,post:=fun x y=>Ah x.1.sg (xg x) (Dv x.1.sg false) (yS y),res:=fun x y=> .q y.1,outs:=fun x y=>[srd x.1 (yG y.2),.top],keep:=true}
def c0d(x:ST×Int×Int×Bool×List Nd):LS:= {ι:=Int×Int×Bool×List Nd×List Int×Nat,inv:=fun i=>False,regs:=fun i=>[(0,srd x.1 (iG i)),(5,.str (Bz x.1.sg (Aw (xg x)) 1)),(6,Al i.2.2.2.2.1)],als:=[],meas:=fun i=>i.2.2.2.2.2}
theorem c0e:Ai G Tryz.prog 106 Ke:=
 vcFun_okP [(130,0,EA),(131,0,CL),(108,0,Bv),(132,0,EW),(133,0,Hj),(134,0,BZ),(135,0,Cb),(105,0,GI),(106,0,a6A),(107,0,Fq),(136,0,GK),(137,0,MN)] [(38,⟨Int,Bx⟩)] false (fun x=>[(9,c0d x)]) Tryz.func106 rfl (by decide) ⟨TE,Le,HV,YK,Zw,IG,HU,TF,c0c,TG,YX,a6t,trivial⟩ (fun(x:ST×Int×Int×Bool×List Nd)=>True∧cA EA [srd x.1 (xg x),.q 5] fun x_1 y=>Aa (kdG x_1.1.sg (xh x_1) x_1.2.2.2.2.2) (cA CL [srd x_1.1 (xh x_1),.q 5] fun x_2 y=>cA Bv [srd x_2.1 (Bh x_2.1.sg (xh x_2) x_2.2.2.2.2.2),.q 19,.str (Bz x_2.1.sg (xh x_2) x_2.2.2.2.2.2),Al []] fun x_3 y=>rA Ke x [.q (AY (xh x_3)),srd x_3.1 (Ax (xh x_3) {kind:=x_3.2.2.2.2.2.1,text:=x_3.2.2.2.2.2.2.1,kids:=x_3.2.2.2.2.2.2.2,blank:=false}),.top]) (cA EW [srd x_1.1 (xh x_1),.str #[(118:UInt8),97,114].toList] fun x_2 y=>Aa (isG x_2.1.sg (xh x_2) (1:Int) x_2.2.2.2.2.2) (cA Hj [srd x_2.1 (BK x_2.1.sg (xh x_2) x_2.2.2.2.2.2)] fun x_3 y=>rA Ke x [.q y.1,srd x_3.1 (yG y.2),.top]) (cA CL [srd x_2.1 (BK x_2.1.sg (xh x_2) x_2.2.2.2.2.2),.q 1] fun x_3 y=>cA GK [srd x_3.1 (Bh x_3.1.sg (xh x_3) x_3.2.2.2.2.2)] fun x_4 y=>cA MN [srd x_4.1 (yG y.2)] fun x_5 y_1=>∃(x_6:Int),y_1.1=x_6∧∃(zs:List Int),Al [x_6]=Al zs∧BI Bx∧Bb (y.1.length+zs.length) (8:Nat)∧cA Bv [srd x_5.1 (yG y_1.2),.q 20,.str (Bz x_3.1.sg (xh x_3) x_3.2.2.2.2.2),Al (y.1++zs)] fun x_7 y=>rA Ke x [.q (AY (xh x_7)),srd x_7.1 (Ax (xh x_7) {kind:=x_7.2.2.2.2.2.1,text:=x_7.2.2.2.2.2.2.1,kids:=x_7.2.2.2.2.2.2.2,blank:=false}),.top]))) (fun x=>by kernel_rfl) fun(x:ST×Int×Int×Bool×List Nd) (hx:okQ x.1 (xg x)∧(xg x).bad=false)=>(by
 dsimp only[cA,Br,Al,Bj,rA,MN,EA,Ke,GK,Bv,CL,Hj,EW,Du,sgs,srd,As,Az,mvL,lnL,mvE,lnE,AV.q]
 obtain⟨s,p,d,b,ns⟩:=x;dsimp only[xg,xh] at hx ⊢
 obtain⟨hx,hb⟩:=hx
 have hx:okQ s ⟨p,d,b,ns⟩:=hx
 have hD:=EX hx;have hM:=OB hx;have h1:=hD.1;have hs:=h1.1
 (repeat' first|(with_reducible first|rfl|exact True.intro|apply AK|apply And.intro|((first|apply AA|apply AI|apply AB|apply AJ)<;>intro _))|(apply Av<;>intro _)|apply AH|refine Ae () ?_ ?_|((first|apply AO|apply AN|apply AM|apply AL|apply AG|apply AF|apply AE|apply AD|apply AC)<;>try dsimp only)|apply Ae|(refine Prod.forall.2 ?_;intro _;try dsimp only)|(intro _;try dsimp only))
 all_goals(try dsimp only[xg,xh,yG,yS,iG,iF] at*)
 all_goals(try simp only[GG] at*)
 all_goals(try(have e:=Kb ‹isG s.sg ⟨p,d,b,ns⟩ 1 [118,97,114]=false›;simp only[e] at*))
 all_goals(try(have e:=Kc ‹isG s.sg ⟨p,d,b,ns⟩ 1 [118,97,114]=true›;simp only[e] at*))
 all_goals first
  |rfl
  |exact h1
  |omega
  |contradiction
  |exact b9W hx ‹_›
  |exact HW h1 (by omega)
  |exact GL hx ‹_›
  |exact b9Y hx ‹_› ‹_› ‹_›
  |exact a6u hx ‹_›
  |exact FG h1 ‹_›
  |exact c0a hx ‹_› ‹_› (a6v hx ‹_› ‹_›)
  |(have hq:=Za hs ‹vlQ _ _ _ [] _ _›;(try simp only[Bb,List.length_append,List.length_cons,List.length_nil] at*);omega)
  |skip)
def IP:Sig:= {X:=ST×Int×Int×Bool×List Nd,args:=fun x=>[srd x.1 (xg x),.bool true],pre:=fun x=>okQ x.1 (xg x)∧(xg x).bad=false,Y:=Int×Int×Int×Bool×List Nd,post:=fun x y=>Ah x.1.sg (xg x) (DG x.1.sg false) (yS y),res:=fun x y=> .q y.1,outs:=fun x y=>[srd x.1 (yG y.2),.top],keep:=true}
def QR(x:ST×Int×Int×Bool×List Nd):LS:= {ι:=Int×Int×Bool×List Nd×List Int×Nat,inv:=fun i=>clS x.1.sg (xg x) (iG i) i.2.2.2.2.1 i.2.2.2.2.2,regs:=fun i=>[(0,srd x.1 (iG i)),(5,.str (Bz x.1.sg (Aw (xg x)) 1)),(6,Al i.2.2.2.2.1)],als:=[],meas:=fun i=>i.2.2.2.2.2}
theorem c0f:Ai G Tryz.prog 106 IP:=
 vcFun_okP [(130,0,EA),(131,0,CL),(108,0,Bv),(132,0,EW),(133,0,Hj),(134,0,BZ),(135,0,Cb),(105,0,GI),(106,0,Ke),(107,0,Fq),(136,0,GK),(137,0,MN)] [(38,⟨Int,Bx⟩)] false (fun x=>[(9,QR x)]) Tryz.func106 rfl (by decide) ⟨TE,Le,HV,YK,Zw,IG,HU,TF,c0e,TG,YX,a6t,trivial⟩ (fun(x:ST×Int×Int×Bool×List Nd)=>True∧cA EA [srd x.1 (xg x),.q 5] fun x_1 y=>Aa (kdG x_1.1.sg (xh x_1) x_1.2.2.2.2.2) (cA CL [srd x_1.1 (xh x_1),.q 5] fun x_2 y=>cA Bv [srd x_2.1 (Bh x_2.1.sg (xh x_2) x_2.2.2.2.2.2),.q 19,.str (Bz x_2.1.sg (xh x_2) x_2.2.2.2.2.2),Al []] fun x_3 y=>rA IP x [.q (AY (xh x_3)),srd x_3.1 (Ax (xh x_3) {kind:=x_3.2.2.2.2.2.1,text:=x_3.2.2.2.2.2.2.1,kids:=x_3.2.2.2.2.2.2.2,blank:=false}),.top]) (cA EW [srd x_1.1 (xh x_1),.str #[(118:UInt8),97,114].toList] fun x_2 y=>Aa (isG x_2.1.sg (xh x_2) (1:Int) x_2.2.2.2.2.2) (cA Hj [srd x_2.1 (BK x_2.1.sg (xh x_2) x_2.2.2.2.2.2)] fun x_3 y=>rA IP x [.q y.1,srd x_3.1 (yG y.2),.top]) (cA EW [srd x_2.1 (BK x_2.1.sg (xh x_2) x_2.2.2.2.2.2),.str #[(99:UInt8),108,97,115,115].toList] fun x_3 y=>Aa (isG x_3.1.sg (xh x_3) (1:Int) x_3.2.2.2.2.2) (cA CL [srd x_3.1 (BK x_3.1.sg (xh x_3) x_3.2.2.2.2.2),.q 1] fun x_4 y=>cA BZ [srd x_4.1 (Bh x_4.1.sg (xh x_4) x_4.2.2.2.2.2),.str #[(123:UInt8)].toList] fun x_5 y=>eA (QR x) [srd x_5.1 (AP x_5.1.sg (xh x_5) x_5.2.2.2.2.2),.str (Bz x_4.1.sg (xh x_4) x_4.2.2.2.2.2),Al []]∧∀(i:Int×Int×Bool×List Nd×List Int×Nat),clS x.1.sg (xg x) (iG i) i.2.2.2.2.1 i.2.2.2.2.2→Aa (!(iG i).bad) (cA Cb [srd x.1 (iG i),.str #[(125:UInt8)].toList] fun x_6 y=>Aa (!isG x_6.1.sg (xh x_6) (4:Int) x_6.2.2.2.2.2) (cA GI [srd x_6.1 (AS x_6.1.sg (xh x_6) x_6.2.2.2.2.2)] fun x_7 y=>Aa (blG x_7.1.sg (xg x_7)) (cA Ke [srd x_7.1 (xg x_7),.bool false] fun x_8 y=>cA Fq [srd x_8.1 (yG y.2),.q y.1,.bool (decide ((i.2.2.2.2.1.length:Int)>(0:Int)))] fun x_9 y_1=>∃(x_10:Int),y.1=x_10∧(∃(zs:List Int),Al [x_10]=Al zs∧(BI Bx∧(Bb (i.2.2.2.2.1.length+zs.length) (8:Nat)∧(eN (QR x) i [srd x_9.1 (gBl (xh x_9) x_9.2.2.2.2.2.1 x_9.2.2.2.2.2.2),.str (Bz x.1.sg (Aw (xg x)) (1:Int)),Al (i.2.2.2.2.1++zs)]))))) (cA Ke [srd x_7.1 (xg x_7),.bool false] fun x_8 y=>cA Fq [srd x_8.1 (yG y.2),.q y.1,.bool false] fun x_9 y_1=>∃(x_10:Int),y.1=x_10∧(∃(zs:List Int),Al [x_10]=Al zs∧(BI Bx∧(Bb (i.2.2.2.2.1.length+zs.length) (8:Nat)∧(eN (QR x) i [srd x_9.1 (gBl (xh x_9) x_9.2.2.2.2.2.1 x_9.2.2.2.2.2.2),.str (Bz x.1.sg (Aw (xg x)) (1:Int)),Al (i.2.2.2.2.1++zs)])))))) (cA Bv [srd x_6.1 (AS x_6.1.sg (xh x_6) x_6.2.2.2.2.2),.q 21,.str (Bz x.1.sg (Aw (xg x)) (1:Int)),Al i.2.2.2.2.1] fun x_7 y=>rA IP x [.q (AY (xh x_7)),srd x_7.1 (Ax (xh x_7) {kind:=x_7.2.2.2.2.2.1,text:=x_7.2.2.2.2.2.2.1,kids:=x_7.2.2.2.2.2.2.2,blank:=false}),.top])) (cA Bv [srd x.1 (iG i),.q 21,.str (Bz x.1.sg (Aw (xg x)) (1:Int)),Al i.2.2.2.2.1] fun x_6 y=>rA IP x [.q (AY (xh x_6)),srd x_6.1 (Ax (xh x_6) {kind:=x_6.2.2.2.2.2.1,text:=x_6.2.2.2.2.2.2.1,kids:=x_6.2.2.2.2.2.2.2,blank:=false}),.top])) (cA CL [srd x_3.1 (BK x_3.1.sg (xh x_3) x_3.2.2.2.2.2),.q 1] fun x_4 y=>cA GK [srd x_4.1 (Bh x_4.1.sg (xh x_4) x_4.2.2.2.2.2)] fun x_5 y=>cA MN [srd x_5.1 (yG y.2)] fun x_6 y_1=>∃(x_7:Int),y_1.1=x_7∧∃(zs:List Int),Al [x_7]=Al zs∧BI Bx∧Bb (y.1.length+zs.length) (8:Nat)∧cA Bv [srd x_6.1 (yG y_1.2),.q 20,.str (Bz x_4.1.sg (xh x_4) x_4.2.2.2.2.2),Al (y.1++zs)] fun x_8 y=>rA IP x [.q (AY (xh x_8)),srd x_8.1 (Ax (xh x_8) {kind:=x_8.2.2.2.2.2.1,text:=x_8.2.2.2.2.2.2.1,kids:=x_8.2.2.2.2.2.2.2,blank:=false}),.top])))) (fun x=>by kernel_rfl) fun(x:ST×Int×Int×Bool×List Nd) (hx:okQ x.1 (xg x)∧(xg x).bad=false)=>(by
 dsimp only[cA,eA,eN,QR,Br,Al,Bj,rA,MN,GI,Fq,EA,Cb,IP,Ke,GK,Bv,CL,Hj,BZ,EW,Du,sgs,srd,As,Az,mvL,lnL,mvE,lnE,Bl,AV.q]
 obtain⟨s,p,d,b,ns⟩:=x;dsimp only[xg,xh] at hx ⊢
 obtain⟨hx,hb⟩:=hx
 have hx:okQ s ⟨p,d,b,ns⟩:=hx
 have hD:=EX hx;have hM:=OB hx;have h1:=hD.1;have hs:=h1.1
 (repeat' first|(with_reducible first|rfl|exact True.intro|apply AK|apply And.intro|((first|apply AA|apply AI|apply AB|apply AJ)<;>intro _))|(apply Av<;>intro _)|apply AH|refine Ae () ?_ ?_|((first|apply AO|apply AN|apply AM|apply AL|apply AG|apply AF|apply AE|apply AD|apply AC)<;>try dsimp only)|apply Ae|(refine Prod.forall.2 ?_;intro _;try dsimp only)|(intro _;try dsimp only))
 all_goals(try dsimp only[xg,xh,yG,yS,iG,iF] at*)
 all_goals(try simp only[GG] at*)
 all_goals first
  |(show Nat;skip)
  |exact b9S hx ‹_› ‹_›
  |exact(Lg ‹_› ‹_› ‹_› ‹_› (Lc ‹_›)).1
  |exact(Lg ‹_› ‹_› ‹_› ‹_› (Ld ‹_›)).1
  |skip
 all_goals(try(first|exact(Lg ‹_› ‹_› ‹_› ‹_› (Lc ‹_›)).2|exact(Lg ‹_› ‹_› ‹_› ‹_› (Ld ‹_›)).2))
 all_goals(try(have e:=Kb ‹isG s.sg ⟨p,d,b,ns⟩ 1 [118,97,114]=false›;simp only[e] at*))
 all_goals(try(have e:=Kc ‹isG s.sg ⟨p,d,b,ns⟩ 1 [118,97,114]=true›;simp only[e] at*))
 all_goals(try(have e:=Kb ‹isG s.sg ⟨p,d,b,ns⟩ 1 [99,108,97,115,115]=false›;simp only[e] at*))
 all_goals(try(have e:=Kc ‹isG s.sg ⟨p,d,b,ns⟩ 1 [99,108,97,115,115]=true›;simp only[e] at*))
 all_goals(try(have hw:=GL hx ‹isG s.sg ⟨p,d,b,ns⟩ 1 [99,108,97,115,115]=true›))
 all_goals first
  |(show Nat;skip)
  |rfl
  |exact h1
  |omega
  |contradiction
  |exact b9X hx ‹_›
  |exact HW h1 (by omega)
  |exact GL hx ‹_›
  |exact b9Z hx ‹_› ‹_› ‹_›
  |exact a6u hx ‹_›
  |exact(EX hw).1
  |exact(b9T hw).1
  |exact a6w hw
  |exact(EX (Zy hw ‹_›)).1
  |exact(a6x hw ‹_› ‹_› ‹_›).1
  |exact(a6x hw ‹_› ‹_› ‹_›).2
  |exact FY (EX (Zy hw ‹_›)).1
  |exact FG h1 ‹_›
  |exact OA Zn ‹_›
  |exact OA Zn ‹_› ‹_›
  |exact(Lg ‹_› ‹_› ‹_› ‹_› (Lc ‹_›)).1
  |exact(Lg ‹_› ‹_› ‹_› ‹_› (Ld ‹_›)).1
  |exact a6z hx ‹_› ‹_› ‹_› (b9U hw ‹_› ‹_›)
  |exact a6z hx ‹_› ‹_› ‹_› (b9V hw ‹_› ‹_›)
  |exact c0b hx ‹_› ‹_› ‹_› (a6v hx ‹_› ‹_›)
  |(have hq:=Za hs ‹vlQ _ _ _ [] _ _›;(try simp only[Bb,List.length_append,List.length_cons,List.length_nil] at*);omega)
  |(have hq:=Zz hw ‹clS _ _ _ _ _›;(try simp only[Bb,List.length_append,List.length_cons,List.length_nil]);omega)
  |skip
 all_goals first
  |exact(Lg ‹_› ‹_› ‹_› ‹_› (Lc ‹_›)).2
  |exact(Lg ‹_› ‹_› ‹_› ‹_› (Ld ‹_›)).2
  |skip)
end Go.My
end
section
namespace Go.My
open Go.Eng Go.Proofs
variable {G:GInv}
variable {b:Bool}{br i k m p:Int}{c:UInt8}{l:List Sg}{n:Nat}{t tx:List UInt8}
theorem a6B(h1:Ck c=false)(h2:Bn c=false):BM c=false:=by simp [BM,h1,h2]
theorem c0g(h1:Ck c=true):BM c=true:=by simp [BM,h1]
theorem c0h(h1:Bn c=true):BM c=true:=by simp [BM,h1]
theorem c0i{s:List UInt8}:CK s≤s.length:=by
 unfold CK
 cases h:Eo isQ (s.drop 1) with
 |none=>simp
 |some i=>
  simp only
  split
  ·have:=Yb h;simp at this;omega
  ·omega
theorem c0j{s:List UInt8}:Cy s≤s.length:=by
 unfold Cy
 split
 ·split
  ·exact Ty
  ·omega
 ·omega
theorem c0k{s:List UInt8}:(Gu s).length≤2:=by
 rw[a5z]
 split
 ·simp;omega
 ·split
  ·simp;omega
  ·simp
theorem c0l{x:List UInt8×Int}(h0:0≤x.2)(h1:x.2<x.1.length):(Cy (x.1.drop x.2.toNat):Int)≤x.1.length-x.2∧(CK (x.1.drop x.2.toNat):Int)≤x.1.length-x.2:=by
 have a:= @c0j (x.1.drop x.2.toNat);have b:= @c0i (x.1.drop x.2.toNat)
 simp at a b;omega
theorem a6C{x:List UInt8×Int}{d e:UInt8}(h0:0≤x.2)(hf:Ck c=false)(hc:x.1[x.2.toNat]? =some c)(hg:Bn d=true)(hd:x.1[x.2.toNat]? =some d)(h:rwI Bn x i)(hz:Bn e=false)(he:x.1[i.toNat]? =some e):
 (i-x.2>12→sgR x 0 [] 0 false 0)∧(¬i-x.2>12→sgR x 2 (List.drop (Int.toNat x.2) (List.take (Int.toNat i) x.1)) x.2 false (i-x.2)):=by
 rw[hc] at hd;cases hd
 exact QK h0 hc hf hg h (.inr ⟨_,he,hz⟩)
theorem a6D{c2:UInt8}(h32:(c.toNat:Int)≠32)(hc:t[i.toNat]? =some c)(h10:(c2.toNat:Int)≠10)(hc2:t[i.toNat]? =some c2)(h:sgJ t i br l n)(hi:i<t.length)(hs:sgR (t,i) k tx p b m)(hm:m≠0):
 sgJ t (i+m) 0 (l++[⟨k,tx,p,decide (br>1)⟩]) (n-1)∧n-1<n:=by
 rw[hc] at hc2;cases hc2
 rcases hs with⟨h1,⟨rfl,rfl,rfl,rfl⟩,rfl⟩|hs
 ·exact b7w hc h hi (by omega) (by omega) h1
 ·exact(hm hs.2).elim
theorem a6E{c2:UInt8}(h32:(c.toNat:Int)≠32)(hc:t[i.toNat]? =some c)(h10:(c2.toNat:Int)≠10)(hc2:t[i.toNat]? =some c2)(h:sgJ t i br l n)(hi:i<t.length)(hs:sgR (t,i) k tx p b m)(hm:m=0):CT t=none:=by
 rw[hc] at hc2;cases hc2
 rcases hs with⟨h1,_,h2⟩|hs
 ·have a:=(YG h1).1;rw[hm] at h2;rw[←h2] at a;omega
 ·exact b7x hc h hi (by omega) (by omega) hs.1
theorem c0m(h:sgJ t i br l n)(hs:sgR (t,i) k tx p b m):0≤m∧m≤t.length-i:=by
 rcases hs with⟨h1,_,h2⟩|hs
 ·have a:=a5s h h1;simp only at h2;omega
 ·have:=Oo h;omega
attribute [local irreducible] rwI sgR Bg Cy CK Gu
def TZ:Sig:= {X:=List UInt8×Int,args:=fun x=>[.str x.1,.q x.2],pre:=fun x=>0≤x.2∧x.2<x.1.length∧x.1.length<2^62,Y:=Int×List UInt8×Int×Bool×Int,post:=fun x y=>sgR x y.1 y.2.1 y.2.2.1 y.2.2.2.1 y.2.2.2.2,res:=fun x y=> .tup [.agg [.q y.1,.str y.2.1,.q y.2.2.1,.bool y.2.2.2.1],.q y.2.2.2.2],outs:=fun x y=>[.top,.top],keep:=false}
def QS(x:List UInt8×Int):LS:= {ι:=Int,inv:=fun i=>rwI BM x i,regs:=fun i=>[(0,.str x.1),(1,.q x.2),(4,.box 0 [.q 0,.str [],.q 0,.bool false]),(6,.q i)],als:=[],meas:=fun i=>x.1.length-i.toNat}
def Ua(x:List UInt8×Int):LS:= {ι:=Int,inv:=fun i=>rwI Bn x i,regs:=fun i=>[(0,.str x.1),(1,.q x.2),(4,.box 0 [.q 0,.str [],.q 0,.bool false]),(6,.q i)],als:=[],meas:=fun i=>x.1.length-i.toNat}
def ZA(x:List UInt8×Int)(i:Int):Prop:=Aa (decide (i-x.2>(30:Int))) (∃(y:Int×List UInt8×Int×Bool×Int),sgR x y.1 y.2.1 y.2.2.1 y.2.2.2.1 y.2.2.2.2∧0=y.1∧ #[].toList=y.2.1∧0=y.2.2.1∧false=y.2.2.2.1∧0=y.2.2.2.2∧True) ((0≤x.2∧x.2≤i∧i≤(x.1.length:Int))∧inR .i64 (i-x.2)∧(∃(y:Int×List UInt8×Int×Bool×Int),sgR x y.1 y.2.1 y.2.2.1 y.2.2.2.1 y.2.2.2.2∧1=y.1∧List.drop (Int.toNat x.2) (List.take (Int.toNat i) x.1)=y.2.1∧x.2=y.2.2.1∧false=y.2.2.2.1∧i-x.2=y.2.2.2.2∧True))
def ZB(x:List UInt8×Int)(i:Int):Prop:=Aa (decide (i-x.2>(12:Int))) (∃(y:Int×List UInt8×Int×Bool×Int),sgR x y.1 y.2.1 y.2.2.1 y.2.2.2.1 y.2.2.2.2∧0=y.1∧ #[].toList=y.2.1∧0=y.2.2.1∧false=y.2.2.2.1∧0=y.2.2.2.2∧True) ((0≤x.2∧x.2≤i∧i≤(x.1.length:Int))∧inR .i64 (i-x.2)∧(∃(y:Int×List UInt8×Int×Bool×Int),sgR x y.1 y.2.1 y.2.2.1 y.2.2.2.1 y.2.2.2.2∧2=y.1∧List.drop (Int.toNat x.2) (List.take (Int.toNat i) x.1)=y.2.1∧x.2=y.2.2.1∧false=y.2.2.2.1∧i-x.2=y.2.2.2.2∧True))
theorem c0n:Ai G Tryz.prog 129 TZ:=
 vcFun_okP [(169,0,GY),(170,0,Ji),(171,0,Fy),(172,0,Gk),(173,0,Ix),(174,0,MG)] [] false (fun x=>[(6,QS x),(12,Ua x)]) Tryz.func129 rfl (by decide) ⟨a3R,a3N,a3z,XM,a3Q,b7O,trivial⟩ (fun(x:List UInt8×Int)=>(∀(y:Int×List UInt8×Int×Bool×Int),sgR x y.1 y.2.1 y.2.2.1 y.2.2.2.1 y.2.2.2.2→((True∧True∧True∧True∧True)∧True∧True)∧True∧True∧True)∧cA GY [.str x.1,.q x.2] fun x_1 y=>Aa (decide ((↑(Cy (List.drop (Int.toNat x_1.2) x_1.1)):Int)>(0:Int))) (inR .i64 (x.2+(↑(Cy (List.drop (Int.toNat x_1.2) x_1.1)):Int))∧(0≤x.2∧x.2≤x.2+(↑(Cy (List.drop (Int.toNat x_1.2) x_1.1)):Int)∧x.2+(↑(Cy (List.drop (Int.toNat x_1.2) x_1.1)):Int)≤(x.1.length:Int))∧cA Ji [.str (List.drop (Int.toNat x.2) (List.take (Int.toNat (x.2+(↑(Cy (List.drop (Int.toNat x_1.2) x_1.1)):Int))) x.1))] fun x_2 y=>∃(y:Int×List UInt8×Int×Bool×Int),sgR x y.1 y.2.1 y.2.2.1 y.2.2.2.1 y.2.2.2.2∧5=y.1∧CQ x_2=y.2.1∧x.2=y.2.2.1∧false=y.2.2.2.1∧(↑(Cy (List.drop (Int.toNat x_1.2) x_1.1)):Int)=y.2.2.2.2∧True) ((0≤x.2∧x.2<(x.1.length:Int))∧∀(c:UInt8),x.1[Int.toNat x.2]? =some c→cA Fy [AV.int IntKind.u8 (↑(UInt8.toNat c):Int)] fun x_2 y=>Aa (Ck x_2) (eA (QS x) [.str x.1,.q x.2,.box 0 [.q 0,.str #[].toList,.q 0,.bool false],.q x.2]∧∀(i:Int),rwI BM x i→Aa (decide (i<(x.1.length:Int))) ((0≤i∧i<(x.1.length:Int))∧∀(c:UInt8),x.1[Int.toNat i]? =some c→cA Fy [AV.int IntKind.u8 (↑(UInt8.toNat c):Int)] fun x_3 y=>Aa (Ck x_3) (inR .i64 (i+1)∧(eN (QS x) i [.str x.1,.q x.2,.box 0 [.q 0,.str [],.q 0,.bool false],.q (i+1)])) ((0≤i∧i<(x.1.length:Int))∧∀(c:UInt8),x.1[Int.toNat i]? =some c→cA Gk [AV.int IntKind.u8 (↑(UInt8.toNat c):Int)] fun x_4 y=>Aa (Bn x_4) (inR .i64 (i+1)∧(eN (QS x) i [.str x.1,.q x.2,.box 0 [.q 0,.str [],.q 0,.bool false],.q (i+1)])) (inR .i64 (i-x.2)∧(ZA x i)))) (inR .i64 (i-x.2)∧(ZA x i))) ((0≤x.2∧x.2<(x.1.length:Int))∧∀(c:UInt8),x.1[Int.toNat x.2]? =some c→cA Gk [AV.int IntKind.u8 (↑(UInt8.toNat c):Int)] fun x_3 y=>Aa (Bn x_3) (eA (Ua x) [.str x.1,.q x.2,.box 0 [.q 0,.str #[].toList,.q 0,.bool false],.q x.2]∧∀(i:Int),rwI Bn x i→Aa (decide (i<(x.1.length:Int))) ((0≤i∧i<(x.1.length:Int))∧∀(c:UInt8),x.1[Int.toNat i]? =some c→cA Gk [AV.int IntKind.u8 (↑(UInt8.toNat c):Int)] fun x_4 y=>Aa (Bn x_4) (inR .i64 (i+1)∧eN (Ua x) i [.str x.1,.q x.2,.box 0 [.q 0,.str [],.q 0,.bool false],.q (i+1)]) (inR .i64 (i-x.2)∧(ZB x i))) (inR .i64 (i-x.2)∧(ZB x i))) ((0≤x.2∧x.2<(x.1.length:Int))∧∀(c:UInt8),x.1[Int.toNat x.2]? =some c→Aa ((↑(UInt8.toNat c):Int)==(39:Int)) (cA Ix [.str x.1,.q x.2] fun x_4 y=>inR .i64 (x.2+(↑(CK (List.drop (Int.toNat x_4.2) x_4.1)):Int))∧(0≤x.2∧x.2≤x.2+(↑(CK (List.drop (Int.toNat x_4.2) x_4.1)):Int)∧x.2+(↑(CK (List.drop (Int.toNat x_4.2) x_4.1)):Int)≤(x.1.length:Int))∧∃(y:Int×List UInt8×Int×Bool×Int),sgR x y.1 y.2.1 y.2.2.1 y.2.2.2.1 y.2.2.2.2∧3=y.1∧List.drop (Int.toNat x.2) (List.take (Int.toNat (x.2+(↑(CK (List.drop (Int.toNat x_4.2) x_4.1)):Int))) x.1)=y.2.1∧x.2=y.2.2.1∧false=y.2.2.2.1∧(↑(CK (List.drop (Int.toNat x_4.2) x_4.1)):Int)=y.2.2.2.2∧True) (cA MG [.str x.1,.q x.2] fun x_4 y=>∃(y:Int×List UInt8×Int×Bool×Int),sgR x y.1 y.2.1 y.2.2.1 y.2.2.2.1 y.2.2.2.2∧4=y.1∧Gu (List.drop (Int.toNat x_4.2) x_4.1)=y.2.1∧x.2=y.2.2.1∧false=y.2.2.2.1∧(↑((Gu (List.drop (Int.toNat x_4.2) x_4.1)).length):Int)=y.2.2.2.2∧True))))) (fun x=>by kernel_rfl) fun(x:List UInt8×Int) (hx:0≤x.2∧x.2<x.1.length∧x.1.length<2^62)=>(by
 dsimp only[ZB,ZA,cA,eA,eN,Ua,QS,Gk,Fy,GY,Ix,MG,Ji,As,Az,mvL,lnL,mvE,lnE,mvG,mvH,lnG,lnH,Bl,AV.q]
 obtain⟨h1,h2,h3⟩:=hx
 have hn:=c0l h1 h2
 (repeat' first|(with_reducible first|rfl|exact True.intro|apply AK|apply And.intro|((first|apply AA|apply AI|apply AB|apply AJ)<;>intro _))|(apply Av<;>intro _)|apply AH|refine Ae () ?_ ?_|((first|apply AO|apply AN|apply AM|apply AL|apply AG|apply AF|apply AE|apply AD|apply AC)<;>try dsimp only)|apply Ae|(refine Prod.forall.2 ?_;intro _;try dsimp only)|(intro _;try dsimp only))
 all_goals(try((repeat(rename x.1[_]? =some _=>hq;revert hq;rename x.1[_]? =some _=>hr;intro hq;rw[hr] at hq;cases hq))))
 all_goals first
  |rfl
  |omega
  |exact b7R h1 ‹_›
  |exact b7P (by omega)
  |exact YI h1 ‹_› ‹_› ‹_› (c0g ‹_›)
  |exact YI h1 ‹_› ‹_› ‹_› (c0h ‹_›)
  |exact YI h1 ‹_› ‹_› ‹_› ‹_›
  |exact(TC h1 ‹_› ‹_› ‹_› (.inl ‹_›)).1 ‹_›
  |exact(TC h1 ‹_› ‹_› ‹_› (.inl ‹_›)).2 ‹_›
  |exact(TC h1 ‹_› ‹_› ‹_› (.inr ⟨_,by assumption,a6B ‹_› ‹_›⟩)).1 ‹_›
  |exact(TC h1 ‹_› ‹_› ‹_› (.inr ⟨_,by assumption,a6B ‹_› ‹_›⟩)).2 ‹_›
  |exact(QK h1 ‹_› ‹_› ‹_› ‹_› (.inl ‹_›)).1 ‹_›
  |exact(QK h1 ‹_› ‹_› ‹_› ‹_› (.inl ‹_›)).2 ‹_›
  |exact(QK h1 ‹_› ‹_› ‹_› ‹_› (.inr ⟨_,by assumption,by assumption⟩)).1 ‹_›
  |exact(QK h1 ‹_› ‹_› ‹_› ‹_› (.inr ⟨_,by assumption,by assumption⟩)).2 ‹_›
  |exact(a6C h1 ‹_› ‹_› ‹_› ‹_› ‹_› ‹_› ‹_›).1 ‹_›
  |exact(a6C h1 ‹_› ‹_› ‹_› ‹_› ‹_› ‹_› ‹_›).2 ‹_›
  |exact b7T h1 ‹_› ‹_› ‹_› ‹_›
  |exact b7U h1 ‹_› ‹_› ‹_› ‹_› ‹_›
  |(have hq:=b7Q ‹rwI _ _ _›;(try simp only[An]);omega)
  |(have hq:= @c0k (x.1.drop x.2.toNat);(try simp only[An]);omega)
  |(simp only[List.length_drop,List.length_take];omega)
  |skip)
attribute [local irreducible] sgJ CT
def Lh:Sig:= {X:=List UInt8,args:=fun x=>[.str x],pre:=fun x=>x.length<2^62,Y:=List Sg×Int,post:=fun x y=>sgQ x y.1,res:=fun x y=> .tup [sgs y.1,.q y.2,.bool (CT x).isSome],outs:=fun x y=>[.top],keep:=true}
def OE(x:List UInt8):LS:= {ι:=Int×Int×List Sg×Nat,inv:=fun i=>sgJ x i.1 i.2.1 i.2.2.1 i.2.2.2,regs:=fun i=>[(0,.str x),(5,HR i.2.2.1),(6,.q i.1),(7,.q i.2.1)],als:=[],meas:=fun i=>i.2.2.2}
theorem c0o:Ai G Tryz.prog 104 Lh:=
 vcFun_okP [(129,0,TZ)] [(130,⟨Sg,sgA⟩)] false (fun x=>[(6,OE x)]) Tryz.func104 rfl (by decide) ⟨c0n,trivial⟩ (fun(x:List UInt8)=>True∧Aa (decide ((x.length:Int)>(3000:Int))) (rA Lh x [.tup [HR [],.q 3000,.bool false],.top]) (eA (OE x) [.str x,HR [],.q 0,.q 0]∧∀(i:Int×Int×List Sg×Nat),sgJ x i.1 i.2.1 i.2.2.1 i.2.2.2→Aa (decide (i.1<(x.length:Int))) ((0≤i.1∧i.1<(x.length:Int))∧∀(c:UInt8),x[Int.toNat i.1]? =some c→Aa ((↑(UInt8.toNat c):Int)==(32:Int)) (inR .i64 (i.1+(1:Int))∧eN (OE x) i [.str x,HR i.2.2.1,.q (i.1+(1:Int)),.q i.2.1]) ((0≤i.1∧i.1<(x.length:Int))∧∀(c:UInt8),x[Int.toNat i.1]? =some c→Aa ((↑(UInt8.toNat c):Int)==(10:Int)) (inR .i64 (i.2.1+(1:Int))∧inR .i64 (i.1+(1:Int))∧eN (OE x) i [.str x,HR i.2.2.1,.q (i.1+(1:Int)),.q (i.2.1+(1:Int))]) (cA TZ [.str x,.q i.1] fun x_1 y=>Aa (y.2.2.2.2==(0:Int)) (rA Lh x [.tup [HR [],.q i.1,.bool false],.top]) (∃(x_2:Sg),y.1=x_2.kind∧y.2.1=x_2.text∧y.2.2.1=x_2.pos∧decide (i.2.1>(1:Int))=x_2.blank∧∃(zs:List Sg),HR [x_2]=HR zs∧BI sgA∧Bb (i.2.2.1.length+zs.length) (40:Nat)∧inR .i64 (i.1+y.2.2.2.2)∧eN (OE x) i [.str x,HR (i.2.2.1++zs),.q (i.1+y.2.2.2.2),.q 0])))) (rA Lh x [.tup [HR i.2.2.1,.q 0,.bool true],.top]))) (fun x=>by kernel_rfl) fun(x:List UInt8) (hx:x.length<2^62)=>(by
 dsimp only[cA,eA,eN,OE,HR,rA,TZ,Lh,Du,sgs,As,Az,mvL,lnL,mvE,lnE,mvG,mvH,lnG,lnH,Bl,AV.q]
 have hx:x.length<2^62:=hx
 (repeat' first|(with_reducible first|rfl|exact True.intro|apply AK|apply And.intro|((first|apply AA|apply AI|apply AB|apply AJ)<;>intro _))|(apply Av<;>intro _)|apply AH|refine Ae () ?_ ?_|((first|apply AO|apply AN|apply AM|apply AL|apply AG|apply AF|apply AE|apply AD|apply AC)<;>try dsimp only)|apply Ae|(refine Prod.forall.2 ?_;intro _;try dsimp only)|(intro _;try dsimp only))
 all_goals first
  |(show Nat;skip)
  |rfl
  |exact b7v ‹_›
  |exact(Tz (a5u ‹_›)).2
  |exact(Tz (a5u ‹_›)).1.symm
  |exact(a5q ‹_› ‹_› ‹_› (by omega)).1
  |exact(a5r ‹_› ‹_› ‹_› (by omega)).1
  |exact(a6D ‹_› ‹_› ‹_› ‹_› ‹_› ‹_› ‹_› ‹_›).1
  |exact(Tz (a6E ‹_› ‹_› ‹_› ‹_› ‹_› ‹_› ‹_› ‹_›)).2
  |exact(Tz (a6E ‹_› ‹_› ‹_› ‹_› ‹_› ‹_› ‹_› ‹_›)).1.symm
  |exact(a5t ‹_› ‹_›).2
  |exact(a5t ‹_› ‹_›).1.symm
  |(have hq:=Oo ‹sgJ _ _ _ _ _›;(try simp only[An]);omega)
  |(have hj:= ‹sgJ _ _ _ _ _›;have hq:=Oo hj;have hz:=c0m hj ‹_›;(try simp only[An]);omega)
  |(have hq:=Oo ‹sgJ _ _ _ _ _›;(try simp only[Bb,List.length_append,List.length_cons,List.length_nil]);omega)
  |(simp [Bb];done)
  |skip
 all_goals first
  |exact(a5q ‹_› ‹_› ‹_› (by omega)).2
  |exact(a5r ‹_› ‹_› ‹_› (by omega)).2
  |exact(a6D ‹_› ‹_› ‹_› ‹_› ‹_› ‹_› ‹_› ‹_›).2
  |rfl
  |skip)
end Go.My
end
section
namespace Go.My
open Go.Eng Go.Proofs
variable {G:GInv}
variable {N:Nat}{ks:List Int}{l:List Sg}{ms:List (Int×Int)}{s t:List UInt8}{y:Gs}
theorem c0p:CQ s <+: s:=by
 have h:=List.dropWhile_suffix (fun c:UInt8=>decide (c.toNat=32)) (l:=s.reverse)
 unfold CQ
 rw[←List.reverse_suffix,List.reverse_reverse];exact h
theorem ZC{c:UInt8}{a:List UInt8}(h:t <+: c::s)(ht:t=a)(ha:a≠[]):a.head? =some c:=by
 subst ht
 match t with
 |[]=>exact(ha rfl).elim
 |d::r=>
  obtain⟨k,hk⟩:=h
  simp at hk
  simp [hk.1]
theorem c0q(h:(Bg s).ok=true)(ht:(Bg s).text=[41]∨(Bg s).text=[61,62]∨(Bg s).text=[44]):(Bg s).kind=4:=by
 match s with
 |[]=>cases h
 |b::s=>
  have key:∀t:List UInt8,t <+: b::s→(t=[41]∨t=[61,62]∨t=[44])→b=41∨b=61∨b=44:=by
   intro t hp ht
   rcases ht with ht|ht|ht
   ·have:=ZC hp ht (by simp);simp at this;exact .inl this.symm
   ·have:=ZC hp ht (by simp);simp at this;exact .inr (.inl this.symm)
   ·have:=ZC hp ht (by simp);simp at this;exact .inr (.inr this.symm)
  unfold Bg at h ht ⊢
  simp only at h ht ⊢
  split
  ·rename_i hb
   rw[if_pos hb] at ht
   rcases key _ (List.takeWhile_prefix _) ht with rfl|rfl|rfl<;>exact absurd hb (by decide)
  ·rename_i hb
   rw[if_neg hb] at h ht
   split
   ·rename_i hb2
    rw[if_pos hb2] at ht
    rcases key _ (List.takeWhile_prefix _) ht with rfl|rfl|rfl<;>exact absurd hb2 (by decide)
   ·rename_i hb2
    rw[if_neg hb2] at h ht
    split
    ·rename_i hb3
     rw[if_pos hb3] at ht h
     simp only at ht h
     have hp:(DK (b::s)).1 <+: b::s:=by
      unfold DK;split
      ·exact List.nil_prefix
      ·exact List.take_prefix _ _
     rcases key _ hp ht with rfl|rfl|rfl<;>exact absurd hb3 (by decide)
    ·rename_i hb3
     rw[if_neg hb3] at h ht
     split
     ·rename_i hb4
      rw[if_pos hb4] at ht
      have hb5:b=47:=by
       cases s with
       |nil=>simp at hb4
       |cons c s=>simp at hb4;exact hb4.1
      rcases key _ (c0p.trans (List.takeWhile_prefix _)) ht with rfl|rfl|rfl<;>exact absurd hb5 (by decide)
     ·rename_i hb4
      rw[if_neg hb4] at h
      split
      ·rfl
      ·rename_i hb5
       rw[if_neg hb5] at h
       split
       ·rfl
       ·rename_i hb6
        rw[if_neg hb6] at h;cases h
theorem Ub{t:List UInt8}:∀(n:Nat) (i br:Int) (l:List Sg),Fl t n i br=some l→sgM l
 |0,_,_,_,h=>by cases h
 |n+1,i,br,l,h=>by
  rw[Fl] at h
  split at h
  ·simp at h;subst h;intro e he;simp at he
  ·split at h
   ·exact Ub n _ _ _ h
   ·split at h
    ·exact Ub n _ _ _ h
    ·split at h
     ·rename_i hok
      rw[Option.map_eq_some_iff] at h
      obtain⟨l',h1,rfl⟩:=h
      intro e he ht
      simp only[List.mem_cons] at he
      rcases he with rfl|he
      ·exact c0q hok ht
      ·exact Ub n _ _ _ h1 e he ht
     ·cases h
theorem c0r(h:CT t=some l):sgM l:=by
 rw[CT] at h
 split at h
 ·cases h
 ·exact Ub _ _ _ _ h
def frI(t:List UInt8)(l:List Sg)(y:Gs)(ks:List Int)(ms:List (Int×Int))(N:Nat):Prop:=(CT t=some l∧sgB l)∧FX l y ks ms N
theorem c0s(h:sgQ t l)(hn:(CT t).isSome=true):frI t l ⟨0,0,false,[]⟩ [] [] (l.length+1):=⟨Oq h hn,b7y⟩
theorem ZD{s:ST}(h:frI t s.sg y ks ms N):okQ s y:=⟨b7A h.1.2 h.2,c0r h.1.1⟩
theorem Uc{b:Bool}{z:Int×Gs}(h:frI t l y ks ms N)(hb:y.bad=false)(hl:y.pos<l.length)(hz:Ah l y (DG l false) z)(e:b=(blG l y&&decide (0<(ks.length:Int)))):
 frI t l (gBl z.2 z.1 b) (ks++[z.1]) (ms++[(y.pos,(gBl z.2 z.1 b).pos)]) (N-1)∧N-1<N:=by
 rw[Zq hb] at e
 have hz2:Ah l y (DG l b) (z.1,gBl z.2 z.1 b):=Zp Zo hz
 obtain⟨a,c⟩:=b7z h.2 hb hl hz2 e
 exact⟨⟨h.1,a⟩,c⟩
theorem c0t(h:frI t l y ks ms N):ks.length≤3001∧0≤y.pos∧y.pos≤l.length:=by
 have:=a5v h.1.2 h.2;omega
def frE(l:List Sg)(y:Gs):Prop:=y.bad=true∨¬y.pos<l.length
theorem OF(h:y.bad=true):frE l y:= .inl h
theorem OG(h:¬y.pos<l.length):frE l y:= .inr h
theorem OH:BH []:=⟨by simp,by simp⟩
theorem Ud(h:frI t l y ks ms N):sgQ t l∧(CT t).isSome=true:=⟨.inl h.1,by rw[h.1.1];rfl⟩
theorem Ue(h:frI t l y ks ms N)(he:frE l y)(hb:(Ax y ⟨22,[],ks,false⟩).bad=true):DH t=none:=a5y (b7B (Ud h).1 (Ud h).2 ⟨h.2,he⟩ hb) hb
theorem Li(h:frI t l y ks ms N)(he:frE l y)(hb:(Ax y ⟨22,[],ks,false⟩).bad=false):
 (Dl (Ax y ⟨22,[],ks,false⟩).nodes=false→DH t=none)∧(Dl (Ax y ⟨22,[],ks,false⟩).nodes=true→DH t=some (Ax y ⟨22,[],ks,false⟩).nodes):=by
 have a:=b7C (Ud h).1 (Ud h).2 ⟨h.2,he⟩ hb
 refine⟨fun h2=>a5y a (by simp only[FH,h2];rfl),fun h2=>(b7D a (by simp only[FH,h2];rfl)).1⟩
theorem QT(h:frI t l y ks ms N):BH (Ax y ⟨22,[],ks,false⟩).nodes∧(Ax y ⟨22,[],ks,false⟩).nodes.length≤1073741824∧0≤(Ax y ⟨22,[],ks,false⟩).pos:=by
 have a:=QA h.2.1 (a5x h.1.2 h.2)
 have b:=a5w a
 exact⟨b.1,by omega,a.1.1⟩
theorem a6F(h:(CT t).isSome=false):DH t=none:=by
 rw[DH]
 cases hs:CT t with
 |none=>rfl
 |some l=>rw[hs] at h;cases h
theorem c0u{T0 T1 T2 T3:Type}{p q:ST×T0×T1×T2×T3→Prop}(a:List Sg)(v0:T0)(v1:T1)(v2:T2)(v3:T3)(h2:q (⟨a,0,[]⟩,v0,v1,v2,v3))(h1:p (⟨a,0,[]⟩,v0,v1,v2,v3)):∃x,p x∧q x:=⟨_,h1,h2⟩
theorem c0v{T0 T1 T2 T3 T4 T5:Type}{p q:ST×T0×T1×T2×T3×T4×T5→Prop}(a:List Sg)(v0:T0)(v1:T1)(v2:T2)(v3:T3)(v4:T4)(v5:T5)(h2:q (⟨a,0,[]⟩,v0,v1,v2,v3,v4,v5))(h1:p (⟨a,0,[]⟩,v0,v1,v2,v3,v4,v5)):∃x,p x∧q x:=⟨_,h1,h2⟩
theorem c0w{T0 T1 T2 T3 T4 T5 T6:Type}{p q:ST×T0×T1×T2×T3×T4×T5×T6→Prop}(a:List Sg)(v0:T0)(v1:T1)(v2:T2)(v3:T3)(v4:T4)(v5:T5)(v6:T6)(h2:q (⟨a,0,[]⟩,v0,v1,v2,v3,v4,v5,v6))(h1:p (⟨a,0,[]⟩,v0,v1,v2,v3,v4,v5,v6)):∃x,p x∧q x:=⟨_,h1,h2⟩
attribute [local irreducible] frI frE gBl blG Ax AY gsOk Ah DG DH CT Dl sgM okQ
def IQ:Sig:= {X:=List UInt8,args:=fun x=>[.str x],pre:=fun x=>x.length<2^62,Y:=List Nd×Int,post:=fun x y=>y.1=(DH x).getD []∧BH y.1,res:=fun x y=> .tup [nds y.1,.q y.2,.bool (DH x).isSome],outs:=fun x y=>[.top],keep:=true}
def QU(x:List UInt8):LS:= {ι:=List Sg×Int×Int×Bool×List Nd×List Int×List (Int×Int)×Nat,inv:=fun i=>frI x i.1 (iF i.2) i.2.2.2.2.2.1 i.2.2.2.2.2.2.1 i.2.2.2.2.2.2.2,regs:=fun i=>[(0,.str x),(5,Bj []),(6,sgs i.1),(9,srd ⟨i.1,0,[]⟩ (iF i.2)),(10,Al i.2.2.2.2.2.1)],als:=[],meas:=fun i=>i.2.2.2.2.2.2.2}
def ZE(x:List UInt8)(i:List Sg×Int×Int×Bool×List Nd×List Int×List (Int×Int)×Nat):Prop:=cA Bv [.box 0 [sgs i.1,.q (iF i.2).pos,.bool (iF i.2).bad,.q (iF i.2).deep,Bj (iF i.2).nodes],.q 22,.str #[].toList,Al i.2.2.2.2.2.1] fun x_2 y=>Aa (Ax (xh x_2) {kind:=x_2.2.2.2.2.2.1,text:=x_2.2.2.2.2.2.2.1,kids:=x_2.2.2.2.2.2.2.2,blank:=false}).bad (Aa (decide ((Ax (xh x_2) {kind:=x_2.2.2.2.2.2.1,text:=x_2.2.2.2.2.2.2.1,kids:=x_2.2.2.2.2.2.2.2,blank:=false}).pos<(i.1.length:Int))) (true=true∧(true=true∧((0≤(Ax (xh x_2) {kind:=x_2.2.2.2.2.2.1,text:=x_2.2.2.2.2.2.2.1,kids:=x_2.2.2.2.2.2.2.2,blank:=false}).pos∧((Ax (xh x_2) {kind:=x_2.2.2.2.2.2.1,text:=x_2.2.2.2.2.2.2.1,kids:=x_2.2.2.2.2.2.2.2,blank:=false}).pos<(i.1.length:Int)))∧(∀(e:Sg),i.1[Int.toNat (Ax (xh x_2) {kind:=x_2.2.2.2.2.2.1,text:=x_2.2.2.2.2.2.2.1,kids:=x_2.2.2.2.2.2.2.2,blank:=false}).pos]? =some e→rA IQ x [.tup [Bj [],.q e.pos,.bool false],.top])))) (rA IQ x [.tup [Bj [],.q (x.length:Int),.bool false],.top])) (cA Jl [Bj (Ax (xh x_2) {kind:=x_2.2.2.2.2.2.1,text:=x_2.2.2.2.2.2.2.1,kids:=x_2.2.2.2.2.2.2.2,blank:=false}).nodes] fun x_3 y=>Aa (!Dl x_3) (rA IQ x [.tup [Bj [],.q 0,.bool false],.top]) (rA IQ x [.tup [Bj (Ax (xh x_2) {kind:=x_2.2.2.2.2.2.1,text:=x_2.2.2.2.2.2.2.1,kids:=x_2.2.2.2.2.2.2.2,blank:=false}).nodes,.q 0,.bool true],.top]))
theorem c0x:Ai G Tryz.prog 72 IQ:=
 vcFun_okP [(104,0,Lh),(105,0,GI),(106,0,IP),(107,0,Fq),(108,0,Bv),(68,0,Jl)] [(130,⟨Sg,sgA⟩),(38,⟨Int,Bx⟩),(24,⟨Nd,ndA true⟩)] false (fun x=>[(7,QU x)]) Tryz.func72 rfl (by decide) ⟨c0o,TF,c0f,TG,HV,b5f,trivial⟩ (fun(x:List UInt8)=>True∧cA Lh [.str x] fun x_1 y=>Aa (!Option.isSome (CT x_1)) (rA IQ x [.tup [Bj [],.q y.2,.bool false],.top]) (eA (QU x) [.str x,Bj [],sgs y.1,.box 0 [sgs y.1,.q 0,.bool false,.q 0,.nil],Al []]∧∀(i:List Sg×Int×Int×Bool×List Nd×List Int×List (Int×Int)×Nat),frI x i.1 (iF i.2) i.2.2.2.2.2.1 i.2.2.2.2.2.2.1 i.2.2.2.2.2.2.2→Aa (!(iF i.2).bad) (Aa (decide ((iF i.2).pos<(i.1.length:Int))) (cA GI [.box 0 [sgs i.1,.q (iF i.2).pos,.bool (iF i.2).bad,.q (iF i.2).deep,Bj (iF i.2).nodes]] fun x_2 y=>Aa (blG x_2.1.sg (xg x_2)) (cA IP [srd x_2.1 (xg x_2),.bool true] fun x_3 y=>cA Fq [srd x_3.1 (yG y.2),.q y.1,.bool (decide ((i.2.2.2.2.2.1.length:Int)>(0:Int)))] fun x_4 y_1=>∃(x_5:Int),y.1=x_5∧(∃(zs:List Int),Al [x_5]=Al zs∧(BI Bx∧(Bb (i.2.2.2.2.2.1.length+zs.length) (8:Nat)∧(eN (QU x) i [.str x,Bj [],sgs i.1,srd x_4.1 (gBl (xh x_4) x_4.2.2.2.2.2.1 x_4.2.2.2.2.2.2),Al (i.2.2.2.2.2.1++zs)]))))) (cA IP [srd x_2.1 (xg x_2),.bool true] fun x_3 y=>cA Fq [srd x_3.1 (yG y.2),.q y.1,.bool false] fun x_4 y_1=>∃(x_5:Int),y.1=x_5∧(∃(zs:List Int),Al [x_5]=Al zs∧(BI Bx∧(Bb (i.2.2.2.2.2.1.length+zs.length) (8:Nat)∧(eN (QU x) i [.str x,Bj [],sgs i.1,srd x_4.1 (gBl (xh x_4) x_4.2.2.2.2.2.1 x_4.2.2.2.2.2.2),Al (i.2.2.2.2.2.1++zs)])))))) (ZE x i)) (ZE x i))) (fun x=>by kernel_rfl) fun(x:List UInt8) (hx:x.length<2^62)=>(by
 dsimp only[ZE,cA,eA,eN,QU,Br,nds,Al,Bj,HR,rA,GI,Fq,IP,Bv,IQ,Lh,Jl,Du,sgs,srd,As,Az,mvL,lnL,mvE,lnE,Bl,AV.q]
 have hx:x.length<2^62:=hx
 (repeat' first|(apply c0w<;>try dsimp only)|(apply c0v<;>try dsimp only)|(apply c0u<;>try dsimp only)|(with_reducible first|rfl|exact True.intro|apply AK|apply And.intro|((first|apply AA|apply AI|apply AB|apply AJ)<;>intro _))|(apply Av<;>intro _)|apply AH|refine Ae () ?_ ?_|((first|apply AO|apply AN|apply AM|apply AL|apply AG|apply AF|apply AE|apply AD|apply AC)<;>try dsimp only)|apply Ae|(refine Prod.forall.2 ?_;intro _;try dsimp only)|(intro _;try dsimp only))
 all_goals(try dsimp only[xg,xh,yG,yS,iG,iF] at*)
 all_goals(try simp only[GG] at*)
 all_goals first
  |(show Nat;skip)
  |(show List (Int×Int);skip)
  |rfl
  |exact hx
  |exact c0s ‹_› ‹_›
  |(rw[a6F ‹_›];rfl)
  |(rw[a6F ‹_›];exact OH)
  |exact(Uc ‹_› ‹_› ‹_› ‹_› (Lc ‹_›)).1
  |exact(Uc ‹_› ‹_› ‹_› ‹_› (Ld ‹_›)).1
  |exact ZD (s:=⟨_,0,[]⟩) ‹_›
  |exact(EX (ZD (s:=⟨_,0,[]⟩) ‹_›)).1
  |exact FG (EX (ZD (s:=⟨_,0,[]⟩) ‹_›)).1 ‹_›
  |exact OA Zo ‹_›
  |exact OA Zo ‹_› ‹_›
  |assumption
  |omega
  |exact(QT ‹_›).1
  |exact(QT ‹_›).2.1
  |(rw[Ue ‹_› (OF ‹_›) ‹_›];rfl)
  |(rw[Ue ‹_› (OF ‹_›) ‹_›];exact OH)
  |(rw[(Li ‹_› (OF ‹_›) ‹_›).1 ‹_›];rfl)
  |(rw[(Li ‹_› (OF ‹_›) ‹_›).2 ‹_›];rfl)
  |(rw[(Li ‹_› (OF ‹_›) ‹_›).1 ‹_›];exact OH)
  |(rw[(Li ‹_› (OF ‹_›) ‹_›).2 ‹_›];exact(QT ‹_›).1)
  |(rw[Ue ‹_› (OG ‹_›) ‹_›];rfl)
  |(rw[Ue ‹_› (OG ‹_›) ‹_›];exact OH)
  |(rw[(Li ‹_› (OG ‹_›) ‹_›).1 ‹_›];rfl)
  |(rw[(Li ‹_› (OG ‹_›) ‹_›).2 ‹_›];rfl)
  |(rw[(Li ‹_› (OG ‹_›) ‹_›).1 ‹_›];exact OH)
  |(rw[(Li ‹_› (OG ‹_›) ‹_›).2 ‹_›];exact(QT ‹_›).1)
  |(have hq:=(QT ‹frI _ _ _ _ _ _›).2.2;omega)
  |exact OH
  |(simp [Bb];done)
  |(have hq:=c0t ‹frI _ _ _ _ _ _›;(try simp only[Bb,List.length_append,List.length_cons,List.length_nil]);omega)
  |skip
 all_goals first
  |exact(Uc ‹_› ‹_› ‹_› ‹_› (Lc ‹_›)).2
  |exact(Uc ‹_› ‹_› ‹_› ‹_› (Ld ‹_›)).2
  |rfl
  |skip)
end Go.My
end
