/- A part of the proof: the engine and the contracts, joined. -/
import Derived.Test.YtplklcfglbkfhaaGreatDoorQK
section
set_option linter.unusedVariables false
set_option linter.unusedSimpArgs false
namespace Go.My
open Go.Eng Go.Proofs
variable {G:GInv}
def okQ(s:ST)(x:Gs):Prop:=okD s x∧sgM s.sg
theorem Eh{s:ST}{x:Gs}(h:okQ s x):okD s x:=h.1
theorem ML{s:ST}{x:Gs}(h:okQ s x):sgM s.sg:=h.2
theorem IV{sg:List Sg}{x:Gs}{m:List UInt8}(h:isG sg x 1 m=false):Bw sg x m=x:=by simp [Bw,h]
theorem IW{sg:List Sg}{x:Gs}{m:List UInt8}(h:isG sg x 1 m=true):Bw sg x m=As x:=by simp [Bw,h]
theorem FL{s:ST}{x:Gs}{m:List UInt8}(h:okQ s x)(hq:isG s.sg x 1 m=true):okQ s (As x):=⟨a1i h.1 hq,h.2⟩
theorem Vp{s:ST}{x:Gs}(h:okQ s x):rOk s (Bf s.sg x 1)∧rOk s (Aw s.sg (Bf s.sg x 1) [61]):=by
 have a:=GW (k:=1) h.1.1 (by omega);exact⟨a,EX a⟩
theorem b4A{s:ST}{x:Gs}(h:okQ s x)(hq:isG s.sg (Bf s.sg x 1) 4 [61]=true):okQ s (Aw s.sg (Bf s.sg x 1) [61]):=by
 rw[HA.1] at hq ⊢
 exact⟨b2s h.1.1 h.1.2 hq,h.2⟩
theorem b4B{s:ST}{x:Gs}{z:Int×Gs}(h:okQ s x)(hq:isG s.sg (Bf s.sg x 1) 4 [61]=true)(hz:Ah s.sg (Aw s.sg (Bf s.sg x 1) [61]) (Cd s.sg) z):
 Ah s.sg x (Dg s.sg false) (AU (Au s.sg z.2 [59]),Aq (Au s.sg z.2 [59]) ⟨12,Bv s.sg x 1,[z.1],false⟩):=by
 rw[HA.1] at hq hz;rw[HA.2]
 exact Hz (Fk hz) (Et (IP h.1.1.1) (by simp)) (b2t h.1.1 hq hz)
theorem b4C{s:ST}{x:Gs}(h:okQ s x)(hq:isG s.sg (Bf s.sg x 1) 4 [61]=false):
 Ah s.sg x (Dg s.sg false) (AU (Au s.sg (Aw s.sg (Bf s.sg x 1) [61]) [59]),Aq (Au s.sg (Aw s.sg (Bf s.sg x 1) [61]) [59]) ⟨12,Bv s.sg x 1,[],false⟩):=by
 rw[HA.1] at hq ⊢;rw[HA.2]
 exact Hz (b2u h.1.1 hq).2 (Et (IP h.1.1.1) (by simp)) (b2v h.1.1 hq)
def mbS(sg:List Sg)(n:Nat)(x y:Gs)(ks:List Int)(N:Nat):Prop:=
 JF sg (stR sg n) [125] (pkX (Au sg x [123])) y ks N∧y.deep=x.deep+1∧(y.bad=false→x.deep≠20)
theorem a2d{s:ST}{x:Gs}{n:Nat}(h:okQ s x):mbS s.sg n x (pkX (Au s.sg x [123])) [] (s.sg.length+1):=by
 have t:=GT (m:=[123]) h.1.1.2
 obtain⟨p1,p2,p3⟩:= @OG (Au s.sg x [123])
 have t1:=t.1;have t2:=t.2.1;have hd:=h.1.2
 refine⟨a0W ⟨by simp only[pkX] at*;rw[p1];exact t1.1,by simp only[pkX] at*;rw[p2];have:=t1.2.1;omega,?_⟩,by simp only[pkX] at*;rw[p2];omega,fun hb=>by have:=(p3 hb).2;omega⟩
 have e:(pkX (Au s.sg x [123])).nodes=(Au s.sg x [123]).nodes:=by unfold pkX;split<;>rfl
 rw[e];exact t1.2.2
theorem b4D{s:ST}{x:Gs}{n:Nat}(h:okQ s x)(h20:(Au s.sg x [123]).deep+1>20):mbS s.sg n x ⟨(Au s.sg x [123]).pos,(Au s.sg x [123]).deep+1,true,(Au s.sg x [123]).nodes⟩ [] (s.sg.length+1):=by
 have a:=a2d (n:=n) h
 have t2:=(GT (m:=[123]) h.1.1.2).2.1;have hd:=h.1.2
 have e:pkX (Au s.sg x [123])=⟨(Au s.sg x [123]).pos,(Au s.sg x [123]).deep+1,true,(Au s.sg x [123]).nodes⟩:=by rw[pkX,if_pos (by omega)];rfl
 rw[←e];exact a
theorem b4E{s:ST}{x:Gs}{n:Nat}(h:okQ s x)(h20:¬(Au s.sg x [123]).deep+1>20):mbS s.sg n x ⟨(Au s.sg x [123]).pos,(Au s.sg x [123]).deep+1,(Au s.sg x [123]).bad,(Au s.sg x [123]).nodes⟩ [] (s.sg.length+1):=by
 have a:=a2d (n:=n) h
 have e:pkX (Au s.sg x [123])=⟨(Au s.sg x [123]).pos,(Au s.sg x [123]).deep+1,(Au s.sg x [123]).bad,(Au s.sg x [123]).nodes⟩:=by rw[pkX,if_neg (by omega)];rfl
 rw[←e];exact a
theorem b4F{s:ST}{x:Gs}(h:okQ s x):0≤(Au s.sg x [123]).deep∧(Au s.sg x [123]).deep≤20:=by
 have t:=GT (m:=[123]) h.1.1.2
 have:=t.1.2.1;have:=t.2.1;have:=h.1.2;omega
theorem RC{s:ST}{x y:Gs}{n:Nat}{ks:List Int}{N:Nat}(h:okQ s x)(hj:mbS s.sg n x y ks N):rOk s y:=⟨h.1.1.1,hj.1.1.1⟩
theorem Vq{s:ST}{x y:Gs}{n:Nat}{ks:List Int}{N:Nat}(h:okQ s x)(h2:20-x.deep≤(n:Int))(hj:mbS s.sg n x y ks N)(hb:y.bad=false)(hq:isG s.sg y 4 [125]=false):okQ s (Aw s.sg y [125])∧(Aw s.sg y [125]).bad=false∧21-(Aw s.sg y [125]).deep≤(n:Int):=by
 rw[Di hq]
 have:=hj.2.1;have:=hj.2.2 hb;have:=h.1.2
 exact⟨⟨⟨RC h hj,by omega⟩,h.2⟩,hb,by omega⟩
theorem Vr{s:ST}{x y:Gs}{n:Nat}{ks:List Int}{N:Nat}(h:okQ s x)(hj:mbS s.sg n x y ks N):ks.length≤3001:=by
 have:=hj.1.2.2.1;have:=hj.1.1.1.1;have:=h.1.1.1.1;omega
theorem RD{s:ST}{x y:Gs}{n:Nat}{ks:List Int}{N:Nat}{b:Bool}{z:Int×Gs}(hj:mbS s.sg n x y ks N)(hb:y.bad=false)(hq:isG s.sg y 4 [125]=false)(hz:Ah s.sg (Aw s.sg y [125]) (stR s.sg n false) z)(e:b=(blG s.sg (Aw s.sg y [125])&&decide (0<(ks.length:Int)))):
 mbS s.sg n x (gBl z.2 z.1 b) (ks++[z.1]) (N-1)∧N-1<N:=by
 rw[Di hq] at hz e
 rw[Vo hb] at e
 have hz2:Ah s.sg y (stR s.sg n b) (z.1,gBl z.2 z.1 b):=Vn Vk hz
 subst e
 obtain⟨a,b⟩:=Mz (a1a hj.1 hb hq (z:=(z.1,gBl z.2 z.1 ((pkG s.sg y 0).blank&&decide (0<(ks.length:Int))))) (by
  have:decide (0<ks.length)=decide (0<(ks.length:Int)):=by simp
  rw[this];exact hz2))
 have:=(Cz hz2).1
 exact⟨⟨a,by have:=hj.2.1;simp only at*;omega,fun hw=>hj.2.2 hb⟩,b⟩
theorem b4G{s:ST}{x y:Gs}{n:Nat}{ks:List Int}{N:Nat}(h:okQ s x)(hj:mbS s.sg n x y ks N)(hq:isG s.sg y 4 [125]=true):
 Ah s.sg x (BJ s.sg (stR s.sg n)) (AU (gDp (Aw s.sg y [125]) (-1)),Aq (gDp (Aw s.sg y [125]) (-1)) ⟨18,[],ks,false⟩):=by
 rw[Eg hq,←IR hq]
 exact a2c (l:=(ks,y)) h.1.1.2 h.1.2 (a0Z hj.1 hq) (Vr h hj)
theorem b4H{s:ST}{x y:Gs}{n:Nat}{ks:List Int}{N:Nat}(h:okQ s x)(hj:mbS s.sg n x y ks N)(hb:y.bad=true):
 Ah s.sg x (BJ s.sg (stR s.sg n)) (AU (gDp y (-1)),Aq (gDp y (-1)) ⟨18,[],ks,false⟩):=by
 have a:=a2c (l:=(ks,y)) h.1.1.2 h.1.2 (a0X hj.1 hb) (Vr h hj)
 simp only[Ro hb] at a;exact a
theorem Vs{s:ST}{x y:Gs}{n:Nat}{ks:List Int}{N:Nat}(h:okQ s x)(hj:mbS s.sg n x y ks N):(1≤y.deep∧y.deep≤21)∧rOk s (gDp y (-1))∧rOk s (gDp (Aw s.sg y [125]) (-1))∧(Aw s.sg y [125]).deep=y.deep:=by
 have h1:=hj.2.1;have h2:=h.1.1.2.2.1;have h3:=h.1.2
 have a:=RC h hj
 have b:=EX (m:=[125]) a
 have e:(Aw s.sg y [125]).deep=y.deep:=by unfold Aw;split<;>rfl
 refine⟨by omega,⟨a.1,a.2.1,by simp only[gDp];omega,a.2.2.2⟩,⟨b.1,b.2.1,by simp only[gDp];omega,b.2.2.2⟩,e⟩
theorem b4I{s:ST}{x:Gs}{n:Nat}(h:okQ s x)(hk:kdG s.sg x 5=true):Ah s.sg x (stR s.sg (n+1) false) (AU (Bf s.sg x 5),Aq (Bf s.sg x 5) ⟨19,Bv s.sg x 5,[],false⟩):=by
 have hn:=hk
 rw[OO (by omega)] at hn
 exact MG h.1.1.1 h.1.1.2 (by omega) hk (b1V h.1.1.1 h.1.1.2 (by simpa using hn))
theorem Gn{sg:List Sg}{x:Gs}(h:kdG sg x 5=false):(pkG sg x 0).kind≠5:=IU h (by omega)
theorem b4J{s:ST}{x:Gs}{n:Nat}{z:Int×Gs}(h:okQ s x)(hk:kdG s.sg x 5=false)(hq:isG s.sg x 1 [118,97,114]=true)(hz:Ah s.sg (As x) (Dg s.sg false) z):Ah s.sg x (stR s.sg (n+1) false) z:=b1W h.1.1.2 (Gn hk) hq hz
theorem b4K{s:ST}{x:Gs}{n:Nat}(h:okQ s x)(hk:kdG s.sg x 5=false)(h1:isG s.sg x 1 [118,97,114]=false)(hq:isG s.sg x 1 [114,101,116,117,114,110]=true)(hs:isG s.sg (As x) 4 [59]=true):
 Ah s.sg x (stR s.sg (n+1) false) (AU (Au s.sg (As x) [59]),Aq (Au s.sg (As x) [59]) ⟨15,[],[],false⟩):=by
 have o:=(FL h hq).1.1.2
 exact a1c h.1.1.2 (Gn hk) h1 hq (Hz o (Et (by simp) (by simp)) (b1K o hs))
theorem b4L{s:ST}{x:Gs}{n:Nat}{z:Int×Gs}(h:okQ s x)(hk:kdG s.sg x 5=false)(h1:isG s.sg x 1 [118,97,114]=false)(hq:isG s.sg x 1 [114,101,116,117,114,110]=true)(hs:isG s.sg (As x) 4 [59]=false)(hz:Ah s.sg (As x) (Cd s.sg) z):
 Ah s.sg x (stR s.sg (n+1) false) (AU (Au s.sg z.2 [59]),Aq (Au s.sg z.2 [59]) ⟨15,[],[z.1],false⟩):=by
 have o:=(FL h hq).1.1.2
 exact a1c h.1.1.2 (Gn hk) h1 hq (Hz (Fk hz) (Et (by simp) (by simp)) (b1L o hs hz))
theorem b4M{s:ST}{x:Gs}{n:Nat}{c q:Int×Gs}(h:okQ s x)(hk:kdG s.sg x 5=false)(h1:isG s.sg x 1 [118,97,114]=false)(h2:isG s.sg x 1 [114,101,116,117,114,110]=false)(hq:isG s.sg x 1 [105,102]=true)
 (hc:Bx s.sg (As x) (Dl s.sg) c) (hb:Ah s.sg c.2 (BJ s.sg (stR s.sg n)) q) (he:isG s.sg q.2 1 [101,108,115,101]=false):
 Ah s.sg x (stR s.sg (n+1) false) (AU (Bw s.sg q.2 [101,108,115,101]),Aq (Bw s.sg q.2 [101,108,115,101]) ⟨16,[],[c.1,q.1],false⟩):=by
 rw[IV he]
 exact a1d h.1.1.2 (Gn hk) h1 h2 hq (b1Q (FL h hq).1.1.2 hc hb he)
theorem b4N{s:ST}{x:Gs}{n:Nat}{c q r:Int×Gs}(h:okQ s x)(hk:kdG s.sg x 5=false)(h1:isG s.sg x 1 [118,97,114]=false)(h2:isG s.sg x 1 [114,101,116,117,114,110]=false)(hq:isG s.sg x 1 [105,102]=true)
 (hc:Bx s.sg (As x) (Dl s.sg) c) (hb:Ah s.sg c.2 (BJ s.sg (stR s.sg n)) q) (he:isG s.sg q.2 1 [101,108,115,101]=true) (hr:Ah s.sg (Bw s.sg q.2 [101,108,115,101]) (BJ s.sg (stR s.sg n)) r):
 Ah s.sg x (stR s.sg (n+1) false) (AU r.2,Aq r.2 ⟨16,[],[c.1,q.1,r.1],false⟩):=by
 rw[IW he] at hr
 exact a1d h.1.1.2 (Gn hk) h1 h2 hq (b1R (FL h hq).1.1.2 hc hb he hr)
theorem b4O{s:ST}{x:Gs}{n:Nat}{c q:Int×Gs}(h:okQ s x)(hk:kdG s.sg x 5=false)(h1:isG s.sg x 1 [118,97,114]=false)(h2:isG s.sg x 1 [114,101,116,117,114,110]=false)(h3:isG s.sg x 1 [105,102]=false)(hq:isG s.sg x 1 [119,104,105,108,101]=true)
 (hc:Bx s.sg (As x) (Dl s.sg) c) (hb:Ah s.sg c.2 (BJ s.sg (stR s.sg n)) q):Ah s.sg x (stR s.sg (n+1) false) (AU q.2,Aq q.2 ⟨17,[],[c.1,q.1],false⟩):=b2w h.1 (Gn hk) h1 h2 h3 hq hc hb
theorem b4P{sg:List Sg}{i k:Int}{e:Sg}(hk:e.kind=k)(he:sg[i.toNat]? =some e):(sgO sg i).kind=k:=by rw[IH he];exact hk
theorem b4Q{sg:List Sg}{i k:Int}{e:Sg}(hk:e.kind≠k)(he:sg[i.toNat]? =some e):(sgO sg i).kind≠k:=by rw[IH he];exact hk
theorem b4R{sg:List Sg}{i:Int}{e:Sg}{m:List UInt8}(hk:e.text=m)(he:sg[i.toNat]? =some e):((sgO sg i).text==m)=true:=by rw[IH he];simpa using hk
theorem b4S{sg:List Sg}{i:Int}{e:Sg}{m:List UInt8}(hk:e.text≠m)(he:sg[i.toNat]? =some e):((sgO sg i).text==m)=false:=by rw[IH he];simpa using hk
theorem b4T{sg:List Sg}{x:Gs}(hk:kdG sg x 1=false):seG sg x=false:=by rw[Ib] at hk;simp [seG,hk]
theorem a2e{sg:List Sg}{x:Gs}{e:Sg}(hb:x.bad=false)(hl:x.pos+1<sg.length)(he:sgO sg (x.pos+1)=e):pkG sg x 1=e:=by
 rw[pkG,if_neg (by simp [hb];omega),he]
theorem b4U{sg:List Sg}{x:Gs}(hl:¬x.pos+1<sg.length):seG sg x=false:=by
 have:pkG sg x 1=Ep:=by rw[pkG,if_pos (.inr (by omega))]
 simp [seG,this,Ep]
theorem a2f{sg:List Sg}{x:Gs}(hb:x.bad=false)(hl:x.pos+1<sg.length)(hk:(sgO sg (x.pos+1)).kind≠4∨((sgO sg (x.pos+1)).text==[61])=false):seG sg x=false:=by
 rw[seG,a2e hb hl rfl]
 rcases hk with hk|hk<;>simp [hk]
theorem b4V{sg:List Sg}{x:Gs}(hb:x.bad=false)(hl:x.pos+1<sg.length)(h1:kdG sg x 1=true)(hk:(sgO sg (x.pos+1)).kind=4)(ht:((sgO sg (x.pos+1)).text==[61])=true):seG sg x=true:=by
 rw[Ib] at h1
 rw[seG,a2e hb hl rfl];simp [h1,hk,ht]
theorem b4W{s:ST}{x:Gs}{n:Nat}{z:Int×Gs}(h:okQ s x)(hk:kdG s.sg x 5=false)(h1:isG s.sg x 1 [118,97,114]=false)(h2:isG s.sg x 1 [114,101,116,117,114,110]=false)(h3:isG s.sg x 1 [105,102]=false)(h4:isG s.sg x 1 [119,104,105,108,101]=false)
 (he:seG s.sg x=true) (hz:Ah s.sg (Au s.sg (Bf s.sg x 1) [61]) (Cd s.sg) z):Ah s.sg x (stR s.sg (n+1) false) (AU (Au s.sg z.2 [59]),Aq (Au s.sg z.2 [59]) ⟨13,Bv s.sg x 1,[z.1],false⟩):=by
 rw[HA.1] at hz;rw[HA.2]
 exact b1Y h.1.1.2 (Gn hk) h1 h2 h3 h4 he (Hz (Fk hz) (Et (IP h.1.1.1) (by simp)) (b1T h.1.1.1 h.1.1.2 hz))
theorem RE{s:ST}{x:Gs}{n:Nat}{z:Int×Gs}(h:okQ s x)(hk:kdG s.sg x 5=false)(h1:isG s.sg x 1 [118,97,114]=false)(h2:isG s.sg x 1 [114,101,116,117,114,110]=false)(h3:isG s.sg x 1 [105,102]=false)(h4:isG s.sg x 1 [119,104,105,108,101]=false)
 (he:seG s.sg x=false) (hz:Ah s.sg x (Cd s.sg) z):Ah s.sg x (stR s.sg (n+1) false) (AU (Au s.sg z.2 [59]),Aq (Au s.sg z.2 [59]) ⟨14,[],[z.1],false⟩):=
 b1Z h.1.1.2 (Gn hk) h1 h2 h3 h4 he (Hz (Fk hz) (Et (by simp) (by simp)) (b1U h.1.1.2 hz))
theorem a2g{s:ST}{x:Gs}(h:okQ s x):rOk s (Au s.sg (Bf s.sg x 1) [61])∧okQ s (Au s.sg (Bf s.sg x 1) [61]):=by
 have a:=Gl (m:=[61]) (GW (k:=1) h.1.1 (by omega))
 have e:(Bf s.sg x 1).deep=x.deep:=by unfold Bf;split<;>rfl
 exact⟨a.1,⟨a.1,by have:=h.1.2;omega⟩,h.2⟩
theorem b4X{α:Type}{s:ST}{x:Gs}{f:Ps→Option (α×Ps)}{y:α×Gs}(h:okQ s x)(hy:Bx s.sg x f y):okQ s y.2:=⟨a1g h.1 hy,h.2⟩
theorem MM{α:Type}{s:ST}{x:Gs}{f:Ps→Option (α×Ps)}{y:α×Gs}(h:okQ s x)(hy:Ah s.sg x f y):okQ s y.2:=⟨a1g h.1 hy.1,h.2⟩
theorem b4Y{α:Type}{s:ST}{x:Gs}{n:Nat}{f:Ps→Option (α×Ps)}{y:α×Gs}(h:21-x.deep≤((n+1:Nat):Int))(hy:Bx s.sg (As x) f y):20-y.2.deep≤(n:Int):=by
 have:=hy.2.1;simp only[As] at this;omega
theorem a2h{sg:List Sg}{x:Gs}{m:List UInt8}:(Bw sg x m).deep=x.deep:=by unfold Bw;split<;>rfl
theorem a2i{s:ST}{x:Gs}{m:List UInt8}(h:rOk s x):rOk s (Bw s.sg x m):=by
 unfold Bw;split
 ·rename_i hq;exact⟨h.1,FG h.2 (CM hq (by omega)).2⟩
 ·exact h
theorem a2j{s:ST}{x:Gs}{m:List UInt8}(h:okQ s x):okQ s (Bw s.sg x m):=⟨⟨a2i h.1.1,by rw[a2h];exact h.1.2⟩,h.2⟩
theorem b4Z{α:Type}{s:ST}{x:Gs}{n:Nat}{m:List UInt8}{f:Ps→Option (α×Ps)}{y:α×Gs}(h:20-x.deep≤(n:Int))(hy:Ah s.sg x f y):20-(Bw s.sg y.2 m).deep≤(n:Int):=by
 rw[a2h];exact b2y h hy
def IX(n:Nat):Sig:= {X:=ST×Int×Int×Bool×List Nd,args:=fun x=>[srd x.1 (xg x)],pre:=fun x=>(okQ x.1 (xg x)∧(xg x).bad=false)∧21-(xg x).deep≤n,Y:=Int×Int×Int×Bool×List Nd,post:=fun x y=>Ah x.1.sg (xg x) (stR x.1.sg n false) (yS y),res:=fun x y=> .int .i64 y.1,outs:=fun x y=>[srd x.1 (yG y.2)],keep:=true}
attribute [local irreducible] pE Bu CJ fnR Ah Bx gsOk Au Cs Aq CN Ed Aw DH DQ AU Ct pkG isG nmG kdG Bf Bv BP vlQ Bw gBl blG Dg Gk Dl Cd BJ stR Cy mbS seG okQ sgM
def srf(s:ST)(g:Gs):AV:= .pf [sgs s.sg,.int .i64 g.pos,.bool g.bad,.int .i64 g.deep,nds g.nodes]
theorem a2k{l:List Sg}{p d:Int}{b:Bool}{ns:List Nd}:AV.pf (fzL [AV.sl false 0 4 Sg sgA l,.int .i64 p,.bool b,.int .i64 d,AV.sl true 0 4 Nd (ndA true) ns])=AV.pf [AV.sl false 0 4 Sg sgA l,.int .i64 p,.bool b,.int .i64 d,AV.sl false 0 4 Nd (ndA false) ns]:=rfl
def Ie:Sig:= {X:=ST×Int×Int×Bool×List Nd×Int,args:=fun x=>[srf x.1 (xh x),.int .i64 x.2.2.2.2.2],pre:=fun x=>rOk x.1 (xh x)∧x.2.2.2.2.2≠0,Y:=Unit,post:=fun x y=>True,res:=fun x y=> .bool (kdG x.1.sg (xh x) x.2.2.2.2.2),outs:=fun x y=>[.top,.top],keep:=false}
theorem b5a:Al G Tryz.prog 137 Ie:=
 vcFun_okP [(125,0,Fx)] [] false (fun x=>[]) Tryz.func137 rfl (by decide) ⟨TW,trivial⟩ (fun(x:ST×Int×Int×Bool×List Nd×Int)=>(∀(y:Unit),True→True∧True∧True∧True)∧true=true∧true=true∧Aa (!(xh x).bad) (Aa (decide ((xh x).pos<(↑(List.length x.1.sg):Int))) (((0:Int)≤(xh x).pos∧(xh x).pos<(↑(List.length x.1.sg):Int))∧∀(e:Sg),x.1.sg[Int.toNat (xh x).pos]? =some e→Aa (e.kind==x.2.2.2.2.2) (Aa (x.2.2.2.2.2 != (1:Int)) (rA Ie x [.bool true,.top,.top]) (((0:Int)≤(xh x).pos∧(xh x).pos<(↑(List.length x.1.sg):Int))∧∀(e:Sg),x.1.sg[Int.toNat (xh x).pos]? =some e→∃(x_1:List UInt8),True∧e.text=x_1∧∃(y0:Unit),(∀(y:Unit),True→AV.bool (kw x_1)=AV.bool (kw x_1))∧true=true∧rA Ie x [.bool !kw x_1,.top,.top])) (rA Ie x [.bool false,.top,.top])) (rA Ie x [.bool false,.top,.top])) (rA Ie x [.bool false,.top,.top])) (fun x=>by kernel_rfl) fun(x:ST×Int×Int×Bool×List Nd×Int) (hx:rOk x.1 (xh x)∧x.2.2.2.2.2≠0)=>(by
 dsimp only[Bt,nds,rA,Ie,CG,sgs,srf,Av,AA]
 obtain⟨s,p,d,b,ns,k⟩:=x;dsimp only[xg,xh] at hx ⊢
 obtain⟨h1,h2⟩:=hx;have hs:=Gh h1;dsimp only at hs
 (repeat' first|(with_reducible first|rfl|exact True.intro|apply AL|apply And.intro|((first|apply AB|apply AJ|apply AC|apply AK)<;>intro _))|(apply Az<;>intro _)|apply AI|refine Ag () ?_ ?_|((first|apply AP|apply AO|apply AN|apply AM|apply AH|apply AG|apply AF|apply AE|apply AD)<;>try dsimp only)|apply Ag|(refine Prod.forall.2 ?_;intro _;try dsimp only)|(intro _;try dsimp only))
 all_goals(try(repeat(rename s.sg[_]? =some _=>hq;revert hq;rename s.sg[_]? =some _=>hr;intro hq;rw[hr] at hq;cases hq)))
 all_goals first
  |rfl
  |exact(ME h2 (.inl ‹_›)).symm
  |exact(ME h2 (.inr (by simp only;omega))).symm
  |(rw[a1A ‹_› ‹_› (by simp only;omega)];simp [*];done)
  |((try simp only[AR]);omega)
  |skip)
def Gp:Sig:= {X:=ST×Int×Int×Bool×List Nd,args:=fun x=>[srd x.1 (xg x)],pre:=fun x=>okQ x.1 (xg x),Y:=Int×Int×Int×Bool×List Nd,post:=fun x y=>Ah x.1.sg (xg x) (Dg x.1.sg false) (yS y),res:=fun x y=> .int .i64 y.1,outs:=fun x y=>[srd x.1 (yG y.2)],keep:=true}
theorem Vt:Al G Tryz.prog 140 Gp:=
 vcFun_okP [(138,0,Cm),(142,0,BQ),(172,0,Fo),(141,0,BF),(117,0,Bm)] [(26,⟨Int,Bh⟩)] false (fun x=>[]) Tryz.func140 rfl (by decide) ⟨JI,GU,Vf,Hy,GV,trivial⟩ (fun(x:ST×Int×Int×Bool×List Nd)=>True∧cA Cm [srd x.1 (xg x),.int .i64 (1:Int)] fun x_1 y=>cA BQ [srd x_1.1 (Bf x_1.1.sg (xh x_1) x_1.2.2.2.2.2),.str #[(61:UInt8)].toList] fun x_2 y=>Aa (isG x_2.1.sg (xh x_2) (4:Int) x_2.2.2.2.2.2) (cA Fo [srd x_2.1 (Aw x_2.1.sg (xh x_2) x_2.2.2.2.2.2)] fun x_3 y=>∃(x_4:Int),y.1=x_4∧∃(zs:List Int),Ae [x_4]=Ae zs∧BG Bh∧Bb ((0:Nat)+List.length zs) (8:Nat)∧cA BF [srd x_3.1 (yG y.2),.str #[(59:UInt8)].toList] fun x_5 y=>cA Bm [srd x_5.1 (Au x_5.1.sg (xh x_5) x_5.2.2.2.2.2),.int .i64 (12:Int),.str (Bv x_1.1.sg (xh x_1) x_1.2.2.2.2.2),Ae ([]++zs)] fun x_6 y=>rA Gp x [.int .i64 (AU (xh x_6)),srd x_6.1 (Aq (xh x_6) {kind:=x_6.2.2.2.2.2.1,text:=x_6.2.2.2.2.2.2.1,kids:=x_6.2.2.2.2.2.2.2,blank:=false})]) (cA BF [srd x_2.1 (Aw x_2.1.sg (xh x_2) x_2.2.2.2.2.2),.str #[(59:UInt8)].toList] fun x_3 y=>cA Bm [srd x_3.1 (Au x_3.1.sg (xh x_3) x_3.2.2.2.2.2),.int .i64 (12:Int),.str (Bv x_1.1.sg (xh x_1) x_1.2.2.2.2.2),Ae []] fun x_4 y=>rA Gp x [.int .i64 (AU (xh x_4)),srd x_4.1 (Aq (xh x_4) {kind:=x_4.2.2.2.2.2.1,text:=x_4.2.2.2.2.2.2.1,kids:=x_4.2.2.2.2.2.2.2,blank:=false})])) (fun x=>by kernel_rfl) fun(x:ST×Int×Int×Bool×List Nd) (hx:okQ x.1 (xg x))=>(by
 dsimp only[cA,Bt,Ae,AY,rA,BQ,Bm,Cm,Fo,Gp,BF,CG,sgs,srd,Av,AA,mvL,lnL,mvE,lnE]
 obtain⟨s,p,d,b,ns⟩:=x;dsimp only[xg,xh] at hx ⊢
 have hx:okQ s ⟨p,d,b,ns⟩:=hx
 have hD:=Eh hx;have hM:=ML hx;have h1:=hD.1
 (repeat' first|(with_reducible first|rfl|exact True.intro|apply AL|apply And.intro|((first|apply AB|apply AJ|apply AC|apply AK)<;>intro _))|(apply Az<;>intro _)|apply AI|refine Ag () ?_ ?_|((first|apply AP|apply AO|apply AN|apply AM|apply AH|apply AG|apply AF|apply AE|apply AD)<;>try dsimp only)|apply Ag|(refine Prod.forall.2 ?_;intro _;try dsimp only)|(intro _;try dsimp only))
 all_goals(try dsimp only[xg,xh,yG,yS,iG,iF] at*)
 all_goals(try simp only[FH] at*)
 all_goals first
  |rfl
  |exact h1
  |omega
  |exact(Vp hx).1
  |exact(Vp hx).2
  |exact Eh (b4A hx ‹_›)
  |exact hM
  |exact EH h1 ‹_›
  |exact(Gl (EH h1 ‹_›)).1
  |exact(Gl (Vp hx).2).1
  |exact b4B hx ‹_› ‹_›
  |exact b4C hx ‹_›
  |(simp [Bb];done)
  |skip)
def Lc:Sig:= {X:=ST×Int×Int×Bool×List Nd,args:=fun x=>[srd x.1 (xg x)],pre:=fun x=>okQ x.1 (xg x),Y:=Int×Int×Int×Bool×List Nd,post:=fun x y=>Bx x.1.sg (xg x) (Dl x.1.sg) (yS y),res:=fun x y=> .int .i64 y.1,outs:=fun x y=>[srd x.1 (yG y.2)],keep:=true}
theorem b5b:Al G Tryz.prog 189 Lc:=
 vcFun_okP [(172,0,Fo),(141,0,BF)] [] false (fun x=>[]) Tryz.func189 rfl (by decide) ⟨Vf,Hy,trivial⟩ (fun(x:ST×Int×Int×Bool×List Nd)=>True∧cA BF [srd x.1 (xg x),.str #[(40:UInt8)].toList] fun x_1 y=>cA Fo [srd x_1.1 (Au x_1.1.sg (xh x_1) x_1.2.2.2.2.2)] fun x_2 y=>cA BF [srd x_2.1 (yG y.2),.str #[(41:UInt8)].toList] fun x_3 y_1=>rA Lc x [.int .i64 y.1,srd x_3.1 (Au x_3.1.sg (xh x_3) x_3.2.2.2.2.2)]) (fun x=>by kernel_rfl) fun(x:ST×Int×Int×Bool×List Nd) (hx:okQ x.1 (xg x))=>(by
 dsimp only[cA,Bt,AY,rA,Lc,Fo,BF,CG,sgs,srd,Av,AA,mvL,lnL,mvE,lnE]
 obtain⟨s,p,d,b,ns⟩:=x;dsimp only[xg,xh] at hx ⊢
 have hx:okQ s ⟨p,d,b,ns⟩:=hx
 have hD:=Eh hx;have hM:=ML hx;have h1:=hD.1
 have t:=Gl (m:=[40]) h1;have hd:=hD.2;dsimp only at hd
 (repeat' first|(with_reducible first|rfl|exact True.intro|apply AL|apply And.intro|((first|apply AB|apply AJ|apply AC|apply AK)<;>intro _))|(apply Az<;>intro _)|apply AI|refine Ag () ?_ ?_|((first|apply AP|apply AO|apply AN|apply AM|apply AH|apply AG|apply AF|apply AE|apply AD)<;>try dsimp only)|apply Ag|(refine Prod.forall.2 ?_;intro _;try dsimp only)|(intro _;try dsimp only))
 all_goals(try dsimp only[xg,xh,yG,yS,iG,iF] at*)
 all_goals(try simp only[FH] at*)
 all_goals first
  |rfl
  |exact h1
  |exact t.1
  |exact hM
  |exact⟨t.1,by rw[t.2];exact hd⟩
  |exact EH h1 ‹_›
  |exact b1M h1.2 ‹_›
  |skip)
def HD(n:Nat):Sig:= {X:=ST×Int×Int×Bool×List Nd,args:=fun x=>[srd x.1 (xg x)],pre:=fun x=>okQ x.1 (xg x)∧20-(xg x).deep≤(n:Int),Y:=Int×Int×Int×Bool×List Nd,post:=fun x y=>Ah x.1.sg (xg x) (BJ x.1.sg (stR x.1.sg n)) (yS y),res:=fun x y=> .int .i64 y.1,outs:=fun x y=>[srd x.1 (yG y.2)],keep:=true}
def JK(n:Nat)(x:ST×Int×Int×Bool×List Nd):LS:= {ι:=Int×Int×Bool×List Nd×List Int×Nat,inv:=fun i=>mbS x.1.sg n (xg x) (iG i) i.2.2.2.2.1 i.2.2.2.2.2,regs:=fun i=>[(0,srd x.1 (iG i)),(3,Ae i.2.2.2.2.1)],als:=[],meas:=fun i=>i.2.2.2.2.2}
theorem a2l(n:Nat)(h:Al G Go.Proofs.Tryz.prog 173 (IX n)):Al G Tryz.prog 144 (HD n):=
 vcFun_okP [(141,0,BF),(142,0,BQ),(114,0,Fm),(173,0,(IX n)),(116,0,DR),(117,0,Bm)] [(26,⟨Int,Bh⟩)] false (fun x=>[(6,JK n x)]) Tryz.func144 rfl (by decide) ⟨Hy,GU,Rm,h,Rn,GV,trivial⟩ (fun(x:ST×Int×Int×Bool×List Nd)=>True∧cA BF [srd x.1 (xg x),.str #[(123:UInt8)].toList] fun x_1 y=>inR IntKind.i64 ((Au x_1.1.sg (xh x_1) x_1.2.2.2.2.2).deep+(1:Int))∧Aa (decide ((Au x_1.1.sg (xh x_1) x_1.2.2.2.2.2).deep+(1:Int)>(20:Int))) (eA (JK n x) [.box 0 [sgs x_1.1.sg,.int .i64 (Au x_1.1.sg (xh x_1) x_1.2.2.2.2.2).pos,.bool true,.int .i64 ((Au x_1.1.sg (xh x_1) x_1.2.2.2.2.2).deep+(1:Int)),AY (Au x_1.1.sg (xh x_1) x_1.2.2.2.2.2).nodes],Ae []]∧∀(i:Int×Int×Bool×List Nd×List Int×Nat),mbS x.1.sg n (xg x) (iG i) i.2.2.2.2.1 i.2.2.2.2.2→Aa (!(iG i).bad) (cA BQ [srd x.1 (iG i),.str #[(125:UInt8)].toList] fun x_2 y=>Aa (!isG x_2.1.sg (xh x_2) (4:Int) x_2.2.2.2.2.2) (cA Fm [srd x_2.1 (Aw x_2.1.sg (xh x_2) x_2.2.2.2.2.2)] fun x_3 y=>Aa (blG x_3.1.sg (xg x_3)) (cA (IX n) [srd x_3.1 (xg x_3)] fun x_4 y=>cA DR [srd x_4.1 (yG y.2),.int .i64 y.1,.bool (decide ((↑(List.length i.2.2.2.2.1):Int)>(0:Int)))] fun x_5 y_1=>∃(x_6:Int),y.1=x_6∧∃(zs:List Int),Ae [x_6]=Ae zs∧BG Bh∧Bb (List.length i.2.2.2.2.1+List.length zs) (8:Nat)∧eN (JK n x) i [srd x_5.1 (gBl (xh x_5) x_5.2.2.2.2.2.1 x_5.2.2.2.2.2.2),Ae (i.2.2.2.2.1++zs)]) (cA (IX n) [srd x_3.1 (xg x_3)] fun x_4 y=>cA DR [srd x_4.1 (yG y.2),.int .i64 y.1,.bool false] fun x_5 y_1=>∃(x_6:Int),y.1=x_6∧∃(zs:List Int),Ae [x_6]=Ae zs∧BG Bh∧Bb (List.length i.2.2.2.2.1+List.length zs) (8:Nat)∧eN (JK n x) i [srd x_5.1 (gBl (xh x_5) x_5.2.2.2.2.2.1 x_5.2.2.2.2.2.2),Ae (i.2.2.2.2.1++zs)])) (inR IntKind.i64 ((Aw x_2.1.sg (xh x_2) x_2.2.2.2.2.2).deep-(1:Int))∧cA Bm [.box 0 [sgs x_2.1.sg,.int .i64 (Aw x_2.1.sg (xh x_2) x_2.2.2.2.2.2).pos,.bool (Aw x_2.1.sg (xh x_2) x_2.2.2.2.2.2).bad,.int .i64 ((Aw x_2.1.sg (xh x_2) x_2.2.2.2.2.2).deep-(1:Int)),AY (Aw x_2.1.sg (xh x_2) x_2.2.2.2.2.2).nodes],.int .i64 (18:Int),.str #[].toList,Ae i.2.2.2.2.1] fun x_3 y=>rA (HD n) x [.int .i64 (AU (xh x_3)),srd x_3.1 (Aq (xh x_3) {kind:=x_3.2.2.2.2.2.1,text:=x_3.2.2.2.2.2.2.1,kids:=x_3.2.2.2.2.2.2.2,blank:=false})])) (inR IntKind.i64 ((iG i).deep-(1:Int))∧cA Bm [.box 0 [sgs x.1.sg,.int .i64 (iG i).pos,.bool (iG i).bad,.int .i64 ((iG i).deep-(1:Int)),AY (iG i).nodes],.int .i64 (18:Int),.str #[].toList,Ae i.2.2.2.2.1] fun x_2 y=>rA (HD n) x [.int .i64 (AU (xh x_2)),srd x_2.1 (Aq (xh x_2) {kind:=x_2.2.2.2.2.2.1,text:=x_2.2.2.2.2.2.2.1,kids:=x_2.2.2.2.2.2.2.2,blank:=false})])) (eA (JK n x) [.box 0 [sgs x_1.1.sg,.int .i64 (Au x_1.1.sg (xh x_1) x_1.2.2.2.2.2).pos,.bool (Au x_1.1.sg (xh x_1) x_1.2.2.2.2.2).bad,.int .i64 ((Au x_1.1.sg (xh x_1) x_1.2.2.2.2.2).deep+(1:Int)),AY (Au x_1.1.sg (xh x_1) x_1.2.2.2.2.2).nodes],Ae []]∧∀(i:Int×Int×Bool×List Nd×List Int×Nat),mbS x.1.sg n (xg x) (iG i) i.2.2.2.2.1 i.2.2.2.2.2→Aa (!(iG i).bad) (cA BQ [srd x.1 (iG i),.str #[(125:UInt8)].toList] fun x_2 y=>Aa (!isG x_2.1.sg (xh x_2) (4:Int) x_2.2.2.2.2.2) (cA Fm [srd x_2.1 (Aw x_2.1.sg (xh x_2) x_2.2.2.2.2.2)] fun x_3 y=>Aa (blG x_3.1.sg (xg x_3)) (cA (IX n) [srd x_3.1 (xg x_3)] fun x_4 y=>cA DR [srd x_4.1 (yG y.2),.int .i64 y.1,.bool (decide ((↑(List.length i.2.2.2.2.1):Int)>(0:Int)))] fun x_5 y_1=>∃(x_6:Int),y.1=x_6∧∃(zs:List Int),Ae [x_6]=Ae zs∧BG Bh∧Bb (List.length i.2.2.2.2.1+List.length zs) (8:Nat)∧eN (JK n x) i [srd x_5.1 (gBl (xh x_5) x_5.2.2.2.2.2.1 x_5.2.2.2.2.2.2),Ae (i.2.2.2.2.1++zs)]) (cA (IX n) [srd x_3.1 (xg x_3)] fun x_4 y=>cA DR [srd x_4.1 (yG y.2),.int .i64 y.1,.bool false] fun x_5 y_1=>∃(x_6:Int),y.1=x_6∧∃(zs:List Int),Ae [x_6]=Ae zs∧BG Bh∧Bb (List.length i.2.2.2.2.1+List.length zs) (8:Nat)∧eN (JK n x) i [srd x_5.1 (gBl (xh x_5) x_5.2.2.2.2.2.1 x_5.2.2.2.2.2.2),Ae (i.2.2.2.2.1++zs)])) (inR IntKind.i64 ((Aw x_2.1.sg (xh x_2) x_2.2.2.2.2.2).deep-(1:Int))∧cA Bm [.box 0 [sgs x_2.1.sg,.int .i64 (Aw x_2.1.sg (xh x_2) x_2.2.2.2.2.2).pos,.bool (Aw x_2.1.sg (xh x_2) x_2.2.2.2.2.2).bad,.int .i64 ((Aw x_2.1.sg (xh x_2) x_2.2.2.2.2.2).deep-(1:Int)),AY (Aw x_2.1.sg (xh x_2) x_2.2.2.2.2.2).nodes],.int .i64 (18:Int),.str #[].toList,Ae i.2.2.2.2.1] fun x_3 y=>rA (HD n) x [.int .i64 (AU (xh x_3)),srd x_3.1 (Aq (xh x_3) {kind:=x_3.2.2.2.2.2.1,text:=x_3.2.2.2.2.2.2.1,kids:=x_3.2.2.2.2.2.2.2,blank:=false})])) (inR IntKind.i64 ((iG i).deep-(1:Int))∧cA Bm [.box 0 [sgs x.1.sg,.int .i64 (iG i).pos,.bool (iG i).bad,.int .i64 ((iG i).deep-(1:Int)),AY (iG i).nodes],.int .i64 (18:Int),.str #[].toList,Ae i.2.2.2.2.1] fun x_2 y=>rA (HD n) x [.int .i64 (AU (xh x_2)),srd x_2.1 (Aq (xh x_2) {kind:=x_2.2.2.2.2.2.1,text:=x_2.2.2.2.2.2.2.1,kids:=x_2.2.2.2.2.2.2.2,blank:=false})]))) (fun x=>by kernel_rfl) fun(x:ST×Int×Int×Bool×List Nd) (hx:okQ x.1 (xg x)∧20-(xg x).deep≤(n:Int))=>(by
 dsimp only[cA,eA,eN,JK,Bt,Ae,AY,rA,Fm,DR,HD,BQ,Bm,IX,BF,CG,sgs,srd,Av,AA,mvL,lnL,mvE,lnE,Bi]
 obtain⟨s,p,d,b,ns⟩:=x;dsimp only[xg,xh] at hx ⊢
 obtain⟨hx,hn⟩:=hx
 have hx:okQ s ⟨p,d,b,ns⟩:=hx
 have hD:=Eh hx;have hM:=ML hx;have h1:=hD.1
 have td:=b4F hx
 (repeat' first|(with_reducible first|rfl|exact True.intro|apply AL|apply And.intro|((first|apply AB|apply AJ|apply AC|apply AK)<;>intro _))|(apply Az<;>intro _)|apply AI|refine Ag () ?_ ?_|((first|apply AP|apply AO|apply AN|apply AM|apply AH|apply AG|apply AF|apply AE|apply AD)<;>try dsimp only)|apply Ag|(refine Prod.forall.2 ?_;intro _;try dsimp only)|(intro _;try dsimp only))
 all_goals(try dsimp only[xg,xh,yG,yS,iG,iF] at*)
 all_goals(try simp only[FH] at*)
 all_goals first
  |(show Nat;skip)
  |rfl
  |exact h1
  |exact b4D hx ‹_›
  |exact b4E hx ‹_›
  |exact RC hx ‹_›
  |exact EX (RC hx ‹_›)
  |exact(Vq hx hn ‹_› ‹_› ‹_›).1
  |exact(Vq hx hn ‹_› ‹_› ‹_›).2.1
  |exact(Vq hx hn ‹_› ‹_› ‹_›).2.2
  |exact EH h1 ‹_›
  |exact MJ Vk ‹_›
  |exact MJ Vk ‹_› ‹_›
  |exact(RD ‹_› ‹_› ‹_› ‹_› (JG ‹_›)).1
  |exact(RD ‹_› ‹_› ‹_› ‹_› (JH ‹_›)).1
  |exact b4G hx ‹_› ‹_›
  |exact b4H hx ‹_› ‹_›
  |exact(Vs hx ‹_›).2.1
  |exact(Vs hx ‹_›).2.2.1
  |(simp [Bb];done)
  |(have hq:=Vr hx (show mbS _ _ _ _ _ _ by assumption);(try simp only[Bb,List.length_append,List.length_cons,List.length_nil]);omega)
  |(have hq:=Vs hx (show mbS _ _ _ _ _ _ by assumption);(try dsimp only at hq);(try simp only[AR]);omega)
  |((try simp only[AR]);omega)
  |skip
 all_goals first
  |exact(RD ‹_› ‹_› ‹_› ‹_› (JG ‹_›)).2
  |exact(RD ‹_› ‹_› ‹_› ‹_› (JH ‹_›)).2
  |skip)
def FM(n:Nat):Sig:= {X:=ST×Int×Int×Bool×List Nd,args:=fun x=>[srd x.1 (xg x)],pre:=fun x=>(okQ x.1 (xg x)∧(xg x).bad=false)∧21-(xg x).deep≤(n+1:Nat),Y:=Int×Int×Int×Bool×List Nd,post:=fun x y=>Ah x.1.sg (xg x) (stR x.1.sg (n+1) false) (yS y),res:=fun x y=> .int .i64 y.1,outs:=fun x y=>[srd x.1 (yG y.2)],keep:=true}
theorem b5c(n:Nat)(h:Al G Go.Proofs.Tryz.prog 173 (IX n)):Al G Tryz.prog 173 (FM n):=
 vcFun_okP [(137,0,Ie),(138,0,Cm),(117,0,Bm),(139,0,Eu),(140,0,Gp),(171,0,DJ),(172,0,Fo),(141,0,BF),(189,0,Lc),(144,0,(HD n))] [(26,⟨Int,Bh⟩)] false (fun x=>[]) Tryz.func173 rfl (by decide) ⟨b5a,JI,GV,UM,Vt,ON,Vf,Hy,b5b,(a2l n h),trivial⟩ (fun(x:ST×Int×Int×Bool×List Nd)=>True∧cA Ie [srd x.1 (xg x),.int .i64 (5:Int)] fun x_1 y=>Aa (kdG x_1.1.sg (xh x_1) x_1.2.2.2.2.2) (cA Cm [srd x.1 (xg x),.int .i64 (5:Int)] fun x_2 y=>cA Bm [srd x_2.1 (Bf x_2.1.sg (xh x_2) x_2.2.2.2.2.2),.int .i64 (19:Int),.str (Bv x_2.1.sg (xh x_2) x_2.2.2.2.2.2),Ae []] fun x_3 y=>rA (FM n) x [.int .i64 (AU (xh x_3)),srd x_3.1 (Aq (xh x_3) {kind:=x_3.2.2.2.2.2.1,text:=x_3.2.2.2.2.2.2.1,kids:=x_3.2.2.2.2.2.2.2,blank:=false})]) (cA Eu [srd x.1 (xg x),.str #[(118:UInt8),(97:UInt8),(114:UInt8)].toList] fun x_2 y=>Aa (isG x_2.1.sg (xh x_2) (1:Int) x_2.2.2.2.2.2) (cA Gp [srd x_2.1 (Bw x_2.1.sg (xh x_2) x_2.2.2.2.2.2)] fun x_3 y=>rA (FM n) x [.int .i64 y.1,srd x_3.1 (yG y.2)]) (cA Eu [srd x_2.1 (Bw x_2.1.sg (xh x_2) x_2.2.2.2.2.2),.str #[(114:UInt8),(101:UInt8),(116:UInt8),(117:UInt8),(114:UInt8),(110:UInt8)].toList] fun x_3 y=>Aa (isG x_3.1.sg (xh x_3) (1:Int) x_3.2.2.2.2.2) (cA DJ [srd x_3.1 (Bw x_3.1.sg (xh x_3) x_3.2.2.2.2.2),.int .i64 (4:Int),.str #[(59:UInt8)].toList] fun x_4 y=>Aa (!isG x_4.1.sg (xh x_4) x_4.2.2.2.2.2.1 x_4.2.2.2.2.2.2) (cA Fo [srd x_4.1 (xh x_4)] fun x_5 y=>∃(x_6:Int),y.1=x_6∧∃(zs:List Int),Ae [x_6]=Ae zs∧BG Bh∧Bb ((0:Nat)+List.length zs) (8:Nat)∧cA BF [srd x_5.1 (yG y.2),.str #[(59:UInt8)].toList] fun x_7 y=>cA Bm [srd x_7.1 (Au x_7.1.sg (xh x_7) x_7.2.2.2.2.2),.int .i64 (15:Int),.str #[].toList,Ae ([]++zs)] fun x_8 y=>rA (FM n) x [.int .i64 (AU (xh x_8)),srd x_8.1 (Aq (xh x_8) {kind:=x_8.2.2.2.2.2.1,text:=x_8.2.2.2.2.2.2.1,kids:=x_8.2.2.2.2.2.2.2,blank:=false})]) (cA BF [srd x_4.1 (xh x_4),.str #[(59:UInt8)].toList] fun x_5 y=>cA Bm [srd x_5.1 (Au x_5.1.sg (xh x_5) x_5.2.2.2.2.2),.int .i64 (15:Int),.str #[].toList,Ae []] fun x_6 y=>rA (FM n) x [.int .i64 (AU (xh x_6)),srd x_6.1 (Aq (xh x_6) {kind:=x_6.2.2.2.2.2.1,text:=x_6.2.2.2.2.2.2.1,kids:=x_6.2.2.2.2.2.2.2,blank:=false})])) (cA Eu [srd x_3.1 (Bw x_3.1.sg (xh x_3) x_3.2.2.2.2.2),.str #[(105:UInt8),(102:UInt8)].toList] fun x_4 y=>Aa (isG x_4.1.sg (xh x_4) (1:Int) x_4.2.2.2.2.2) (cA Lc [srd x_4.1 (Bw x_4.1.sg (xh x_4) x_4.2.2.2.2.2)] fun x_5 y=>∃(x_6:Int),y.1=x_6∧cA (HD n) [srd x_5.1 (yG y.2)] fun x_7 y=>∃(x_8:Int),y.1=x_8∧∃(zs:List Int),Ae [x_8]=Ae zs∧BG Bh∧Bb (List.length [x_6]+List.length zs) (8:Nat)∧cA Eu [srd x_7.1 (yG y.2),.str #[(101:UInt8),(108:UInt8),(115:UInt8),(101:UInt8)].toList] fun x_9 y=>Aa (isG x_9.1.sg (xh x_9) (1:Int) x_9.2.2.2.2.2) (cA (HD n) [srd x_9.1 (Bw x_9.1.sg (xh x_9) x_9.2.2.2.2.2)] fun x_10 y=>∃(x_11:Int),y.1=x_11∧∃(zs_1:List Int),Ae [x_11]=Ae zs_1∧BG Bh∧Bb (List.length (x_6::List.append._f [] PUnit.unit zs)+List.length zs_1) (8:Nat)∧cA Bm [srd x_10.1 (yG y.2),.int .i64 (16:Int),.str #[].toList,Ae (x_6::List.append._f [] PUnit.unit zs++zs_1)] fun x_12 y=>rA (FM n) x [.int .i64 (AU (xh x_12)),srd x_12.1 (Aq (xh x_12) {kind:=x_12.2.2.2.2.2.1,text:=x_12.2.2.2.2.2.2.1,kids:=x_12.2.2.2.2.2.2.2,blank:=false})]) (cA Bm [srd x_9.1 (Bw x_9.1.sg (xh x_9) x_9.2.2.2.2.2),.int .i64 (16:Int),.str #[].toList,Ae ([x_6]++zs)] fun x_10 y=>rA (FM n) x [.int .i64 (AU (xh x_10)),srd x_10.1 (Aq (xh x_10) {kind:=x_10.2.2.2.2.2.1,text:=x_10.2.2.2.2.2.2.1,kids:=x_10.2.2.2.2.2.2.2,blank:=false})])) (cA Eu [srd x_4.1 (Bw x_4.1.sg (xh x_4) x_4.2.2.2.2.2),.str #[(119:UInt8),(104:UInt8),(105:UInt8),(108:UInt8),(101:UInt8)].toList] fun x_5 y=>Aa (isG x_5.1.sg (xh x_5) (1:Int) x_5.2.2.2.2.2) (cA Lc [srd x_5.1 (Bw x_5.1.sg (xh x_5) x_5.2.2.2.2.2)] fun x_6 y=>∃(x_7:Int),y.1=x_7∧cA (HD n) [srd x_6.1 (yG y.2)] fun x_8 y=>∃(x_9:Int),y.1=x_9∧∃(zs:List Int),Ae [x_9]=Ae zs∧BG Bh∧Bb (List.length [x_7]+List.length zs) (8:Nat)∧cA Bm [srd x_8.1 (yG y.2),.int .i64 (17:Int),.str #[].toList,Ae ([x_7]++zs)] fun x_10 y=>rA (FM n) x [.int .i64 (AU (xh x_10)),srd x_10.1 (Aq (xh x_10) {kind:=x_10.2.2.2.2.2.1,text:=x_10.2.2.2.2.2.2.1,kids:=x_10.2.2.2.2.2.2.2,blank:=false})]) (true=true∧true=true∧∃(x_6:ST×Int×Int×Bool×List Nd×Int),(rOk x_6.1 (xh x_6)∧x_6.2.2.2.2.2≠(0:Int))∧AV.pf [AV.sl false (0:Nat) (4:Nat) Sg (fun(x:Sg)=>fzL._f [.int .i64 x.kind,.str x.text,.int .i64 x.pos,.bool x.blank] ⟨AV.rec (fun(k:IntKind) (n:Int)=>⟨fz._f (AV.int k n) PUnit.unit,PUnit.unit⟩) (fun(b:Bool)=>⟨fz._f (.bool b) PUnit.unit,PUnit.unit⟩) (fun(l:List UInt8)=>⟨fz._f (.str l) PUnit.unit,PUnit.unit⟩) (fun(v:Value)=>⟨fz._f (.val v) PUnit.unit,PUnit.unit⟩) ⟨fz._f AV.any PUnit.unit,PUnit.unit⟩ ⟨fz._f .top PUnit.unit,PUnit.unit⟩ ⟨fz._f .nil PUnit.unit,PUnit.unit⟩ (fun(id:Nat)=>⟨fz._f (AV.hole id) PUnit.unit,PUnit.unit⟩) (fun(id:Nat)=>⟨fz._f (AV.al id) PUnit.unit,PUnit.unit⟩) (fun(id k sz off:Nat)=>⟨fz._f (AV.po id k sz off) PUnit.unit,PUnit.unit⟩) (fun(fs:List AV) (fs_ih:List AV×' AV.below_1 fs)=>⟨fz._f (.agg fs) fs_ih,fs_ih⟩) (fun(vs:List AV) (vs_ih:List AV×' AV.below_1 vs)=>⟨fz._f (.tup vs) vs_ih,vs_ih⟩) (fun(id:Nat) (c:List AV) (c_ih:List AV×' AV.below_1 c)=>⟨fz._f (.box id c) c_ih,c_ih⟩) (fun(x:Value) (c:List AV) (c_ih:List AV×' AV.below_1 c)=>⟨fz._f (AV.bv x c) c_ih,c_ih⟩) (fun(x:Value)=>⟨fz._f (AV.hv x) PUnit.unit,PUnit.unit⟩) (fun(c:List AV) (c_ih:List AV×' AV.below_1 c)=>⟨fz._f (AV.pf c) c_ih,c_ih⟩) (fun(fn:Fn) (caps:List AV) (caps_ih:List AV×' AV.below_1 caps)=>⟨fz._f (AV.clo fn caps) caps_ih,caps_ih⟩) (fun(own:Bool) (id sz:Nat) (α:Type) (f:α→List AV) (xs:List α) (f_ih:(a:α)→List AV×' AV.below_1 (f a))=>⟨fz._f (AV.sl own id sz α f xs) f_ih,f_ih⟩) ⟨fzL._f [] PUnit.unit,PUnit.unit⟩ (fun(head:AV) (tail:List AV) (head_ih:AV×' AV.below head) (tail_ih:List AV×' AV.below_1 tail)=>⟨fzL._f (head::tail) ⟨head_ih,tail_ih⟩,head_ih,tail_ih⟩) (.int .i64 x.kind),AV.rec_1 (fun(k:IntKind) (n:Int)=>⟨fz._f (AV.int k n) PUnit.unit,PUnit.unit⟩) (fun(b:Bool)=>⟨fz._f (.bool b) PUnit.unit,PUnit.unit⟩) (fun(l:List UInt8)=>⟨fz._f (.str l) PUnit.unit,PUnit.unit⟩) (fun(v:Value)=>⟨fz._f (.val v) PUnit.unit,PUnit.unit⟩) ⟨fz._f AV.any PUnit.unit,PUnit.unit⟩ ⟨fz._f .top PUnit.unit,PUnit.unit⟩ ⟨fz._f .nil PUnit.unit,PUnit.unit⟩ (fun(id:Nat)=>⟨fz._f (AV.hole id) PUnit.unit,PUnit.unit⟩) (fun(id:Nat)=>⟨fz._f (AV.al id) PUnit.unit,PUnit.unit⟩) (fun(id k sz off:Nat)=>⟨fz._f (AV.po id k sz off) PUnit.unit,PUnit.unit⟩) (fun(fs:List AV) (fs_ih:List AV×' AV.below_1 fs)=>⟨fz._f (.agg fs) fs_ih,fs_ih⟩) (fun(vs:List AV) (vs_ih:List AV×' AV.below_1 vs)=>⟨fz._f (.tup vs) vs_ih,vs_ih⟩) (fun(id:Nat) (c:List AV) (c_ih:List AV×' AV.below_1 c)=>⟨fz._f (.box id c) c_ih,c_ih⟩) (fun(x:Value) (c:List AV) (c_ih:List AV×' AV.below_1 c)=>⟨fz._f (AV.bv x c) c_ih,c_ih⟩) (fun(x:Value)=>⟨fz._f (AV.hv x) PUnit.unit,PUnit.unit⟩) (fun(c:List AV) (c_ih:List AV×' AV.below_1 c)=>⟨fz._f (AV.pf c) c_ih,c_ih⟩) (fun(fn:Fn) (caps:List AV) (caps_ih:List AV×' AV.below_1 caps)=>⟨fz._f (AV.clo fn caps) caps_ih,caps_ih⟩) (fun(own:Bool) (id sz:Nat) (α:Type) (f:α→List AV) (xs:List α) (f_ih:(a:α)→List AV×' AV.below_1 (f a))=>⟨fz._f (AV.sl own id sz α f xs) f_ih,f_ih⟩) ⟨fzL._f [] PUnit.unit,PUnit.unit⟩ (fun(head:AV) (tail:List AV) (head_ih:AV×' AV.below head) (tail_ih:List AV×' AV.below_1 tail)=>⟨fzL._f (head::tail) ⟨head_ih,tail_ih⟩,head_ih,tail_ih⟩) [.str x.text,.int .i64 x.pos,.bool x.blank]⟩) x_5.1.sg,.int .i64 (Bw x_5.1.sg (xh x_5) x_5.2.2.2.2.2).pos,.bool (Bw x_5.1.sg (xh x_5) x_5.2.2.2.2.2).bad,.int .i64 (Bw x_5.1.sg (xh x_5) x_5.2.2.2.2.2).deep,AV.sl false (0:Nat) (4:Nat) Nd (fun(x:Nd)=>fzL._f [.int .i64 x.kind,.str x.text,Ae x.kids,.bool x.blank] ⟨AV.rec (fun(k:IntKind) (n:Int)=>⟨fz._f (AV.int k n) PUnit.unit,PUnit.unit⟩) (fun(b:Bool)=>⟨fz._f (.bool b) PUnit.unit,PUnit.unit⟩) (fun(l:List UInt8)=>⟨fz._f (.str l) PUnit.unit,PUnit.unit⟩) (fun(v:Value)=>⟨fz._f (.val v) PUnit.unit,PUnit.unit⟩) ⟨fz._f AV.any PUnit.unit,PUnit.unit⟩ ⟨fz._f .top PUnit.unit,PUnit.unit⟩ ⟨fz._f .nil PUnit.unit,PUnit.unit⟩ (fun(id:Nat)=>⟨fz._f (AV.hole id) PUnit.unit,PUnit.unit⟩) (fun(id:Nat)=>⟨fz._f (AV.al id) PUnit.unit,PUnit.unit⟩) (fun(id k sz off:Nat)=>⟨fz._f (AV.po id k sz off) PUnit.unit,PUnit.unit⟩) (fun(fs:List AV) (fs_ih:List AV×' AV.below_1 fs)=>⟨fz._f (.agg fs) fs_ih,fs_ih⟩) (fun(vs:List AV) (vs_ih:List AV×' AV.below_1 vs)=>⟨fz._f (.tup vs) vs_ih,vs_ih⟩) (fun(id:Nat) (c:List AV) (c_ih:List AV×' AV.below_1 c)=>⟨fz._f (.box id c) c_ih,c_ih⟩) (fun(x:Value) (c:List AV) (c_ih:List AV×' AV.below_1 c)=>⟨fz._f (AV.bv x c) c_ih,c_ih⟩) (fun(x:Value)=>⟨fz._f (AV.hv x) PUnit.unit,PUnit.unit⟩) (fun(c:List AV) (c_ih:List AV×' AV.below_1 c)=>⟨fz._f (AV.pf c) c_ih,c_ih⟩) (fun(fn:Fn) (caps:List AV) (caps_ih:List AV×' AV.below_1 caps)=>⟨fz._f (AV.clo fn caps) caps_ih,caps_ih⟩) (fun(own:Bool) (id sz:Nat) (α:Type) (f:α→List AV) (xs:List α) (f_ih:(a:α)→List AV×' AV.below_1 (f a))=>⟨fz._f (AV.sl own id sz α f xs) f_ih,f_ih⟩) ⟨fzL._f [] PUnit.unit,PUnit.unit⟩ (fun(head:AV) (tail:List AV) (head_ih:AV×' AV.below head) (tail_ih:List AV×' AV.below_1 tail)=>⟨fzL._f (head::tail) ⟨head_ih,tail_ih⟩,head_ih,tail_ih⟩) (.int .i64 x.kind),AV.rec_1 (fun(k:IntKind) (n:Int)=>⟨fz._f (AV.int k n) PUnit.unit,PUnit.unit⟩) (fun(b:Bool)=>⟨fz._f (.bool b) PUnit.unit,PUnit.unit⟩) (fun(l:List UInt8)=>⟨fz._f (.str l) PUnit.unit,PUnit.unit⟩) (fun(v:Value)=>⟨fz._f (.val v) PUnit.unit,PUnit.unit⟩) ⟨fz._f AV.any PUnit.unit,PUnit.unit⟩ ⟨fz._f .top PUnit.unit,PUnit.unit⟩ ⟨fz._f .nil PUnit.unit,PUnit.unit⟩ (fun(id:Nat)=>⟨fz._f (AV.hole id) PUnit.unit,PUnit.unit⟩) (fun(id:Nat)=>⟨fz._f (AV.al id) PUnit.unit,PUnit.unit⟩) (fun(id k sz off:Nat)=>⟨fz._f (AV.po id k sz off) PUnit.unit,PUnit.unit⟩) (fun(fs:List AV) (fs_ih:List AV×' AV.below_1 fs)=>⟨fz._f (.agg fs) fs_ih,fs_ih⟩) (fun(vs:List AV) (vs_ih:List AV×' AV.below_1 vs)=>⟨fz._f (.tup vs) vs_ih,vs_ih⟩) (fun(id:Nat) (c:List AV) (c_ih:List AV×' AV.below_1 c)=>⟨fz._f (.box id c) c_ih,c_ih⟩) (fun(x:Value) (c:List AV) (c_ih:List AV×' AV.below_1 c)=>⟨fz._f (AV.bv x c) c_ih,c_ih⟩) (fun(x:Value)=>⟨fz._f (AV.hv x) PUnit.unit,PUnit.unit⟩) (fun(c:List AV) (c_ih:List AV×' AV.below_1 c)=>⟨fz._f (AV.pf c) c_ih,c_ih⟩) (fun(fn:Fn) (caps:List AV) (caps_ih:List AV×' AV.below_1 caps)=>⟨fz._f (AV.clo fn caps) caps_ih,caps_ih⟩) (fun(own:Bool) (id sz:Nat) (α:Type) (f:α→List AV) (xs:List α) (f_ih:(a:α)→List AV×' AV.below_1 (f a))=>⟨fz._f (AV.sl own id sz α f xs) f_ih,f_ih⟩) ⟨fzL._f [] PUnit.unit,PUnit.unit⟩ (fun(head:AV) (tail:List AV) (head_ih:AV×' AV.below head) (tail_ih:List AV×' AV.below_1 tail)=>⟨fzL._f (head::tail) ⟨head_ih,tail_ih⟩,head_ih,tail_ih⟩) [.str x.text,Ae x.kids,.bool x.blank]⟩) (Bw x_5.1.sg (xh x_5) x_5.2.2.2.2.2).nodes]=AV.pf [sgs x_6.1.sg,.int .i64 (xh x_6).pos,.bool (xh x_6).bad,.int .i64 (xh x_6).deep,nds (xh x_6).nodes]∧(1:Int)=x_6.2.2.2.2.2∧∃(y0:Unit),(∀(y:Unit),True→AV.bool (kdG x_6.1.sg (xh x_6) x_6.2.2.2.2.2)=AV.bool (kdG x_6.1.sg (xh x_6) x_6.2.2.2.2.2))∧true=true∧Aa (kdG x_6.1.sg (xh x_6) x_6.2.2.2.2.2) (inR IntKind.i64 ((Bw x_5.1.sg (xh x_5) x_5.2.2.2.2.2).pos+(1:Int))∧Aa (decide ((Bw x_5.1.sg (xh x_5) x_5.2.2.2.2.2).pos+(1:Int)<(↑(List.length x_5.1.sg):Int))) (inR IntKind.i64 ((Bw x_5.1.sg (xh x_5) x_5.2.2.2.2.2).pos+(1:Int))∧((0:Int)≤(Bw x_5.1.sg (xh x_5) x_5.2.2.2.2.2).pos+(1:Int)∧(Bw x_5.1.sg (xh x_5) x_5.2.2.2.2.2).pos+(1:Int)<(↑(List.length x_5.1.sg):Int))∧∀(e:Sg),x_5.1.sg[Int.toNat ((Bw x_5.1.sg (xh x_5) x_5.2.2.2.2.2).pos+(1:Int))]? =some e→Aa (e.kind==(4:Int)) (inR IntKind.i64 ((Bw x_5.1.sg (xh x_5) x_5.2.2.2.2.2).pos+(1:Int))∧((0:Int)≤(Bw x_5.1.sg (xh x_5) x_5.2.2.2.2.2).pos+(1:Int)∧(Bw x_5.1.sg (xh x_5) x_5.2.2.2.2.2).pos+(1:Int)<(↑(List.length x_5.1.sg):Int))∧∀(e:Sg),x_5.1.sg[Int.toNat ((Bw x_5.1.sg (xh x_5) x_5.2.2.2.2.2).pos+(1:Int))]? =some e→Aa (e.text== #[(61:UInt8)].toList) (cA Cm [srd x_5.1 (Bw x_5.1.sg (xh x_5) x_5.2.2.2.2.2),.int .i64 (1:Int)] fun x_7 y=>cA BF [srd x_7.1 (Bf x_7.1.sg (xh x_7) x_7.2.2.2.2.2),.str #[(61:UInt8)].toList] fun x_8 y=>cA Fo [srd x_8.1 (Au x_8.1.sg (xh x_8) x_8.2.2.2.2.2)] fun x_9 y=>cA BF [srd x_9.1 (yG y.2),.str #[(59:UInt8)].toList] fun x_10 y_1=>∃(x_11:Int),y.1=x_11∧cA Bm [srd x_10.1 (Au x_10.1.sg (xh x_10) x_10.2.2.2.2.2),.int .i64 (13:Int),.str (Bv x_7.1.sg (xh x_7) x_7.2.2.2.2.2),Ae [x_11]] fun x_12 y=>rA (FM n) x [.int .i64 (AU (xh x_12)),srd x_12.1 (Aq (xh x_12) {kind:=x_12.2.2.2.2.2.1,text:=x_12.2.2.2.2.2.2.1,kids:=x_12.2.2.2.2.2.2.2,blank:=false})]) (cA Fo [srd x_5.1 (Bw x_5.1.sg (xh x_5) x_5.2.2.2.2.2)] fun x_7 y=>cA BF [srd x_7.1 (yG y.2),.str #[(59:UInt8)].toList] fun x_8 y_1=>∃(x_9:Int),y.1=x_9∧cA Bm [srd x_8.1 (Au x_8.1.sg (xh x_8) x_8.2.2.2.2.2),.int .i64 (14:Int),.str #[].toList,Ae [x_9]] fun x_10 y=>rA (FM n) x [.int .i64 (AU (xh x_10)),srd x_10.1 (Aq (xh x_10) {kind:=x_10.2.2.2.2.2.1,text:=x_10.2.2.2.2.2.2.1,kids:=x_10.2.2.2.2.2.2.2,blank:=false})])) (cA Fo [srd x_5.1 (Bw x_5.1.sg (xh x_5) x_5.2.2.2.2.2)] fun x_7 y=>cA BF [srd x_7.1 (yG y.2),.str #[(59:UInt8)].toList] fun x_8 y_1=>∃(x_9:Int),y.1=x_9∧cA Bm [srd x_8.1 (Au x_8.1.sg (xh x_8) x_8.2.2.2.2.2),.int .i64 (14:Int),.str #[].toList,Ae [x_9]] fun x_10 y=>rA (FM n) x [.int .i64 (AU (xh x_10)),srd x_10.1 (Aq (xh x_10) {kind:=x_10.2.2.2.2.2.1,text:=x_10.2.2.2.2.2.2.1,kids:=x_10.2.2.2.2.2.2.2,blank:=false})])) (cA Fo [srd x_5.1 (Bw x_5.1.sg (xh x_5) x_5.2.2.2.2.2)] fun x_7 y=>cA BF [srd x_7.1 (yG y.2),.str #[(59:UInt8)].toList] fun x_8 y_1=>∃(x_9:Int),y.1=x_9∧cA Bm [srd x_8.1 (Au x_8.1.sg (xh x_8) x_8.2.2.2.2.2),.int .i64 (14:Int),.str #[].toList,Ae [x_9]] fun x_10 y=>rA (FM n) x [.int .i64 (AU (xh x_10)),srd x_10.1 (Aq (xh x_10) {kind:=x_10.2.2.2.2.2.1,text:=x_10.2.2.2.2.2.2.1,kids:=x_10.2.2.2.2.2.2.2,blank:=false})])) (cA Fo [srd x_5.1 (Bw x_5.1.sg (xh x_5) x_5.2.2.2.2.2)] fun x_7 y=>cA BF [srd x_7.1 (yG y.2),.str #[(59:UInt8)].toList] fun x_8 y_1=>∃(x_9:Int),y.1=x_9∧cA Bm [srd x_8.1 (Au x_8.1.sg (xh x_8) x_8.2.2.2.2.2),.int .i64 (14:Int),.str #[].toList,Ae [x_9]] fun x_10 y=>rA (FM n) x [.int .i64 (AU (xh x_10)),srd x_10.1 (Aq (xh x_10) {kind:=x_10.2.2.2.2.2.1,text:=x_10.2.2.2.2.2.2.1,kids:=x_10.2.2.2.2.2.2.2,blank:=false})]))))))) (fun x=>by kernel_rfl) fun(x:ST×Int×Int×Bool×List Nd) (hx:(okQ x.1 (xg x)∧(xg x).bad=false)∧21-(xg x).deep≤(n+1:Nat))=>(by
 dsimp only[cA,Bt,nds,Ae,AY,rA,HD,Lc,DJ,Ie,Bm,FM,Cm,Fo,Gp,BF,Eu,CG,sgs,srd,srf,Av,AA,mvL,lnL,mvE,lnE]
 obtain⟨s,p,d,b,ns⟩:=x;dsimp only[xg,xh] at hx ⊢
 obtain⟨⟨hx,hb⟩,hd⟩:=hx
 have hx:okQ s ⟨p,d,b,ns⟩:=hx
 have hD:=Eh hx;have hM:=ML hx;have h1:=hD.1
 (repeat' first|(show AV.pf _=AV.pf _;first|exact a2k|(with_unfolding_all exact a2k)|(with_unfolding_all rfl))|(with_reducible first|rfl|exact True.intro|apply AL|apply And.intro|((first|apply AB|apply AJ|apply AC|apply AK)<;>intro _))|(apply Az<;>intro _)|apply AI|refine Ag () ?_ ?_|((first|apply AP|apply AO|apply AN|apply AM|apply AH|apply AG|apply AF|apply AE|apply AD)<;>try dsimp only)|apply Ag|(refine Prod.forall.2 ?_;intro _;try dsimp only)|(intro _;try dsimp only))
 all_goals(try dsimp only[xg,xh,yG,yS,iG,iF] at*)
 all_goals(try simp only[FH] at*)
 all_goals(try(have e:=IV (show isG s.sg ⟨p,d,b,ns⟩ 1 [118,97,114]=false by assumption);simp only[e] at*))
 all_goals(try(have e:=IW (show isG s.sg ⟨p,d,b,ns⟩ 1 [118,97,114]=true by assumption);simp only[e] at*))
 all_goals(try(have e:=IV (show isG s.sg ⟨p,d,b,ns⟩ 1 [114,101,116,117,114,110]=false by assumption);simp only[e] at*))
 all_goals(try(have e:=IW (show isG s.sg ⟨p,d,b,ns⟩ 1 [114,101,116,117,114,110]=true by assumption);simp only[e] at*))
 all_goals(try(have e:=IV (show isG s.sg ⟨p,d,b,ns⟩ 1 [105,102]=false by assumption);simp only[e] at*))
 all_goals(try(have e:=IW (show isG s.sg ⟨p,d,b,ns⟩ 1 [105,102]=true by assumption);simp only[e] at*))
 all_goals(try(have e:=IV (show isG s.sg ⟨p,d,b,ns⟩ 1 [119,104,105,108,101]=false by assumption);simp only[e] at*))
 all_goals(try(have e:=IW (show isG s.sg ⟨p,d,b,ns⟩ 1 [119,104,105,108,101]=true by assumption);simp only[e] at*))
 all_goals first
  |rfl
  |exact h1
  |exact hM
  |omega
  |(simp;done)
  |exact b4I hx ‹_›
  |exact GW h1 (by omega)
  |exact FL hx ‹_›
  |exact Eh (FL hx ‹_›)
  |exact(Eh (FL hx ‹_›)).1
  |exact b4J hx ‹_› ‹_› ‹_›
  |exact b4L hx ‹_› ‹_› ‹_› ‹_› ‹_›
  |exact b4K hx ‹_› ‹_› ‹_› ‹_›
  |exact EH h1 ‹_›
  |exact(Gl (EH h1 ‹_›)).1
  |exact(Gl (Eh (FL hx ‹_›)).1).1
  |exact b4W hx ‹_› ‹_› ‹_› ‹_› ‹_› (b4V (x:=⟨p,d,b,ns⟩) hb ‹_› ‹_› (b4P ‹_› ‹_›) (b4R ‹_› ‹_›)) ‹_›
  |exact RE hx ‹_› ‹_› ‹_› ‹_› ‹_› (b4T ‹_›) ‹_›
  |exact RE hx ‹_› ‹_› ‹_› ‹_› ‹_› (b4U (x:=⟨p,d,b,ns⟩) ‹_›) ‹_›
  |exact RE hx ‹_› ‹_› ‹_› ‹_› ‹_› (a2f (x:=⟨p,d,b,ns⟩) hb ‹_› (.inl (b4Q ‹_› ‹_›))) ‹_›
  |exact RE hx ‹_› ‹_› ‹_› ‹_› ‹_› (a2f (x:=⟨p,d,b,ns⟩) hb ‹_› (.inr (b4S ‹_› ‹_›))) ‹_›
  |(have hq:=Gh h1;dsimp only at hq;(try simp only[AR]);omega)
  |exact(a2g hx).1
  |exact Eh (a2g hx).2
  |exact hD
  |(simp [Bb];done)
  |exact(show Bb 2 8 by simp [Bb])
  |exact(show Bb 3 8 by simp [Bb])
  |skip
 all_goals(try(have hc:=(show Bx s.sg (As ⟨p,d,b,ns⟩) (Dl s.sg) _ by assumption);have k0:=FL hx (show isG s.sg ⟨p,d,b,ns⟩ 1 _=true by assumption);have k1:=b4X k0 hc;have k2:=b4Y (n:=n) (x:=⟨p,d,b,ns⟩) hd hc))
 all_goals first
  |exact k1
  |exact k2
  |exact(Eh (MM k1 ‹_›)).1
  |exact a2i (Eh (MM k1 ‹_›)).1
  |exact FL (MM k1 ‹_›) ‹_›
  |exact a2j (MM k1 ‹_›)
  |(have hh:=b4Z (m:=[101,108,115,101]) k2 (show Ah s.sg _ (BJ s.sg _) _ by assumption);exact hh)
  |exact EH h1 ‹_›
  |exact b4M hx ‹_› ‹_› ‹_› ‹_› ‹_› ‹_› ‹_›
  |exact b4N hx ‹_› ‹_› ‹_› ‹_› ‹_› ‹_› ‹_› ‹_›
  |exact b4O hx ‹_› ‹_› ‹_› ‹_› ‹_› ‹_› ‹_›
  |exact(Eh (MM (a2j (MM k1 ‹_›)) ‹_›)).1
  |exact h1
  |skip)
end Go.My
end
section
set_option linter.unusedVariables false
set_option linter.unusedSimpArgs false
namespace Go.My
open Go.Eng Go.Proofs
variable {G:GInv}
theorem b5d(n:Nat):Al G Go.Proofs.Tryz.prog 173 (IX n):=by
 induction n with
 |zero=>exact KU Tryz.func173 rfl (by decide) (fun x h=>by have h1:=h.1.1.1.2;have h2:=h.2;omega)
 |succ n ih=>exact b5c n ih
def Ld:Sig:= {X:=ST×Int×Int×Bool×List Nd,args:=fun x=>[srd x.1 (xg x)],pre:=fun x=>okQ x.1 (xg x),Y:=Int×Int×Int×Bool×List Nd,post:=fun x y=>Ah x.1.sg (xg x) (EU x.1.sg) (yS y),res:=fun x y=> .int .i64 y.1,outs:=fun x y=>[srd x.1 (yG y.2)],keep:=true}
theorem a2m{s:ST}{g:Gs}(h:okQ s g):okQ s g∧20-g.deep≤(stN:Int):=by
 have h1:=h.1.1.2.2.1.1
 exact⟨h,by unfold stN;omega⟩
theorem a2n:Al G Go.Proofs.Tryz.prog 144 Ld:=
 have c:=a2l (G:=G) stN (b5d stN)
 ⟨⟨c.1.1,fun x y hx hy=>c.1.2 x y (a2m hx) hy⟩,fun x hx=>c.2 x (a2m hx)⟩
theorem a2o{s:ST}{x:Gs}{v:List Int×Gs}(h:okQ s x)(hv:vlQ s.sg (BP s.sg) [41] [] (Au s.sg (Bf s.sg x 1) [40]) v):okQ s v.2:=by
 have a:=Gl (m:=[40]) (GW (k:=1) h.1.1 (by omega))
 have e:(Bf s.sg x 1).deep=x.deep:=by unfold Bf;split<;>rfl
 obtain⟨b1,b2,b3,b4⟩:=UU h.1.1.1 hv
 exact⟨⟨b1,by have:=h.1.2;omega⟩,h.2⟩
theorem a2p{s:ST}{x:Gs}{v:List Int×Gs}{q:Int×Gs}(h:okQ s x)(hv:vlQ s.sg (BP s.sg) [41] [] (Au s.sg (Bf s.sg x 1) [40]) v)(hq:Ah s.sg v.2 (EU s.sg) q):
 Ah s.sg x (Gg s.sg false) (AU q.2,Aq q.2 ⟨20,Bv s.sg x 1,v.1++[q.1],false⟩):=by
 rw[HA.1] at hv;rw[HA.2]
 obtain⟨l,⟨a,b⟩,rfl⟩:=hv
 exact b2a (l:=l) h.1.1.1 h.1.1.2 a b hq
def clS(sg:List Sg)(x y:Gs)(ks:List Int)(N:Nat):Prop:=JF sg (CV sg) [125] (Au sg (Bf sg (As x) 1) [123]) y ks N∧y.deep=x.deep
theorem a2q{s:ST}{x:Gs}(h:okQ s (As x)):clS s.sg x (Au s.sg (Bf s.sg (As x) 1) [123]) [] (s.sg.length+1):=by
 have a:=GW (k:=1) h.1.1 (by omega)
 refine⟨a0W (Gl a).1.2,?_⟩
 rw[(Gl a).2];unfold Bf;split<;>rfl
theorem b5e{s:ST}{x:Gs}(h:okQ s x)(h1:isG s.sg x 1 [118,97,114]=false)(h2:isG s.sg (Bw s.sg x [118,97,114]) 1 [99,108,97,115,115]=true):
 clS s.sg x (Au s.sg (Bf s.sg (Bw s.sg (Bw s.sg x [118,97,114]) [99,108,97,115,115]) 1) [123]) [] (s.sg.length+1):=by
 rw[IV h1] at h2 ⊢
 rw[IW h2];exact a2q (FL h h2)
theorem b5f{s:ST}{x:Gs}(h:okQ s (As x)):rOk s (Bf s.sg (As x) 1)∧rOk s (Au s.sg (Bf s.sg (As x) 1) [123]):=
 have a:=GW (k:=1) h.1.1 (by omega)
 ⟨a,(Gl a).1⟩
theorem Vu{s:ST}{x y:Gs}{ks:List Int}{N:Nat}(h:okQ s (As x))(hj:clS s.sg x y ks N):okQ s y:=⟨⟨⟨h.1.1.1,hj.1.1.1⟩,by have:=hj.2;have:=h.1.2;simp only[As] at*;omega⟩,h.2⟩
theorem a2r{s:ST}{x y:Gs}{ks:List Int}{N:Nat}(h:okQ s (As x))(hj:clS s.sg x y ks N)(hb:y.bad=false)(hq:isG s.sg y 4 [125]=false):okQ s (Aw s.sg y [125])∧(Aw s.sg y [125]).bad=false:=by
 rw[Di hq];exact⟨Vu h hj,hb⟩
theorem Vv{s:ST}{x y:Gs}{ks:List Int}{N:Nat}(h:okQ s (As x))(hj:clS s.sg x y ks N):ks.length≤3001:=by
 have:=hj.1.2.2.1;have:=hj.1.1.1.1;have:=h.1.1.1.1;omega
theorem JL{s:ST}{x y:Gs}{ks:List Int}{N:Nat}{b:Bool}{z:Int×Gs}(hj:clS s.sg x y ks N)(hb:y.bad=false)(hq:isG s.sg y 4 [125]=false)(hz:Ah s.sg (Aw s.sg y [125]) (CV s.sg false) z)(e:b=(blG s.sg (Aw s.sg y [125])&&decide (0<(ks.length:Int)))):
 clS s.sg x (gBl z.2 z.1 b) (ks++[z.1]) (N-1)∧N-1<N:=by
 rw[Di hq] at hz e
 rw[Vo hb] at e
 have hz2:Ah s.sg y (CV s.sg b) (z.1,gBl z.2 z.1 b):=Vn Vl hz
 subst e
 obtain⟨a,b⟩:=Mz (a1a hj.1 hb hq (z:=(z.1,gBl z.2 z.1 ((pkG s.sg y 0).blank&&decide (0<(ks.length:Int))))) (by
  have:decide (0<ks.length)=decide (0<(ks.length:Int)):=by simp
  rw[this];exact hz2))
 have:=(Cz hz2).1
 exact⟨⟨a,by have:=hj.2;simp only at*;omega⟩,b⟩
theorem a2s{s:ST}{x:Gs}{l:List Int×Gs}(h:okQ s (As x))(hl:Bx s.sg (Au s.sg (Bf s.sg (As x) 1) [123]) (Cy s.sg (CV s.sg) [125] (s.sg.length+1) []) l)(hll:l.1.length≤3001):
 Ah s.sg (As x) (GR s.sg false) (AU (Au s.sg l.2 [125]),Aq (Au s.sg l.2 [125]) ⟨21,Bv s.sg (As x) 1,l.1,false⟩):=by
 rw[HA.1] at hl;rw[HA.2]
 exact Hz hl.1 (Et (IP h.1.1.1) (by omega)) (b2b h.1.1.1 h.1.1.2 hl hll)
theorem b5g{s:ST}{x y:Gs}{ks:List Int}{N:Nat}(h:okQ s (As x))(hj:clS s.sg x y ks N)(hq:isG s.sg y 4 [125]=true):
 Ah s.sg (As x) (GR s.sg false) (AU (Aw s.sg y [125]),Aq (Aw s.sg y [125]) ⟨21,Bv s.sg (As x) 1,ks,false⟩):=by
 rw[Eg hq,←IR hq];exact a2s (l:=(ks,y)) h (a0Z hj.1 hq) (Vv h hj)
theorem b5h{s:ST}{x y:Gs}{ks:List Int}{N:Nat}(h:okQ s (As x))(hj:clS s.sg x y ks N)(hb:y.bad=true):
 Ah s.sg (As x) (GR s.sg false) (AU y,Aq y ⟨21,Bv s.sg (As x) 1,ks,false⟩):=by
 have a:=a2s (l:=(ks,y)) h (a0X hj.1 hb) (Vv h hj)
 simp only[Ro hb] at a;exact a
theorem b5i{s:ST}{x:Gs}(h:okQ s x)(hk:kdG s.sg x 5=true):Ah s.sg x (CV s.sg false) (AU (Bf s.sg x 5),Aq (Bf s.sg x 5) ⟨19,Bv s.sg x 5,[],false⟩):=by
 have hn:=hk
 rw[OO (by omega)] at hn
 exact MG h.1.1.1 h.1.1.2 (by omega) hk (b2c h.1.1.1 h.1.1.2 (by simpa using hn))
theorem b5j{s:ST}{x:Gs}(h:okQ s x)(hk:kdG s.sg x 5=true):Ah s.sg x (Dh s.sg false) (AU (Bf s.sg x 5),Aq (Bf s.sg x 5) ⟨19,Bv s.sg x 5,[],false⟩):=by
 have hn:=hk
 rw[OO (by omega)] at hn
 exact MG h.1.1.1 h.1.1.2 (by omega) hk (b2f h.1.1.1 h.1.1.2 (by simpa using hn))
theorem b5k{s:ST}{x:Gs}{z:Int×Gs}(h:okQ s x)(hk:kdG s.sg x 5=false)(hq:isG s.sg x 1 [118,97,114]=true)(hz:Ah s.sg (As x) (Dg s.sg false) z):Ah s.sg x (CV s.sg false) z:=b2d h.1.1.2 (Gn hk) hq hz
theorem b5l{s:ST}{x:Gs}{z:Int×Gs}(h:okQ s x)(hk:kdG s.sg x 5=false)(hq:isG s.sg x 1 [118,97,114]=true)(hz:Ah s.sg (As x) (Dg s.sg false) z):Ah s.sg x (Dh s.sg false) z:=b2g h.1.1.2 (Gn hk) hq hz
theorem b5m{s:ST}{x:Gs}{z:Int×Gs}(h:okQ s x)(hk:kdG s.sg x 5=false)(hq:isG s.sg x 1 [118,97,114]=false)(hz:Ah s.sg x (Gg s.sg false) z):Ah s.sg x (CV s.sg false) z:=b2e h.1.1.2 (Gn hk) hq hz
theorem b5n{s:ST}{x:Gs}{z:Int×Gs}(h:okQ s x)(hk:kdG s.sg x 5=false)(h1:isG s.sg x 1 [118,97,114]=false)(hq:isG s.sg x 1 [99,108,97,115,115]=false)(hz:Ah s.sg x (Gg s.sg false) z):Ah s.sg x (Dh s.sg false) z:=b2i h.1.1.2 (Gn hk) h1 hq hz
theorem a2t{s:ST}{x:Gs}{z:Int×Gs}(h:okQ s x)(hk:kdG s.sg x 5=false)(h1:isG s.sg x 1 [118,97,114]=false)(hq:isG s.sg x 1 [99,108,97,115,115]=true)(hz:Ah s.sg (As x) (GR s.sg false) z):Ah s.sg x (Dh s.sg false) z:=b2h h.1.1.2 (Gn hk) h1 hq hz
def a2u:Sig:= {X:=ST×Int×Int×Bool×List Nd,args:=fun x=>[srd x.1 (xg x),.bool false],pre:=fun x=>False,Y:=Int×Int×Int×Bool×List Nd,post:=fun x y=>True,res:=fun x y=> .int .i64 y.1,outs:=fun x y=>[srd x.1 (yG y.2),.top],keep:=true}
theorem b5o:Al G Go.Proofs.Tryz.prog 115 a2u:=KU Tryz.func115 rfl (by decide) (fun x h=>h)
attribute [local irreducible] pE Bu CJ fnR Ah Bx gsOk Au Cs Aq CN Ed Aw DH DQ AU Ct pkG isG nmG kdG Bf Bv BP vlQ Bw gBl blG Dg Gk Dl Cd BJ stR Cy okQ sgM clS CV Dh Gg GR EU
def IY:Sig:= {X:=ST×Int×Int×Bool×List Nd,args:=fun x=>[srd x.1 (xg x),.bool false],pre:=fun x=>okQ x.1 (xg x)∧(xg x).bad=false,Y:=Int×Int×Int×Bool×List Nd,post:=fun x y=>Ah x.1.sg (xg x) (CV x.1.sg false) (yS y),res:=fun x y=> .int .i64 y.1,outs:=fun x y=>[srd x.1 (yG y.2),.top],keep:=true}
def b5p(x:ST×Int×Int×Bool×List Nd):LS:= {ι:=Int×Int×Bool×List Nd×List Int×Nat,inv:=fun i=>False,regs:=fun i=>[(0,srd x.1 (iG i)),(5,.str (Bv x.1.sg (As (xg x)) 1)),(6,Ae i.2.2.2.2.1)],als:=[],meas:=fun i=>i.2.2.2.2.2}
theorem b5q:Al G Tryz.prog 115 IY:=
 vcFun_okP [(137,0,DK),(138,0,Cm),(117,0,Bm),(139,0,Eu),(140,0,Gp),(141,0,BF),(142,0,BQ),(114,0,Fm),(115,0,a2u),(116,0,DR),(143,0,FK),(144,0,Ld)] [(26,⟨Int,Bh⟩)] false (fun x=>[(9,b5p x)]) Tryz.func115 rfl (by decide) ⟨Rl,JI,GV,UM,Vt,Hy,GU,Rm,b5o,Rn,UY,a2n,trivial⟩ (fun(x:ST×Int×Int×Bool×List Nd)=>True∧cA DK [srd x.1 (xg x),.int .i64 (5:Int)] fun x_1 y=>Aa (kdG x_1.1.sg (xh x_1) x_1.2.2.2.2.2) (cA Cm [srd x_1.1 (xh x_1),.int .i64 (5:Int)] fun x_2 y=>cA Bm [srd x_2.1 (Bf x_2.1.sg (xh x_2) x_2.2.2.2.2.2),.int .i64 (19:Int),.str (Bv x_2.1.sg (xh x_2) x_2.2.2.2.2.2),Ae []] fun x_3 y=>rA IY x [.int .i64 (AU (xh x_3)),srd x_3.1 (Aq (xh x_3) {kind:=x_3.2.2.2.2.2.1,text:=x_3.2.2.2.2.2.2.1,kids:=x_3.2.2.2.2.2.2.2,blank:=false}),.top]) (cA Eu [srd x_1.1 (xh x_1),.str #[(118:UInt8),(97:UInt8),(114:UInt8)].toList] fun x_2 y=>Aa (isG x_2.1.sg (xh x_2) (1:Int) x_2.2.2.2.2.2) (cA Gp [srd x_2.1 (Bw x_2.1.sg (xh x_2) x_2.2.2.2.2.2)] fun x_3 y=>rA IY x [.int .i64 y.1,srd x_3.1 (yG y.2),.top]) (cA Cm [srd x_2.1 (Bw x_2.1.sg (xh x_2) x_2.2.2.2.2.2),.int .i64 (1:Int)] fun x_3 y=>cA FK [srd x_3.1 (Bf x_3.1.sg (xh x_3) x_3.2.2.2.2.2)] fun x_4 y=>cA Ld [srd x_4.1 (yG y.2)] fun x_5 y_1=>∃(x_6:Int),y_1.1=x_6∧∃(zs:List Int),Ae [x_6]=Ae zs∧BG Bh∧Bb (List.length y.1+List.length zs) (8:Nat)∧cA Bm [srd x_5.1 (yG y_1.2),.int .i64 (20:Int),.str (Bv x_3.1.sg (xh x_3) x_3.2.2.2.2.2),Ae (y.1++zs)] fun x_7 y=>rA IY x [.int .i64 (AU (xh x_7)),srd x_7.1 (Aq (xh x_7) {kind:=x_7.2.2.2.2.2.1,text:=x_7.2.2.2.2.2.2.1,kids:=x_7.2.2.2.2.2.2.2,blank:=false}),.top]))) (fun x=>by kernel_rfl) fun(x:ST×Int×Int×Bool×List Nd) (hx:okQ x.1 (xg x)∧(xg x).bad=false)=>(by
 dsimp only[cA,Bt,Ae,AY,rA,Ld,DK,IY,FK,Bm,Cm,Gp,Eu,CG,sgs,srd,Av,AA,mvL,lnL,mvE,lnE]
 obtain⟨s,p,d,b,ns⟩:=x;dsimp only[xg,xh] at hx ⊢
 obtain⟨hx,hb⟩:=hx
 have hx:okQ s ⟨p,d,b,ns⟩:=hx
 have hD:=Eh hx;have hM:=ML hx;have h1:=hD.1;have hs:=h1.1
 (repeat' first|(with_reducible first|rfl|exact True.intro|apply AL|apply And.intro|((first|apply AB|apply AJ|apply AC|apply AK)<;>intro _))|(apply Az<;>intro _)|apply AI|refine Ag () ?_ ?_|((first|apply AP|apply AO|apply AN|apply AM|apply AH|apply AG|apply AF|apply AE|apply AD)<;>try dsimp only)|apply Ag|(refine Prod.forall.2 ?_;intro _;try dsimp only)|(intro _;try dsimp only))
 all_goals(try dsimp only[xg,xh,yG,yS,iG,iF] at*)
 all_goals(try simp only[FH] at*)
 all_goals(try(have e:=IV (show isG s.sg ⟨p,d,b,ns⟩ 1 [118,97,114]=false by assumption);simp only[e] at*))
 all_goals(try(have e:=IW (show isG s.sg ⟨p,d,b,ns⟩ 1 [118,97,114]=true by assumption);simp only[e] at*))
 all_goals first
  |rfl
  |exact h1
  |omega
  |contradiction
  |exact b5i hx ‹_›
  |exact GW h1 (by omega)
  |exact FL hx ‹_›
  |exact b5k hx ‹_› ‹_› ‹_›
  |exact a2o hx ‹_›
  |exact EH h1 ‹_›
  |exact b5m hx ‹_› ‹_› (a2p hx ‹_› ‹_›)
  |(have hq:=Vb hs (show vlQ _ _ _ [] _ _ by assumption);(try simp only[Bb,List.length_append,List.length_cons,List.length_nil] at*);omega)
  |skip)
def HE:Sig:= {X:=ST×Int×Int×Bool×List Nd,args:=fun x=>[srd x.1 (xg x),.bool true],pre:=fun x=>okQ x.1 (xg x)∧(xg x).bad=false,Y:=Int×Int×Int×Bool×List Nd,post:=fun x y=>Ah x.1.sg (xg x) (Dh x.1.sg false) (yS y),res:=fun x y=> .int .i64 y.1,outs:=fun x y=>[srd x.1 (yG y.2),.top],keep:=true}
def OU(x:ST×Int×Int×Bool×List Nd):LS:= {ι:=Int×Int×Bool×List Nd×List Int×Nat,inv:=fun i=>clS x.1.sg (xg x) (iG i) i.2.2.2.2.1 i.2.2.2.2.2,regs:=fun i=>[(0,srd x.1 (iG i)),(5,.str (Bv x.1.sg (As (xg x)) 1)),(6,Ae i.2.2.2.2.1)],als:=[],meas:=fun i=>i.2.2.2.2.2}
theorem b5r:Al G Tryz.prog 115 HE:=
 vcFun_okP [(137,0,DK),(138,0,Cm),(117,0,Bm),(139,0,Eu),(140,0,Gp),(141,0,BF),(142,0,BQ),(114,0,Fm),(115,0,IY),(116,0,DR),(143,0,FK),(144,0,Ld)] [(26,⟨Int,Bh⟩)] false (fun x=>[(9,OU x)]) Tryz.func115 rfl (by decide) ⟨Rl,JI,GV,UM,Vt,Hy,GU,Rm,b5q,Rn,UY,a2n,trivial⟩ (fun(x:ST×Int×Int×Bool×List Nd)=>True∧cA DK [srd x.1 (xg x),.int .i64 (5:Int)] fun x_1 y=>Aa (kdG x_1.1.sg (xh x_1) x_1.2.2.2.2.2) (cA Cm [srd x_1.1 (xh x_1),.int .i64 (5:Int)] fun x_2 y=>cA Bm [srd x_2.1 (Bf x_2.1.sg (xh x_2) x_2.2.2.2.2.2),.int .i64 (19:Int),.str (Bv x_2.1.sg (xh x_2) x_2.2.2.2.2.2),Ae []] fun x_3 y=>rA HE x [.int .i64 (AU (xh x_3)),srd x_3.1 (Aq (xh x_3) {kind:=x_3.2.2.2.2.2.1,text:=x_3.2.2.2.2.2.2.1,kids:=x_3.2.2.2.2.2.2.2,blank:=false}),.top]) (cA Eu [srd x_1.1 (xh x_1),.str #[(118:UInt8),(97:UInt8),(114:UInt8)].toList] fun x_2 y=>Aa (isG x_2.1.sg (xh x_2) (1:Int) x_2.2.2.2.2.2) (cA Gp [srd x_2.1 (Bw x_2.1.sg (xh x_2) x_2.2.2.2.2.2)] fun x_3 y=>rA HE x [.int .i64 y.1,srd x_3.1 (yG y.2),.top]) (cA Eu [srd x_2.1 (Bw x_2.1.sg (xh x_2) x_2.2.2.2.2.2),.str #[(99:UInt8),(108:UInt8),(97:UInt8),(115:UInt8),(115:UInt8)].toList] fun x_3 y=>Aa (isG x_3.1.sg (xh x_3) (1:Int) x_3.2.2.2.2.2) (cA Cm [srd x_3.1 (Bw x_3.1.sg (xh x_3) x_3.2.2.2.2.2),.int .i64 (1:Int)] fun x_4 y=>cA BF [srd x_4.1 (Bf x_4.1.sg (xh x_4) x_4.2.2.2.2.2),.str #[(123:UInt8)].toList] fun x_5 y=>eA (OU x) [srd x_5.1 (Au x_5.1.sg (xh x_5) x_5.2.2.2.2.2),.str (Bv x_4.1.sg (xh x_4) x_4.2.2.2.2.2),Ae []]∧∀(i:Int×Int×Bool×List Nd×List Int×Nat),clS x.1.sg (xg x) (iG i) i.2.2.2.2.1 i.2.2.2.2.2→Aa (!(iG i).bad) (cA BQ [srd x.1 (iG i),.str #[(125:UInt8)].toList] fun x_6 y=>Aa (!isG x_6.1.sg (xh x_6) (4:Int) x_6.2.2.2.2.2) (cA Fm [srd x_6.1 (Aw x_6.1.sg (xh x_6) x_6.2.2.2.2.2)] fun x_7 y=>Aa (blG x_7.1.sg (xg x_7)) (cA IY [srd x_7.1 (xg x_7),.bool false] fun x_8 y=>cA DR [srd x_8.1 (yG y.2),.int .i64 y.1,.bool (decide ((↑(List.length i.2.2.2.2.1):Int)>(0:Int)))] fun x_9 y_1=>∃(x_10:Int),y.1=x_10∧∃(zs:List Int),Ae [x_10]=Ae zs∧BG Bh∧Bb (List.length i.2.2.2.2.1+List.length zs) (8:Nat)∧eN (OU x) i [srd x_9.1 (gBl (xh x_9) x_9.2.2.2.2.2.1 x_9.2.2.2.2.2.2),.str (Bv x.1.sg (As (xg x)) (1:Int)),Ae (i.2.2.2.2.1++zs)]) (cA IY [srd x_7.1 (xg x_7),.bool false] fun x_8 y=>cA DR [srd x_8.1 (yG y.2),.int .i64 y.1,.bool false] fun x_9 y_1=>∃(x_10:Int),y.1=x_10∧∃(zs:List Int),Ae [x_10]=Ae zs∧BG Bh∧Bb (List.length i.2.2.2.2.1+List.length zs) (8:Nat)∧eN (OU x) i [srd x_9.1 (gBl (xh x_9) x_9.2.2.2.2.2.1 x_9.2.2.2.2.2.2),.str (Bv x.1.sg (As (xg x)) (1:Int)),Ae (i.2.2.2.2.1++zs)])) (cA Bm [srd x_6.1 (Aw x_6.1.sg (xh x_6) x_6.2.2.2.2.2),.int .i64 (21:Int),.str (Bv x.1.sg (As (xg x)) (1:Int)),Ae i.2.2.2.2.1] fun x_7 y=>rA HE x [.int .i64 (AU (xh x_7)),srd x_7.1 (Aq (xh x_7) {kind:=x_7.2.2.2.2.2.1,text:=x_7.2.2.2.2.2.2.1,kids:=x_7.2.2.2.2.2.2.2,blank:=false}),.top])) (cA Bm [srd x.1 (iG i),.int .i64 (21:Int),.str (Bv x.1.sg (As (xg x)) (1:Int)),Ae i.2.2.2.2.1] fun x_6 y=>rA HE x [.int .i64 (AU (xh x_6)),srd x_6.1 (Aq (xh x_6) {kind:=x_6.2.2.2.2.2.1,text:=x_6.2.2.2.2.2.2.1,kids:=x_6.2.2.2.2.2.2.2,blank:=false}),.top])) (cA Cm [srd x_3.1 (Bw x_3.1.sg (xh x_3) x_3.2.2.2.2.2),.int .i64 (1:Int)] fun x_4 y=>cA FK [srd x_4.1 (Bf x_4.1.sg (xh x_4) x_4.2.2.2.2.2)] fun x_5 y=>cA Ld [srd x_5.1 (yG y.2)] fun x_6 y_1=>∃(x_7:Int),y_1.1=x_7∧∃(zs:List Int),Ae [x_7]=Ae zs∧BG Bh∧Bb (List.length y.1+List.length zs) (8:Nat)∧cA Bm [srd x_6.1 (yG y_1.2),.int .i64 (20:Int),.str (Bv x_4.1.sg (xh x_4) x_4.2.2.2.2.2),Ae (y.1++zs)] fun x_8 y=>rA HE x [.int .i64 (AU (xh x_8)),srd x_8.1 (Aq (xh x_8) {kind:=x_8.2.2.2.2.2.1,text:=x_8.2.2.2.2.2.2.1,kids:=x_8.2.2.2.2.2.2.2,blank:=false}),.top])))) (fun x=>by kernel_rfl) fun(x:ST×Int×Int×Bool×List Nd) (hx:okQ x.1 (xg x)∧(xg x).bad=false)=>(by
 dsimp only[cA,eA,eN,OU,Bt,Ae,AY,rA,Ld,Fm,DR,DK,BQ,HE,IY,FK,Bm,Cm,Gp,BF,Eu,CG,sgs,srd,Av,AA,mvL,lnL,mvE,lnE,Bi]
 obtain⟨s,p,d,b,ns⟩:=x;dsimp only[xg,xh] at hx ⊢
 obtain⟨hx,hb⟩:=hx
 have hx:okQ s ⟨p,d,b,ns⟩:=hx
 have hD:=Eh hx;have hM:=ML hx;have h1:=hD.1;have hs:=h1.1
 (repeat' first|(with_reducible first|rfl|exact True.intro|apply AL|apply And.intro|((first|apply AB|apply AJ|apply AC|apply AK)<;>intro _))|(apply Az<;>intro _)|apply AI|refine Ag () ?_ ?_|((first|apply AP|apply AO|apply AN|apply AM|apply AH|apply AG|apply AF|apply AE|apply AD)<;>try dsimp only)|apply Ag|(refine Prod.forall.2 ?_;intro _;try dsimp only)|(intro _;try dsimp only))
 all_goals(try dsimp only[xg,xh,yG,yS,iG,iF] at*)
 all_goals(try simp only[FH] at*)
 all_goals first
  |(show Nat;skip)
  |exact b5e hx ‹_› ‹_›
  |exact(JL ‹_› ‹_› ‹_› ‹_› (JG ‹_›)).1
  |exact(JL ‹_› ‹_› ‹_› ‹_› (JH ‹_›)).1
  |skip
 all_goals(try(first|exact(JL ‹_› ‹_› ‹_› ‹_› (JG ‹_›)).2|exact(JL ‹_› ‹_› ‹_› ‹_› (JH ‹_›)).2))
 all_goals(try(have e:=IV (show isG s.sg ⟨p,d,b,ns⟩ 1 [118,97,114]=false by assumption);simp only[e] at*))
 all_goals(try(have e:=IW (show isG s.sg ⟨p,d,b,ns⟩ 1 [118,97,114]=true by assumption);simp only[e] at*))
 all_goals(try(have e:=IV (show isG s.sg ⟨p,d,b,ns⟩ 1 [99,108,97,115,115]=false by assumption);simp only[e] at*))
 all_goals(try(have e:=IW (show isG s.sg ⟨p,d,b,ns⟩ 1 [99,108,97,115,115]=true by assumption);simp only[e] at*))
 all_goals(try(have hw:=FL hx (show isG s.sg ⟨p,d,b,ns⟩ 1 [99,108,97,115,115]=true by assumption)))
 all_goals first
  |(show Nat;skip)
  |rfl
  |exact h1
  |omega
  |contradiction
  |exact b5j hx ‹_›
  |exact GW h1 (by omega)
  |exact FL hx ‹_›
  |exact b5l hx ‹_› ‹_› ‹_›
  |exact a2o hx ‹_›
  |exact(Eh hw).1
  |exact(b5f hw).1
  |exact a2q hw
  |exact(Eh (Vu hw ‹_›)).1
  |exact(a2r hw ‹_› ‹_› ‹_›).1
  |exact(a2r hw ‹_› ‹_› ‹_›).2
  |exact EX (Eh (Vu hw ‹_›)).1
  |exact EH h1 ‹_›
  |exact MJ Vl ‹_›
  |exact MJ Vl ‹_› ‹_›
  |exact(JL ‹_› ‹_› ‹_› ‹_› (JG ‹_›)).1
  |exact(JL ‹_› ‹_› ‹_› ‹_› (JH ‹_›)).1
  |exact a2t hx ‹_› ‹_› ‹_› (b5g hw ‹_› ‹_›)
  |exact a2t hx ‹_› ‹_› ‹_› (b5h hw ‹_› ‹_›)
  |exact b5n hx ‹_› ‹_› ‹_› (a2p hx ‹_› ‹_›)
  |(have hq:=Vb hs (show vlQ _ _ _ [] _ _ by assumption);(try simp only[Bb,List.length_append,List.length_cons,List.length_nil] at*);omega)
  |(have hq:=Vv hw (show clS _ _ _ _ _ by assumption);(try simp only[Bb,List.length_append,List.length_cons,List.length_nil]);omega)
  |skip
 all_goals first
  |exact(JL ‹_› ‹_› ‹_› ‹_› (JG ‹_›)).2
  |exact(JL ‹_› ‹_› ‹_› ‹_› (JH ‹_›)).2
  |skip)
end Go.My
end
section
set_option linter.unusedVariables false
set_option linter.unusedSimpArgs false
namespace Go.My
open Go.Eng Go.Proofs
variable {G:GInv}
theorem a2v{c:UInt8}(h1:Cg c=false)(h2:Bn c=false):BB c=false:=by simp [BB,h1,h2]
theorem b5s{c:UInt8}(h1:Cg c=true):BB c=true:=by simp [BB,h1]
theorem b5t{c:UInt8}(h1:Bn c=true):BB c=true:=by simp [BB,h1]
theorem b5u{s:List UInt8}:Ck s≤s.length:=by
 unfold Ck
 cases h:Dw isQ (s.drop 1) with
 |none=>simp
 |some i=>
  simp only
  split
  ·have:=TR h;simp at this;omega
  ·omega
theorem b5v{s:List UInt8}:Cf s≤s.length:=by
 unfold Cf
 split
 ·split
  ·exact Rf
  ·omega
 ·omega
theorem b5w{s:List UInt8}:(Fl s).length≤2:=by
 rw[a1t]
 split
 ·simp;omega
 ·split
  ·simp;omega
  ·simp
theorem b5x{x:List UInt8×Int}(h0:0≤x.2)(h1:x.2<x.1.length):(Cf (x.1.drop x.2.toNat):Int)≤x.1.length-x.2∧(Ck (x.1.drop x.2.toNat):Int)≤x.1.length-x.2:=by
 have a:= @b5v (x.1.drop x.2.toNat);have b:= @b5u (x.1.drop x.2.toNat)
 simp at a b;omega
theorem a2w{x:List UInt8×Int}{i:Int}{c d e:UInt8}(h0:0≤x.2)(hf:Cg c=false)(hc:x.1[x.2.toNat]? =some c)(hg:Bn d=true)(hd:x.1[x.2.toNat]? =some d)(h:rwI Bn x i)(hz:Bn e=false)(he:x.1[i.toNat]? =some e):
 (i-x.2>12→sgR x 0 [] 0 false 0)∧(¬i-x.2>12→sgR x 2 (List.drop (Int.toNat x.2) (List.take (Int.toNat i) x.1)) x.2 false (i-x.2)):=by
 rw[hc] at hd;cases hd
 exact OM h0 hc hf hg h (.inr ⟨_,he,hz⟩)
theorem a2x{t:List UInt8}{i br:Int}{l:List Sg}{n:Nat}{c c2:UInt8}{k p m:Int}{tx:List UInt8}{b:Bool}(h32:(c.toNat:Int)≠32)(hc:t[i.toNat]? =some c)(h10:(c2.toNat:Int)≠10)(hc2:t[i.toNat]? =some c2)(h:sgJ t i br l n)(hi:i<t.length)(hs:sgR (t,i) k tx p b m)(hm:m≠0):
 sgJ t (i+m) 0 (l++[⟨k,tx,p,decide (br>1)⟩]) (n-1)∧n-1<n:=by
 rw[hc] at hc2;cases hc2
 rcases hs with⟨h1,⟨rfl,rfl,rfl,rfl⟩,rfl⟩|hs
 ·exact b2I hc h hi (by omega) (by omega) h1
 ·exact(hm hs.2).elim
theorem a2y{t:List UInt8}{i br:Int}{l:List Sg}{n:Nat}{c c2:UInt8}{k p m:Int}{tx:List UInt8}{b:Bool}(h32:(c.toNat:Int)≠32)(hc:t[i.toNat]? =some c)(h10:(c2.toNat:Int)≠10)(hc2:t[i.toNat]? =some c2)(h:sgJ t i br l n)(hi:i<t.length)(hs:sgR (t,i) k tx p b m)(hm:m=0):Cw t=none:=by
 rw[hc] at hc2;cases hc2
 rcases hs with⟨h1,_,h2⟩|hs
 ·have a:=(a1j h1).1;rw[hm] at h2;rw[←h2] at a;omega
 ·exact b2J hc h hi (by omega) (by omega) hs.1
theorem b5y{t:List UInt8}{i br:Int}{l:List Sg}{n:Nat}{k p m:Int}{tx:List UInt8}{b:Bool}(h:sgJ t i br l n)(hs:sgR (t,i) k tx p b m):0≤m∧m≤t.length-i:=by
 rcases hs with⟨h1,_,h2⟩|hs
 ·have a:=a1m h h1;simp only at h2;omega
 ·have:=MB h;omega
attribute [local irreducible] rwI sgR Be Cf Ck Fl
def RF:Sig:= {X:=List UInt8×Int,args:=fun x=>[.str x.1,.int .i64 x.2],pre:=fun x=>0≤x.2∧x.2<x.1.length∧x.1.length<2^62,Y:=Int×List UInt8×Int×Bool×Int,post:=fun x y=>sgR x y.1 y.2.1 y.2.2.1 y.2.2.2.1 y.2.2.2.2,res:=fun x y=> .tup [.agg [.int .i64 y.1,.str y.2.1,.int .i64 y.2.2.1,.bool y.2.2.2.1],.int .i64 y.2.2.2.2],outs:=fun x y=>[.top,.top],keep:=false}
def OV(x:List UInt8×Int):LS:= {ι:=Int,inv:=fun i=>rwI BB x i,regs:=fun i=>[(0,.str x.1),(1,.int .i64 x.2),(4,.box 0 [.int .i64 0,.str [],.int .i64 0,.bool false]),(6,.int .i64 i)],als:=[],meas:=fun i=>x.1.length-i.toNat}
def RG(x:List UInt8×Int):LS:= {ι:=Int,inv:=fun i=>rwI Bn x i,regs:=fun i=>[(0,.str x.1),(1,.int .i64 x.2),(4,.box 0 [.int .i64 0,.str [],.int .i64 0,.bool false]),(6,.int .i64 i)],als:=[],meas:=fun i=>x.1.length-i.toNat}
theorem b5z:Al G Tryz.prog 136 RF:=
 vcFun_okP [(134,0,FY),(135,0,HO),(124,0,ED),(126,0,Fe),(133,0,Ho),(170,0,KW)] [] false (fun x=>[(6,OV x),(12,RG x)]) Tryz.func136 rfl (by decide) ⟨XY,XU,XF,TQ,XX,b3a,trivial⟩ (fun(x:List UInt8×Int)=>(∀(y:Int×List UInt8×Int×Bool×Int),sgR x y.1 y.2.1 y.2.2.1 y.2.2.2.1 y.2.2.2.2→((True∧True∧True∧True∧True)∧True∧True)∧True∧True∧True)∧cA FY [.str x.1,.int .i64 x.2] fun x_1 y=>Aa (decide ((↑(Cf (List.drop (Int.toNat x_1.2) x_1.1)):Int)>(0:Int))) (inR IntKind.i64 (x.2+(↑(Cf (List.drop (Int.toNat x_1.2) x_1.1)):Int))∧((0:Int)≤x.2∧x.2≤x.2+(↑(Cf (List.drop (Int.toNat x_1.2) x_1.1)):Int)∧x.2+(↑(Cf (List.drop (Int.toNat x_1.2) x_1.1)):Int)≤(↑(List.length x.1):Int))∧cA HO [.str (List.drop (Int.toNat x.2) (List.take (Int.toNat (x.2+(↑(Cf (List.drop (Int.toNat x_1.2) x_1.1)):Int))) x.1))] fun x_2 y=>∃(y:Int×List UInt8×Int×Bool×Int),sgR x y.1 y.2.1 y.2.2.1 y.2.2.2.1 y.2.2.2.2∧(5:Int)=y.1∧Cp x_2=y.2.1∧x.2=y.2.2.1∧false=y.2.2.2.1∧(↑(Cf (List.drop (Int.toNat x_1.2) x_1.1)):Int)=y.2.2.2.2∧True) (((0:Int)≤x.2∧x.2<(↑(List.length x.1):Int))∧∀(c:UInt8),x.1[Int.toNat x.2]? =some c→cA ED [AV.int IntKind.u8 (↑(UInt8.toNat c):Int)] fun x_2 y=>Aa (Cg x_2) (eA (OV x) [.str x.1,.int .i64 x.2,.box 0 [.int .i64 (0:Int),.str #[].toList,.int .i64 (0:Int),.bool false],.int .i64 x.2]∧∀(i:Int),rwI BB x i→Aa (decide (i<(↑(List.length x.1):Int))) (((0:Int)≤i∧i<(↑(List.length x.1):Int))∧∀(c:UInt8),x.1[Int.toNat i]? =some c→cA ED [AV.int IntKind.u8 (↑(UInt8.toNat c):Int)] fun x_3 y=>Aa (Cg x_3) (inR IntKind.i64 (i+(1:Int))∧eN (OV x) i [.str x.1,.int .i64 x.2,.box 0 [.int .i64 (0:Int),.str [],.int .i64 (0:Int),.bool false],.int .i64 (i+(1:Int))]) (((0:Int)≤i∧i<(↑(List.length x.1):Int))∧∀(c:UInt8),x.1[Int.toNat i]? =some c→cA Fe [AV.int IntKind.u8 (↑(UInt8.toNat c):Int)] fun x_4 y=>Aa (Bn x_4) (inR IntKind.i64 (i+(1:Int))∧eN (OV x) i [.str x.1,.int .i64 x.2,.box 0 [.int .i64 (0:Int),.str [],.int .i64 (0:Int),.bool false],.int .i64 (i+(1:Int))]) (inR IntKind.i64 (i-x.2)∧Aa (decide (i-x.2>(30:Int))) (∃(y:Int×List UInt8×Int×Bool×Int),sgR x y.1 y.2.1 y.2.2.1 y.2.2.2.1 y.2.2.2.2∧(0:Int)=y.1∧ #[].toList=y.2.1∧(0:Int)=y.2.2.1∧false=y.2.2.2.1∧(0:Int)=y.2.2.2.2∧True) (((0:Int)≤x.2∧x.2≤i∧i≤(↑(List.length x.1):Int))∧inR IntKind.i64 (i-x.2)∧∃(y:Int×List UInt8×Int×Bool×Int),sgR x y.1 y.2.1 y.2.2.1 y.2.2.2.1 y.2.2.2.2∧(1:Int)=y.1∧List.drop (Int.toNat x.2) (List.take (Int.toNat i) x.1)=y.2.1∧x.2=y.2.2.1∧false=y.2.2.2.1∧i-x.2=y.2.2.2.2∧True)))) (inR IntKind.i64 (i-x.2)∧Aa (decide (i-x.2>(30:Int))) (∃(y:Int×List UInt8×Int×Bool×Int),sgR x y.1 y.2.1 y.2.2.1 y.2.2.2.1 y.2.2.2.2∧(0:Int)=y.1∧ #[].toList=y.2.1∧(0:Int)=y.2.2.1∧false=y.2.2.2.1∧(0:Int)=y.2.2.2.2∧True) (((0:Int)≤x.2∧x.2≤i∧i≤(↑(List.length x.1):Int))∧inR IntKind.i64 (i-x.2)∧∃(y:Int×List UInt8×Int×Bool×Int),sgR x y.1 y.2.1 y.2.2.1 y.2.2.2.1 y.2.2.2.2∧(1:Int)=y.1∧List.drop (Int.toNat x.2) (List.take (Int.toNat i) x.1)=y.2.1∧x.2=y.2.2.1∧false=y.2.2.2.1∧i-x.2=y.2.2.2.2∧True))) (((0:Int)≤x.2∧x.2<(↑(List.length x.1):Int))∧∀(c:UInt8),x.1[Int.toNat x.2]? =some c→cA Fe [AV.int IntKind.u8 (↑(UInt8.toNat c):Int)] fun x_3 y=>Aa (Bn x_3) (eA (RG x) [.str x.1,.int .i64 x.2,.box 0 [.int .i64 (0:Int),.str #[].toList,.int .i64 (0:Int),.bool false],.int .i64 x.2]∧∀(i:Int),rwI Bn x i→Aa (decide (i<(↑(List.length x.1):Int))) (((0:Int)≤i∧i<(↑(List.length x.1):Int))∧∀(c:UInt8),x.1[Int.toNat i]? =some c→cA Fe [AV.int IntKind.u8 (↑(UInt8.toNat c):Int)] fun x_4 y=>Aa (Bn x_4) (inR IntKind.i64 (i+(1:Int))∧eN (RG x) i [.str x.1,.int .i64 x.2,.box 0 [.int .i64 (0:Int),.str [],.int .i64 (0:Int),.bool false],.int .i64 (i+(1:Int))]) (inR IntKind.i64 (i-x.2)∧Aa (decide (i-x.2>(12:Int))) (∃(y:Int×List UInt8×Int×Bool×Int),sgR x y.1 y.2.1 y.2.2.1 y.2.2.2.1 y.2.2.2.2∧(0:Int)=y.1∧ #[].toList=y.2.1∧(0:Int)=y.2.2.1∧false=y.2.2.2.1∧(0:Int)=y.2.2.2.2∧True) (((0:Int)≤x.2∧x.2≤i∧i≤(↑(List.length x.1):Int))∧inR IntKind.i64 (i-x.2)∧∃(y:Int×List UInt8×Int×Bool×Int),sgR x y.1 y.2.1 y.2.2.1 y.2.2.2.1 y.2.2.2.2∧(2:Int)=y.1∧List.drop (Int.toNat x.2) (List.take (Int.toNat i) x.1)=y.2.1∧x.2=y.2.2.1∧false=y.2.2.2.1∧i-x.2=y.2.2.2.2∧True))) (inR IntKind.i64 (i-x.2)∧Aa (decide (i-x.2>(12:Int))) (∃(y:Int×List UInt8×Int×Bool×Int),sgR x y.1 y.2.1 y.2.2.1 y.2.2.2.1 y.2.2.2.2∧(0:Int)=y.1∧ #[].toList=y.2.1∧(0:Int)=y.2.2.1∧false=y.2.2.2.1∧(0:Int)=y.2.2.2.2∧True) (((0:Int)≤x.2∧x.2≤i∧i≤(↑(List.length x.1):Int))∧inR IntKind.i64 (i-x.2)∧∃(y:Int×List UInt8×Int×Bool×Int),sgR x y.1 y.2.1 y.2.2.1 y.2.2.2.1 y.2.2.2.2∧(2:Int)=y.1∧List.drop (Int.toNat x.2) (List.take (Int.toNat i) x.1)=y.2.1∧x.2=y.2.2.1∧false=y.2.2.2.1∧i-x.2=y.2.2.2.2∧True))) (((0:Int)≤x.2∧x.2<(↑(List.length x.1):Int))∧∀(c:UInt8),x.1[Int.toNat x.2]? =some c→Aa ((↑(UInt8.toNat c):Int)==(39:Int)) (cA Ho [.str x.1,.int .i64 x.2] fun x_4 y=>inR IntKind.i64 (x.2+(↑(Ck (List.drop (Int.toNat x_4.2) x_4.1)):Int))∧((0:Int)≤x.2∧x.2≤x.2+(↑(Ck (List.drop (Int.toNat x_4.2) x_4.1)):Int)∧x.2+(↑(Ck (List.drop (Int.toNat x_4.2) x_4.1)):Int)≤(↑(List.length x.1):Int))∧∃(y:Int×List UInt8×Int×Bool×Int),sgR x y.1 y.2.1 y.2.2.1 y.2.2.2.1 y.2.2.2.2∧(3:Int)=y.1∧List.drop (Int.toNat x.2) (List.take (Int.toNat (x.2+(↑(Ck (List.drop (Int.toNat x_4.2) x_4.1)):Int))) x.1)=y.2.1∧x.2=y.2.2.1∧false=y.2.2.2.1∧(↑(Ck (List.drop (Int.toNat x_4.2) x_4.1)):Int)=y.2.2.2.2∧True) (cA KW [.str x.1,.int .i64 x.2] fun x_4 y=>∃(y:Int×List UInt8×Int×Bool×Int),sgR x y.1 y.2.1 y.2.2.1 y.2.2.2.1 y.2.2.2.2∧(4:Int)=y.1∧Fl (List.drop (Int.toNat x_4.2) x_4.1)=y.2.1∧x.2=y.2.2.1∧false=y.2.2.2.1∧(↑(List.length (Fl (List.drop (Int.toNat x_4.2) x_4.1))):Int)=y.2.2.2.2∧True))))) (fun x=>by kernel_rfl) fun(x:List UInt8×Int) (hx:0≤x.2∧x.2<x.1.length∧x.1.length<2^62)=>(by
 dsimp only[cA,eA,eN,RG,OV,Fe,ED,FY,Ho,KW,HO,Av,AA,mvL,lnL,mvE,lnE,Bi]
 obtain⟨h1,h2,h3⟩:=hx
 have hn:=b5x h1 h2
 (repeat' first|(with_reducible first|rfl|exact True.intro|apply AL|apply And.intro|((first|apply AB|apply AJ|apply AC|apply AK)<;>intro _))|(apply Az<;>intro _)|apply AI|refine Ag () ?_ ?_|((first|apply AP|apply AO|apply AN|apply AM|apply AH|apply AG|apply AF|apply AE|apply AD)<;>try dsimp only)|apply Ag|(refine Prod.forall.2 ?_;intro _;try dsimp only)|(intro _;try dsimp only))
 all_goals(try((repeat(rename x.1[_]? =some _=>hq;revert hq;rename x.1[_]? =some _=>hr;intro hq;rw[hr] at hq;cases hq))))
 all_goals first
  |rfl
  |omega
  |exact b3d h1 ‹_›
  |exact b3b (by omega)
  |exact UK h1 ‹_› ‹_› ‹_› (b5s ‹_›)
  |exact UK h1 ‹_› ‹_› ‹_› (b5t ‹_›)
  |exact UK h1 ‹_› ‹_› ‹_› ‹_›
  |exact(Rj h1 ‹_› ‹_› ‹_› (.inl ‹_›)).1 ‹_›
  |exact(Rj h1 ‹_› ‹_› ‹_› (.inl ‹_›)).2 ‹_›
  |exact(Rj h1 ‹_› ‹_› ‹_› (.inr ⟨_,by assumption,a2v ‹_› ‹_›⟩)).1 ‹_›
  |exact(Rj h1 ‹_› ‹_› ‹_› (.inr ⟨_,by assumption,a2v ‹_› ‹_›⟩)).2 ‹_›
  |exact(OM h1 ‹_› ‹_› ‹_› ‹_› (.inl ‹_›)).1 ‹_›
  |exact(OM h1 ‹_› ‹_› ‹_› ‹_› (.inl ‹_›)).2 ‹_›
  |exact(OM h1 ‹_› ‹_› ‹_› ‹_› (.inr ⟨_,by assumption,by assumption⟩)).1 ‹_›
  |exact(OM h1 ‹_› ‹_› ‹_› ‹_› (.inr ⟨_,by assumption,by assumption⟩)).2 ‹_›
  |exact(a2w h1 ‹_› ‹_› ‹_› ‹_› ‹_› ‹_› ‹_›).1 ‹_›
  |exact(a2w h1 ‹_› ‹_› ‹_› ‹_› ‹_› ‹_› ‹_›).2 ‹_›
  |exact b3f h1 ‹_› ‹_› ‹_› ‹_›
  |exact b3g h1 ‹_› ‹_› ‹_› ‹_› ‹_›
  |(have hq:=b3c (show rwI _ _ _ by assumption);(try simp only[AR]);omega)
  |(have hq:= @b5w (x.1.drop x.2.toNat);(try simp only[AR]);omega)
  |(simp only[List.length_drop,List.length_take];omega)
  |skip)
attribute [local irreducible] sgJ Cw
def JM:Sig:= {X:=List UInt8,args:=fun x=>[.str x],pre:=fun x=>x.length<2^62,Y:=List Sg×Int,post:=fun x y=>sgQ x y.1,res:=fun x y=> .tup [sgs y.1,.int .i64 y.2,.bool (Cw x).isSome],outs:=fun x y=>[.top],keep:=true}
def MN(x:List UInt8):LS:= {ι:=Int×Int×List Sg×Nat,inv:=fun i=>sgJ x i.1 i.2.1 i.2.2.1 i.2.2.2,regs:=fun i=>[(0,.str x),(5,GQ i.2.2.1),(6,.int .i64 i.1),(7,.int .i64 i.2.1)],als:=[],meas:=fun i=>i.2.2.2}
theorem b5A:Al G Tryz.prog 113 JM:=
 vcFun_okP [(136,0,RF)] [(95,⟨Sg,sgA⟩)] false (fun x=>[(6,MN x)]) Tryz.func113 rfl (by decide) ⟨b5z,trivial⟩ (fun(x:List UInt8)=>True∧Aa (decide ((↑(List.length x):Int)>(3000:Int))) (rA JM x [.tup [GQ [],.int .i64 (3000:Int),.bool false],.top]) (eA (MN x) [.str x,GQ [],.int .i64 (0:Int),.int .i64 (0:Int)]∧∀(i:Int×Int×List Sg×Nat),sgJ x i.1 i.2.1 i.2.2.1 i.2.2.2→Aa (decide (i.1<(↑(List.length x):Int))) (((0:Int)≤i.1∧i.1<(↑(List.length x):Int))∧∀(c:UInt8),x[Int.toNat i.1]? =some c→Aa ((↑(UInt8.toNat c):Int)==(32:Int)) (inR IntKind.i64 (i.1+(1:Int))∧eN (MN x) i [.str x,GQ i.2.2.1,.int .i64 (i.1+(1:Int)),.int .i64 i.2.1]) (((0:Int)≤i.1∧i.1<(↑(List.length x):Int))∧∀(c:UInt8),x[Int.toNat i.1]? =some c→Aa ((↑(UInt8.toNat c):Int)==(10:Int)) (inR IntKind.i64 (i.2.1+(1:Int))∧inR IntKind.i64 (i.1+(1:Int))∧eN (MN x) i [.str x,GQ i.2.2.1,.int .i64 (i.1+(1:Int)),.int .i64 (i.2.1+(1:Int))]) (cA RF [.str x,.int .i64 i.1] fun x_1 y=>Aa (y.2.2.2.2==(0:Int)) (rA JM x [.tup [GQ [],.int .i64 i.1,.bool false],.top]) (∃(x_2:Sg),y.1=x_2.kind∧y.2.1=x_2.text∧y.2.2.1=x_2.pos∧decide (i.2.1>(1:Int))=x_2.blank∧∃(zs:List Sg),GQ [x_2]=GQ zs∧BG sgA∧Bb (List.length i.2.2.1+List.length zs) (40:Nat)∧inR IntKind.i64 (i.1+y.2.2.2.2)∧eN (MN x) i [.str x,GQ (i.2.2.1++zs),.int .i64 (i.1+y.2.2.2.2),.int .i64 (0:Int)])))) (rA JM x [.tup [GQ i.2.2.1,.int .i64 (0:Int),.bool true],.top]))) (fun x=>by kernel_rfl) fun(x:List UInt8) (hx:x.length<2^62)=>(by
 dsimp only[cA,eA,eN,MN,GQ,rA,RF,JM,CG,sgs,Av,AA,mvL,lnL,mvE,lnE,Bi]
 have hx:x.length<2^62:=hx
 (repeat' first|(with_reducible first|rfl|exact True.intro|apply AL|apply And.intro|((first|apply AB|apply AJ|apply AC|apply AK)<;>intro _))|(apply Az<;>intro _)|apply AI|refine Ag () ?_ ?_|((first|apply AP|apply AO|apply AN|apply AM|apply AH|apply AG|apply AF|apply AE|apply AD)<;>try dsimp only)|apply Ag|(refine Prod.forall.2 ?_;intro _;try dsimp only)|(intro _;try dsimp only))
 all_goals first
  |(show Nat;skip)
  |rfl
  |exact b2H ‹_›
  |exact(Rg (a1o ‹_›)).2
  |exact(Rg (a1o ‹_›)).1.symm
  |exact(a1k ‹_› ‹_› ‹_› (by omega)).1
  |exact(a1l ‹_› ‹_› ‹_› (by omega)).1
  |exact(a2x ‹_› ‹_› ‹_› ‹_› ‹_› ‹_› ‹_› ‹_›).1
  |exact(Rg (a2y ‹_› ‹_› ‹_› ‹_› ‹_› ‹_› ‹_› ‹_›)).2
  |exact(Rg (a2y ‹_› ‹_› ‹_› ‹_› ‹_› ‹_› ‹_› ‹_›)).1.symm
  |exact(a1n ‹_› ‹_›).2
  |exact(a1n ‹_› ‹_›).1.symm
  |(have hq:=MB (show sgJ _ _ _ _ _ by assumption);(try simp only[AR]);omega)
  |(have hj:=(show sgJ _ _ _ _ _ by assumption);have hq:=MB hj;have hz:=b5y hj ‹_›;(try simp only[AR]);omega)
  |(have hq:=MB (show sgJ _ _ _ _ _ by assumption);(try simp only[Bb,List.length_append,List.length_cons,List.length_nil]);omega)
  |(simp [Bb];done)
  |skip
 all_goals first
  |exact(a1k ‹_› ‹_› ‹_› (by omega)).2
  |exact(a1l ‹_› ‹_› ‹_› (by omega)).2
  |exact(a2x ‹_› ‹_› ‹_› ‹_› ‹_› ‹_› ‹_› ‹_›).2
  |rfl
  |skip)
end Go.My
end
section
set_option linter.unusedVariables false
set_option linter.unusedSimpArgs false
namespace Go.My
open Go.Eng Go.Proofs
variable {G:GInv}
theorem b5B{s:List UInt8}:Cp s <+: s:=by
 have h:=List.dropWhile_suffix (fun c:UInt8=>decide (c.toNat=32)) (l:=s.reverse)
 unfold Cp
 rw[←List.reverse_suffix,List.reverse_reverse];exact h
theorem Vw{c:UInt8}{a s t:List UInt8}(h:t <+: c::s)(ht:t=a)(ha:a≠[]):a.head? =some c:=by
 subst ht
 match t with
 |[]=>exact(ha rfl).elim
 |d::r=>
  obtain⟨k,hk⟩:=h
  simp at hk
  simp [hk.1]
theorem b5C{s:List UInt8}(h:(Be s).ok=true)(ht:(Be s).text=[41]∨(Be s).text=[61,62]∨(Be s).text=[44]):(Be s).kind=4:=by
 match s with
 |[]=>cases h
 |b::s=>
  have key:∀t:List UInt8,t <+: b::s→(t=[41]∨t=[61,62]∨t=[44])→b=41∨b=61∨b=44:=by
   intro t hp ht
   rcases ht with ht|ht|ht
   ·have:=Vw hp ht (by simp);simp at this;exact .inl this.symm
   ·have:=Vw hp ht (by simp);simp at this;exact .inr (.inl this.symm)
   ·have:=Vw hp ht (by simp);simp at this;exact .inr (.inr this.symm)
  unfold Be at h ht ⊢
  simp only at h ht ⊢
  split
  ·rename_i hb
   rw[if_pos hb] at ht
   rcases key _ (List.takeWhile_prefix _) ht with rfl|rfl|rfl<;>exact absurd hb (by decide)
  ·rename_i hb
   rw[if_neg hb] at h ht
   split
   ·rename_i hb2
    rw[if_pos hb2] at ht
    rcases key _ (List.takeWhile_prefix _) ht with rfl|rfl|rfl<;>exact absurd hb2 (by decide)
   ·rename_i hb2
    rw[if_neg hb2] at h ht
    split
    ·rename_i hb3
     rw[if_pos hb3] at ht h
     simp only at ht h
     have hp:(Da (b::s)).1 <+: b::s:=by
      unfold Da;split
      ·exact List.nil_prefix
      ·exact List.take_prefix _ _
     rcases key _ hp ht with rfl|rfl|rfl<;>exact absurd hb3 (by decide)
    ·rename_i hb3
     rw[if_neg hb3] at h ht
     split
     ·rename_i hb4
      rw[if_pos hb4] at ht
      have hb5:b=47:=by
       cases s with
       |nil=>simp at hb4
       |cons c s=>simp at hb4;exact hb4.1
      rcases key _ (b5B.trans (List.takeWhile_prefix _)) ht with rfl|rfl|rfl<;>exact absurd hb5 (by decide)
     ·rename_i hb4
      rw[if_neg hb4] at h
      split
      ·rfl
      ·rename_i hb5
       rw[if_neg hb5] at h
       split
       ·rfl
       ·rename_i hb6
        rw[if_neg hb6] at h;cases h
theorem RH{t:List UInt8}:∀(n:Nat) (i br:Int) (l:List Sg),ET t n i br=some l→sgM l
 |0,_,_,_,h=>by cases h
 |n+1,i,br,l,h=>by
  rw[ET] at h
  split at h
  ·simp at h;subst h;intro e he;simp at he
  ·split at h
   ·exact RH n _ _ _ h
   ·split at h
    ·exact RH n _ _ _ h
    ·split at h
     ·rename_i hok
      rw[Option.map_eq_some_iff] at h
      obtain⟨l',h1,rfl⟩:=h
      intro e he ht
      simp only[List.mem_cons] at he
      rcases he with rfl|he
      ·exact b5C hok ht
      ·exact RH n _ _ _ h1 e he ht
     ·cases h
theorem b5D{t:List UInt8}{l:List Sg}(h:Cw t=some l):sgM l:=by
 rw[Cw] at h
 split at h
 ·cases h
 ·exact RH _ _ _ _ h
def frI(t:List UInt8)(l:List Sg)(y:Gs)(ks:List Int)(ms:List (Int×Int))(N:Nat):Prop:=(Cw t=some l∧sgB l)∧EW l y ks ms N
theorem b5E{t:List UInt8}{l:List Sg}(h:sgQ t l)(hn:(Cw t).isSome=true):frI t l ⟨0,0,false,[]⟩ [] [] (l.length+1):=⟨MC h hn,b2K⟩
theorem Vx{t:List UInt8}{s:ST}{y:Gs}{ks:List Int}{ms:List (Int×Int)}{N:Nat}(h:frI t s.sg y ks ms N):okQ s y:=⟨b2M h.1.2 h.2,b5D h.1.1⟩
theorem RI{t:List UInt8}{l:List Sg}{y:Gs}{ks:List Int}{ms:List (Int×Int)}{N:Nat}{b:Bool}{z:Int×Gs}(h:frI t l y ks ms N)(hb:y.bad=false)(hl:y.pos<l.length)(hz:Ah l y (Dh l false) z)(e:b=(blG l y&&decide (0<(ks.length:Int)))):
 frI t l (gBl z.2 z.1 b) (ks++[z.1]) (ms++[(y.pos,(gBl z.2 z.1 b).pos)]) (N-1)∧N-1<N:=by
 rw[Vo hb] at e
 have hz2:Ah l y (Dh l b) (z.1,gBl z.2 z.1 b):=Vn Vm hz
 obtain⟨a,c⟩:=b2L h.2 hb hl hz2 e
 exact⟨⟨h.1,a⟩,c⟩
theorem b5F{t:List UInt8}{l:List Sg}{y:Gs}{ks:List Int}{ms:List (Int×Int)}{N:Nat}(h:frI t l y ks ms N):ks.length≤3001∧0≤y.pos∧y.pos≤l.length:=by
 have:=a1p h.1.2 h.2;omega
def frE(l:List Sg)(y:Gs):Prop:=y.bad=true∨¬y.pos<l.length
theorem MO{l:List Sg}{y:Gs}(h:y.bad=true):frE l y:= .inl h
theorem MP{l:List Sg}{y:Gs}(h:¬y.pos<l.length):frE l y:= .inr h
theorem MQ:Bc []:=⟨by simp,by simp⟩
theorem RJ{t:List UInt8}{l:List Sg}{y:Gs}{ks:List Int}{ms:List (Int×Int)}{N:Nat}(h:frI t l y ks ms N):sgQ t l∧(Cw t).isSome=true:=⟨.inl h.1,by rw[h.1.1];rfl⟩
theorem RK{t:List UInt8}{l:List Sg}{y:Gs}{ks:List Int}{ms:List (Int×Int)}{N:Nat}(h:frI t l y ks ms N)(he:frE l y)(hb:(Aq y ⟨22,[],ks,false⟩).bad=true):CU t=none:=a1s (b2N (RJ h).1 (RJ h).2 ⟨h.2,he⟩ hb) hb
theorem JN{t:List UInt8}{l:List Sg}{y:Gs}{ks:List Int}{ms:List (Int×Int)}{N:Nat}(h:frI t l y ks ms N)(he:frE l y)(hb:(Aq y ⟨22,[],ks,false⟩).bad=false):
 (treeOk (Aq y ⟨22,[],ks,false⟩).nodes=false→CU t=none)∧(treeOk (Aq y ⟨22,[],ks,false⟩).nodes=true→CU t=some (Aq y ⟨22,[],ks,false⟩).nodes):=by
 have a:=b2O (RJ h).1 (RJ h).2 ⟨h.2,he⟩ hb
 refine⟨fun h2=>a1s a (by simp only[EI,h2];rfl),fun h2=>(b2P a (by simp only[EI,h2];rfl)).1⟩
theorem OW{t:List UInt8}{l:List Sg}{y:Gs}{ks:List Int}{ms:List (Int×Int)}{N:Nat}(h:frI t l y ks ms N):Bc (Aq y ⟨22,[],ks,false⟩).nodes∧(Aq y ⟨22,[],ks,false⟩).nodes.length≤1073741824∧0≤(Aq y ⟨22,[],ks,false⟩).pos:=by
 have a:=OC h.2.1 (a1r h.1.2 h.2)
 have b:=a1q a
 exact⟨b.1,by omega,a.1.1⟩
theorem a2z{t:List UInt8}(h:(Cw t).isSome=false):CU t=none:=by
 rw[CU]
 cases hs:Cw t with
 |none=>rfl
 |some l=>rw[hs] at h;cases h
theorem b5G{T0 T1 T2 T3:Type}{p q:ST×T0×T1×T2×T3→Prop}(a:List Sg)(v0:T0)(v1:T1)(v2:T2)(v3:T3)(h2:q (⟨a,0,[]⟩,v0,v1,v2,v3))(h1:p (⟨a,0,[]⟩,v0,v1,v2,v3)):∃x,p x∧q x:=⟨_,h1,h2⟩
theorem b5H{T0 T1 T2 T3 T4 T5:Type}{p q:ST×T0×T1×T2×T3×T4×T5→Prop}(a:List Sg)(v0:T0)(v1:T1)(v2:T2)(v3:T3)(v4:T4)(v5:T5)(h2:q (⟨a,0,[]⟩,v0,v1,v2,v3,v4,v5))(h1:p (⟨a,0,[]⟩,v0,v1,v2,v3,v4,v5)):∃x,p x∧q x:=⟨_,h1,h2⟩
theorem b5I{T0 T1 T2 T3 T4 T5 T6:Type}{p q:ST×T0×T1×T2×T3×T4×T5×T6→Prop}(a:List Sg)(v0:T0)(v1:T1)(v2:T2)(v3:T3)(v4:T4)(v5:T5)(v6:T6)(h2:q (⟨a,0,[]⟩,v0,v1,v2,v3,v4,v5,v6))(h1:p (⟨a,0,[]⟩,v0,v1,v2,v3,v4,v5,v6)):∃x,p x∧q x:=⟨_,h1,h2⟩
attribute [local irreducible] frI frE gBl blG Aq AU gsOk Ah Dh CU Cw treeOk sgM okQ
def Ev:Sig:= {X:=List UInt8,args:=fun x=>[.str x],pre:=fun x=>x.length<2^62,Y:=List Nd×Int,post:=fun x y=>y.1=(CU x).getD []∧Bc y.1,res:=fun x y=> .tup [nds y.1,.int .i64 y.2,.bool (CU x).isSome],outs:=fun x y=>[.top],keep:=true}
def OX(x:List UInt8):LS:= {ι:=List Sg×Int×Int×Bool×List Nd×List Int×List (Int×Int)×Nat,inv:=fun i=>frI x i.1 (iF i.2) i.2.2.2.2.2.1 i.2.2.2.2.2.2.1 i.2.2.2.2.2.2.2,regs:=fun i=>[(0,.str x),(5,AY []),(6,sgs i.1),(9,srd ⟨i.1,0,[]⟩ (iF i.2)),(10,Ae i.2.2.2.2.2.1)],als:=[],meas:=fun i=>i.2.2.2.2.2.2.2}
theorem a2A:Al G Tryz.prog 73 Ev:=
 vcFun_okP [(113,0,JM),(114,0,Fm),(115,0,HE),(116,0,DR),(117,0,Bm),(17,0,DN)] [(95,⟨Sg,sgA⟩),(26,⟨Int,Bh⟩),(24,⟨Nd,ndA true⟩)] false (fun x=>[(7,OX x)]) Tryz.func73 rfl (by decide) ⟨b5A,Rm,b5r,Rn,GV,Qx,trivial⟩ (fun(x:List UInt8)=>True∧cA JM [.str x] fun x_1 y=>Aa (!Option.isSome (Cw x_1)) (rA Ev x [.tup [AY [],.int .i64 y.2,.bool false],.top]) (eA (OX x) [.str x,AY [],sgs y.1,.box 0 [sgs y.1,.int .i64 (0:Int),.bool false,.int .i64 (0:Int),.nil],Ae []]∧∀(i:List Sg×Int×Int×Bool×List Nd×List Int×List (Int×Int)×Nat),frI x i.1 (iF i.2) i.2.2.2.2.2.1 i.2.2.2.2.2.2.1 i.2.2.2.2.2.2.2→Aa (!(iF i.2).bad) (Aa (decide ((iF i.2).pos<(↑(List.length i.1):Int))) (cA Fm [.box 0 [sgs i.1,.int .i64 (iF i.2).pos,.bool (iF i.2).bad,.int .i64 (iF i.2).deep,AY (iF i.2).nodes]] fun x_2 y=>Aa (blG x_2.1.sg (xg x_2)) (cA HE [srd x_2.1 (xg x_2),.bool true] fun x_3 y=>cA DR [srd x_3.1 (yG y.2),.int .i64 y.1,.bool (decide ((↑(List.length i.2.2.2.2.2.1):Int)>(0:Int)))] fun x_4 y_1=>∃(x_5:Int),y.1=x_5∧∃(zs:List Int),Ae [x_5]=Ae zs∧BG Bh∧Bb (List.length i.2.2.2.2.2.1+List.length zs) (8:Nat)∧eN (OX x) i [.str x,AY [],sgs i.1,srd x_4.1 (gBl (xh x_4) x_4.2.2.2.2.2.1 x_4.2.2.2.2.2.2),Ae (i.2.2.2.2.2.1++zs)]) (cA HE [srd x_2.1 (xg x_2),.bool true] fun x_3 y=>cA DR [srd x_3.1 (yG y.2),.int .i64 y.1,.bool false] fun x_4 y_1=>∃(x_5:Int),y.1=x_5∧∃(zs:List Int),Ae [x_5]=Ae zs∧BG Bh∧Bb (List.length i.2.2.2.2.2.1+List.length zs) (8:Nat)∧eN (OX x) i [.str x,AY [],sgs i.1,srd x_4.1 (gBl (xh x_4) x_4.2.2.2.2.2.1 x_4.2.2.2.2.2.2),Ae (i.2.2.2.2.2.1++zs)])) (cA Bm [.box 0 [sgs i.1,.int .i64 (iF i.2).pos,.bool (iF i.2).bad,.int .i64 (iF i.2).deep,AY (iF i.2).nodes],.int .i64 (22:Int),.str #[].toList,Ae i.2.2.2.2.2.1] fun x_2 y=>Aa (Aq (xh x_2) {kind:=x_2.2.2.2.2.2.1,text:=x_2.2.2.2.2.2.2.1,kids:=x_2.2.2.2.2.2.2.2,blank:=false}).bad (Aa (decide ((Aq (xh x_2) {kind:=x_2.2.2.2.2.2.1,text:=x_2.2.2.2.2.2.2.1,kids:=x_2.2.2.2.2.2.2.2,blank:=false}).pos<(↑(List.length i.1):Int))) (true=true∧true=true∧((0:Int)≤(Aq (xh x_2) {kind:=x_2.2.2.2.2.2.1,text:=x_2.2.2.2.2.2.2.1,kids:=x_2.2.2.2.2.2.2.2,blank:=false}).pos∧(Aq (xh x_2) {kind:=x_2.2.2.2.2.2.1,text:=x_2.2.2.2.2.2.2.1,kids:=x_2.2.2.2.2.2.2.2,blank:=false}).pos<(↑(List.length i.1):Int))∧∀(e:Sg),i.1[Int.toNat (Aq (xh x_2) {kind:=x_2.2.2.2.2.2.1,text:=x_2.2.2.2.2.2.2.1,kids:=x_2.2.2.2.2.2.2.2,blank:=false}).pos]? =some e→rA Ev x [.tup [AY [],.int .i64 e.pos,.bool false],.top]) (rA Ev x [.tup [AY [],.int .i64 (↑(List.length x):Int),.bool false],.top])) (cA DN [AY (Aq (xh x_2) {kind:=x_2.2.2.2.2.2.1,text:=x_2.2.2.2.2.2.2.1,kids:=x_2.2.2.2.2.2.2.2,blank:=false}).nodes] fun x_3 y=>Aa (!treeOk x_3) (rA Ev x [.tup [AY [],.int .i64 (0:Int),.bool false],.top]) (rA Ev x [.tup [AY (Aq (xh x_2) {kind:=x_2.2.2.2.2.2.1,text:=x_2.2.2.2.2.2.2.1,kids:=x_2.2.2.2.2.2.2.2,blank:=false}).nodes,.int .i64 (0:Int),.bool true],.top])))) (cA Bm [.box 0 [sgs i.1,.int .i64 (iF i.2).pos,.bool (iF i.2).bad,.int .i64 (iF i.2).deep,AY (iF i.2).nodes],.int .i64 (22:Int),.str #[].toList,Ae i.2.2.2.2.2.1] fun x_2 y=>Aa (Aq (xh x_2) {kind:=x_2.2.2.2.2.2.1,text:=x_2.2.2.2.2.2.2.1,kids:=x_2.2.2.2.2.2.2.2,blank:=false}).bad (Aa (decide ((Aq (xh x_2) {kind:=x_2.2.2.2.2.2.1,text:=x_2.2.2.2.2.2.2.1,kids:=x_2.2.2.2.2.2.2.2,blank:=false}).pos<(↑(List.length i.1):Int))) (true=true∧true=true∧((0:Int)≤(Aq (xh x_2) {kind:=x_2.2.2.2.2.2.1,text:=x_2.2.2.2.2.2.2.1,kids:=x_2.2.2.2.2.2.2.2,blank:=false}).pos∧(Aq (xh x_2) {kind:=x_2.2.2.2.2.2.1,text:=x_2.2.2.2.2.2.2.1,kids:=x_2.2.2.2.2.2.2.2,blank:=false}).pos<(↑(List.length i.1):Int))∧∀(e:Sg),i.1[Int.toNat (Aq (xh x_2) {kind:=x_2.2.2.2.2.2.1,text:=x_2.2.2.2.2.2.2.1,kids:=x_2.2.2.2.2.2.2.2,blank:=false}).pos]? =some e→rA Ev x [.tup [AY [],.int .i64 e.pos,.bool false],.top]) (rA Ev x [.tup [AY [],.int .i64 (↑(List.length x):Int),.bool false],.top])) (cA DN [AY (Aq (xh x_2) {kind:=x_2.2.2.2.2.2.1,text:=x_2.2.2.2.2.2.2.1,kids:=x_2.2.2.2.2.2.2.2,blank:=false}).nodes] fun x_3 y=>Aa (!treeOk x_3) (rA Ev x [.tup [AY [],.int .i64 (0:Int),.bool false],.top]) (rA Ev x [.tup [AY (Aq (xh x_2) {kind:=x_2.2.2.2.2.2.1,text:=x_2.2.2.2.2.2.2.1,kids:=x_2.2.2.2.2.2.2.2,blank:=false}).nodes,.int .i64 (0:Int),.bool true],.top]))))) (fun x=>by kernel_rfl) fun(x:List UInt8) (hx:x.length<2^62)=>(by
 dsimp only[cA,eA,eN,OX,Bt,nds,Ae,AY,GQ,rA,Fm,DR,HE,Bm,Ev,JM,DN,CG,sgs,srd,Av,AA,mvL,lnL,mvE,lnE,Bi]
 have hx:x.length<2^62:=hx
 (repeat' first|(apply b5I<;>try dsimp only)|(apply b5H<;>try dsimp only)|(apply b5G<;>try dsimp only)|(with_reducible first|rfl|exact True.intro|apply AL|apply And.intro|((first|apply AB|apply AJ|apply AC|apply AK)<;>intro _))|(apply Az<;>intro _)|apply AI|refine Ag () ?_ ?_|((first|apply AP|apply AO|apply AN|apply AM|apply AH|apply AG|apply AF|apply AE|apply AD)<;>try dsimp only)|apply Ag|(refine Prod.forall.2 ?_;intro _;try dsimp only)|(intro _;try dsimp only))
 all_goals(try dsimp only[xg,xh,yG,yS,iG,iF] at*)
 all_goals(try simp only[FH] at*)
 all_goals first
  |(show Nat;skip)
  |(show List (Int×Int);skip)
  |rfl
  |exact hx
  |exact b5E ‹_› ‹_›
  |(rw[a2z ‹_›];rfl)
  |(rw[a2z ‹_›];exact MQ)
  |exact(RI ‹_› ‹_› ‹_› ‹_› (JG ‹_›)).1
  |exact(RI ‹_› ‹_› ‹_› ‹_› (JH ‹_›)).1
  |exact Vx (s:=⟨_,0,[]⟩) ‹_›
  |exact(Eh (Vx (s:=⟨_,0,[]⟩) ‹_›)).1
  |exact EH (Eh (Vx (s:=⟨_,0,[]⟩) ‹_›)).1 ‹_›
  |exact MJ Vm ‹_›
  |exact MJ Vm ‹_› ‹_›
  |assumption
  |omega
  |exact(OW ‹_›).1
  |exact(OW ‹_›).2.1
  |(rw[RK ‹_› (MO ‹_›) ‹_›];rfl)
  |(rw[RK ‹_› (MO ‹_›) ‹_›];exact MQ)
  |(rw[(JN ‹_› (MO ‹_›) ‹_›).1 ‹_›];rfl)
  |(rw[(JN ‹_› (MO ‹_›) ‹_›).2 ‹_›];rfl)
  |(rw[(JN ‹_› (MO ‹_›) ‹_›).1 ‹_›];exact MQ)
  |(rw[(JN ‹_› (MO ‹_›) ‹_›).2 ‹_›];exact(OW ‹_›).1)
  |(rw[RK ‹_› (MP ‹_›) ‹_›];rfl)
  |(rw[RK ‹_› (MP ‹_›) ‹_›];exact MQ)
  |(rw[(JN ‹_› (MP ‹_›) ‹_›).1 ‹_›];rfl)
  |(rw[(JN ‹_› (MP ‹_›) ‹_›).2 ‹_›];rfl)
  |(rw[(JN ‹_› (MP ‹_›) ‹_›).1 ‹_›];exact MQ)
  |(rw[(JN ‹_› (MP ‹_›) ‹_›).2 ‹_›];exact(OW ‹_›).1)
  |(have hq:=(OW (show frI _ _ _ _ _ _ by assumption)).2.2;omega)
  |exact MQ
  |(simp [Bb];done)
  |(have hq:=b5F (show frI _ _ _ _ _ _ by assumption);(try simp only[Bb,List.length_append,List.length_cons,List.length_nil]);omega)
  |skip
 all_goals first
  |exact(RI ‹_› ‹_› ‹_› ‹_› (JG ‹_›)).2
  |exact(RI ‹_› ‹_› ‹_› ‹_› (JH ‹_›)).2
  |rfl
  |skip)
end Go.My
end
