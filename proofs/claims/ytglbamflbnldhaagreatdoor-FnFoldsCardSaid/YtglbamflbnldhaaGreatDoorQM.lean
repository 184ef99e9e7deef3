/- joined -/
import Derived.Test.YtglbamflbnldhaaGreatDoorQL
set_option linter.unusedSimpArgs false
set_option linter.unusedVariables false
section
namespace Go.My
open Go.Eng Go.Proofs
variable {G:GInv}
def okQ(s:ST)(x:Gs):Prop:=okD s x∧sgM s.sg
theorem EF{s:ST}{x:Gs}(h:okQ s x):okD s x:=h.1
theorem Ou{s:ST}{x:Gs}(h:okQ s x):sgM s.sg:=h.2
theorem JZ{sg:List Sg}{x:Gs}{m:List UInt8}(h:isG sg x 1 m=false):BE sg x m=x:=by simp [BE,h]
theorem Ka{sg:List Sg}{x:Gs}{m:List UInt8}(h:isG sg x 1 m=true):BE sg x m=Aq x:=by simp [BE,h]
theorem GJ{s:ST}{x:Gs}{m:List UInt8}(h:okQ s x)(hq:isG s.sg x 1 m=true):okQ s (Aq x):=⟨a5g h.1 hq,h.2⟩
theorem Yg{s:ST}{x:Gs}(h:okQ s x):rOk s (Bi s.sg x 1)∧rOk s (Au s.sg (Bi s.sg x 1) [61]):=by
 have a:=HS (k:=1) h.1.1 (by omega);exact⟨a,FO a⟩
theorem c0l{s:ST}{x:Gs}(h:okQ s x)(hq:isG s.sg (Bi s.sg x 1) 4 [61]=true):okQ s (Au s.sg (Bi s.sg x 1) [61]):=by
 rw[Iz.1] at hq ⊢
 exact⟨b8a h.1.1 h.1.2 hq,h.2⟩
theorem c0m{s:ST}{x:Gs}{z:Int×Gs}(h:okQ s x)(hq:isG s.sg (Bi s.sg x 1) 4 [61]=true)(hz:Ah s.sg (Au s.sg (Bi s.sg x 1) [61]) (Cm s.sg) z):
 Ah s.sg x (DA s.sg false) (AW (As s.sg z.2 [59]),An (As s.sg z.2 [59]) ⟨12,BC s.sg x 1,[z.1],false⟩):=by
 rw[Iz.1] at hq hz;rw[Iz.2]
 exact Iy (Gc hz) (EX (JU h.1.1.1) (by simp)) (b8b h.1.1 hq hz)
theorem c0n{s:ST}{x:Gs}(h:okQ s x)(hq:isG s.sg (Bi s.sg x 1) 4 [61]=false):
 Ah s.sg x (DA s.sg false) (AW (As s.sg (Au s.sg (Bi s.sg x 1) [61]) [59]),An (As s.sg (Au s.sg (Bi s.sg x 1) [61]) [59]) ⟨12,BC s.sg x 1,[],false⟩):=by
 rw[Iz.1] at hq ⊢;rw[Iz.2]
 exact Iy (b8c h.1.1 hq).2 (EX (JU h.1.1.1) (by simp)) (b8d h.1.1 hq)
def mbS(sg:List Sg)(n:Nat)(x y:Gs)(ks:List Int)(N:Nat):Prop:=
 KU sg (stR sg n) [125] (pkX (As sg x [123])) y ks N∧y.deep=x.deep+1∧(y.bad=false→x.deep≠20)
theorem a6d{s:ST}{x:Gs}{n:Nat}(h:okQ s x):mbS s.sg n x (pkX (As s.sg x [123])) [] (s.sg.length+1):=by
 have t:=HO (m:=[123]) h.1.1.2
 obtain⟨p1,p2,p3⟩:= @Qk (As s.sg x [123])
 have t1:=t.1;have t2:=t.2.1;have hd:=h.1.2
 refine⟨a4U ⟨by simp only[pkX] at*;rw[p1];exact t1.1,by simp only[pkX] at*;rw[p2];have:=t1.2.1;omega,?_⟩,by simp only[pkX] at*;rw[p2];omega,fun hb=>by have:=(p3 hb).2;omega⟩
 have e:(pkX (As s.sg x [123])).nodes=(As s.sg x [123]).nodes:=by unfold pkX;split<;>rfl
 rw[e];exact t1.2.2
theorem c0o{s:ST}{x:Gs}{n:Nat}(h:okQ s x)(h20:(As s.sg x [123]).deep+1>20):mbS s.sg n x ⟨(As s.sg x [123]).pos,(As s.sg x [123]).deep+1,true,(As s.sg x [123]).nodes⟩ [] (s.sg.length+1):=by
 have a:=a6d (n:=n) h
 have t2:=(HO (m:=[123]) h.1.1.2).2.1;have hd:=h.1.2
 have e:pkX (As s.sg x [123])=⟨(As s.sg x [123]).pos,(As s.sg x [123]).deep+1,true,(As s.sg x [123]).nodes⟩:=by rw[pkX,if_pos (by omega)];rfl
 rw[←e];exact a
theorem c0p{s:ST}{x:Gs}{n:Nat}(h:okQ s x)(h20:¬(As s.sg x [123]).deep+1>20):mbS s.sg n x ⟨(As s.sg x [123]).pos,(As s.sg x [123]).deep+1,(As s.sg x [123]).bad,(As s.sg x [123]).nodes⟩ [] (s.sg.length+1):=by
 have a:=a6d (n:=n) h
 have e:pkX (As s.sg x [123])=⟨(As s.sg x [123]).pos,(As s.sg x [123]).deep+1,(As s.sg x [123]).bad,(As s.sg x [123]).nodes⟩:=by rw[pkX,if_neg (by omega)];rfl
 rw[←e];exact a
theorem c0q{s:ST}{x:Gs}(h:okQ s x):0≤(As s.sg x [123]).deep∧(As s.sg x [123]).deep≤20:=by
 have t:=HO (m:=[123]) h.1.1.2
 have:=t.1.2.1;have:=t.2.1;have:=h.1.2;omega
theorem Tz{s:ST}{x y:Gs}{n:Nat}{ks:List Int}{N:Nat}(h:okQ s x)(hj:mbS s.sg n x y ks N):rOk s y:=⟨h.1.1.1,hj.1.1.1⟩
theorem Yh{s:ST}{x y:Gs}{n:Nat}{ks:List Int}{N:Nat}(h:okQ s x)(h2:20-x.deep≤(n:Int))(hj:mbS s.sg n x y ks N)(hb:y.bad=false)(hq:isG s.sg y 4 [125]=false):okQ s (Au s.sg y [125])∧(Au s.sg y [125]).bad=false∧21-(Au s.sg y [125]).deep≤(n:Int):=by
 rw[DJ hq]
 have:=hj.2.1;have:=hj.2.2 hb;have:=h.1.2
 exact⟨⟨⟨Tz h hj,by omega⟩,h.2⟩,hb,by omega⟩
theorem Yi{s:ST}{x y:Gs}{n:Nat}{ks:List Int}{N:Nat}(h:okQ s x)(hj:mbS s.sg n x y ks N):ks.length≤3001:=by
 have:=hj.1.2.2.1;have:=hj.1.1.1.1;have:=h.1.1.1.1;omega
theorem TA{s:ST}{x y:Gs}{n:Nat}{ks:List Int}{N:Nat}{b:Bool}{z:Int×Gs}(hj:mbS s.sg n x y ks N)(hb:y.bad=false)(hq:isG s.sg y 4 [125]=false)(hz:Ah s.sg (Au s.sg y [125]) (stR s.sg n false) z)(e:b=(blG s.sg (Au s.sg y [125])&&decide (0<(ks.length:Int)))):
 mbS s.sg n x (gBl z.2 z.1 b) (ks++[z.1]) (N-1)∧N-1<N:=by
 rw[DJ hq] at hz e
 rw[Yf hb] at e
 have hz2:Ah s.sg y (stR s.sg n b) (z.1,gBl z.2 z.1 b):=Ye Yb hz
 subst e
 obtain⟨a,b⟩:=Og (a4Y hj.1 hb hq (z:=(z.1,gBl z.2 z.1 ((pkG s.sg y 0).blank&&decide (0<(ks.length:Int))))) (by
  have:decide (0<ks.length)=decide (0<(ks.length:Int)):=by simp
  rw[this];exact hz2))
 have:=(CX hz2).1
 exact⟨⟨a,by have:=hj.2.1;simp only at*;omega,fun hw=>hj.2.2 hb⟩,b⟩
theorem c0r{s:ST}{x y:Gs}{n:Nat}{ks:List Int}{N:Nat}(h:okQ s x)(hj:mbS s.sg n x y ks N)(hq:isG s.sg y 4 [125]=true):
 Ah s.sg x (BM s.sg (stR s.sg n)) (AW (gDp (Au s.sg y [125]) (-1)),An (gDp (Au s.sg y [125]) (-1)) ⟨18,[],ks,false⟩):=by
 rw[EE hq,←JW hq]
 exact a6c (l:=(ks,y)) h.1.1.2 h.1.2 (a4X hj.1 hq) (Yi h hj)
theorem c0s{s:ST}{x y:Gs}{n:Nat}{ks:List Int}{N:Nat}(h:okQ s x)(hj:mbS s.sg n x y ks N)(hb:y.bad=true):
 Ah s.sg x (BM s.sg (stR s.sg n)) (AW (gDp y (-1)),An (gDp y (-1)) ⟨18,[],ks,false⟩):=by
 have a:=a6c (l:=(ks,y)) h.1.1.2 h.1.2 (a4V hj.1 hb) (Yi h hj)
 simp only[Tk hb] at a;exact a
theorem Yj{s:ST}{x y:Gs}{n:Nat}{ks:List Int}{N:Nat}(h:okQ s x)(hj:mbS s.sg n x y ks N):(1≤y.deep∧y.deep≤21)∧rOk s (gDp y (-1))∧rOk s (gDp (Au s.sg y [125]) (-1))∧(Au s.sg y [125]).deep=y.deep:=by
 have h1:=hj.2.1;have h2:=h.1.1.2.2.1;have h3:=h.1.2
 have a:=Tz h hj
 have b:=FO (m:=[125]) a
 have e:(Au s.sg y [125]).deep=y.deep:=by unfold Au;split<;>rfl
 refine⟨by omega,⟨a.1,a.2.1,by simp only[gDp];omega,a.2.2.2⟩,⟨b.1,b.2.1,by simp only[gDp];omega,b.2.2.2⟩,e⟩
theorem c0t{s:ST}{x:Gs}{n:Nat}(h:okQ s x)(hk:kdG s.sg x 5=true):Ah s.sg x (stR s.sg (n+1) false) (AW (Bi s.sg x 5),An (Bi s.sg x 5) ⟨19,BC s.sg x 5,[],false⟩):=by
 have hn:=hk
 rw[Qt (by omega)] at hn
 exact On h.1.1.1 h.1.1.2 (by omega) hk (b7D h.1.1.1 h.1.1.2 (by simpa using hn))
theorem Hp{sg:List Sg}{x:Gs}(h:kdG sg x 5=false):(pkG sg x 0).kind≠5:=JY h (by omega)
theorem c0u{s:ST}{x:Gs}{n:Nat}{z:Int×Gs}(h:okQ s x)(hk:kdG s.sg x 5=false)(hq:isG s.sg x 1 [118,97,114]=true)(hz:Ah s.sg (Aq x) (DA s.sg false) z):Ah s.sg x (stR s.sg (n+1) false) z:=b7E h.1.1.2 (Hp hk) hq hz
theorem c0v{s:ST}{x:Gs}{n:Nat}(h:okQ s x)(hk:kdG s.sg x 5=false)(h1:isG s.sg x 1 [118,97,114]=false)(hq:isG s.sg x 1 [114,101,116,117,114,110]=true)(hs:isG s.sg (Aq x) 4 [59]=true):
 Ah s.sg x (stR s.sg (n+1) false) (AW (As s.sg (Aq x) [59]),An (As s.sg (Aq x) [59]) ⟨15,[],[],false⟩):=by
 have o:=(GJ h hq).1.1.2
 exact a5a h.1.1.2 (Hp hk) h1 hq (Iy o (EX (by simp) (by simp)) (b7s o hs))
theorem c0w{s:ST}{x:Gs}{n:Nat}{z:Int×Gs}(h:okQ s x)(hk:kdG s.sg x 5=false)(h1:isG s.sg x 1 [118,97,114]=false)(hq:isG s.sg x 1 [114,101,116,117,114,110]=true)(hs:isG s.sg (Aq x) 4 [59]=false)(hz:Ah s.sg (Aq x) (Cm s.sg) z):
 Ah s.sg x (stR s.sg (n+1) false) (AW (As s.sg z.2 [59]),An (As s.sg z.2 [59]) ⟨15,[],[z.1],false⟩):=by
 have o:=(GJ h hq).1.1.2
 exact a5a h.1.1.2 (Hp hk) h1 hq (Iy (Gc hz) (EX (by simp) (by simp)) (b7t o hs hz))
theorem c0x{s:ST}{x:Gs}{n:Nat}{c q:Int×Gs}(h:okQ s x)(hk:kdG s.sg x 5=false)(h1:isG s.sg x 1 [118,97,114]=false)(h2:isG s.sg x 1 [114,101,116,117,114,110]=false)(hq:isG s.sg x 1 [105,102]=true)
 (hc:BG s.sg (Aq x) (DI s.sg) c) (hb:Ah s.sg c.2 (BM s.sg (stR s.sg n)) q) (he:isG s.sg q.2 1 [101,108,115,101]=false):
 Ah s.sg x (stR s.sg (n+1) false) (AW (BE s.sg q.2 [101,108,115,101]),An (BE s.sg q.2 [101,108,115,101]) ⟨16,[],[c.1,q.1],false⟩):=by
 rw[JZ he]
 exact a5b h.1.1.2 (Hp hk) h1 h2 hq (b7y (GJ h hq).1.1.2 hc hb he)
theorem c0y{s:ST}{x:Gs}{n:Nat}{c q r:Int×Gs}(h:okQ s x)(hk:kdG s.sg x 5=false)(h1:isG s.sg x 1 [118,97,114]=false)(h2:isG s.sg x 1 [114,101,116,117,114,110]=false)(hq:isG s.sg x 1 [105,102]=true)
 (hc:BG s.sg (Aq x) (DI s.sg) c) (hb:Ah s.sg c.2 (BM s.sg (stR s.sg n)) q) (he:isG s.sg q.2 1 [101,108,115,101]=true) (hr:Ah s.sg (BE s.sg q.2 [101,108,115,101]) (BM s.sg (stR s.sg n)) r):
 Ah s.sg x (stR s.sg (n+1) false) (AW r.2,An r.2 ⟨16,[],[c.1,q.1,r.1],false⟩):=by
 rw[Ka he] at hr
 exact a5b h.1.1.2 (Hp hk) h1 h2 hq (b7z (GJ h hq).1.1.2 hc hb he hr)
theorem c0z{s:ST}{x:Gs}{n:Nat}{c q:Int×Gs}(h:okQ s x)(hk:kdG s.sg x 5=false)(h1:isG s.sg x 1 [118,97,114]=false)(h2:isG s.sg x 1 [114,101,116,117,114,110]=false)(h3:isG s.sg x 1 [105,102]=false)(hq:isG s.sg x 1 [119,104,105,108,101]=true)
 (hc:BG s.sg (Aq x) (DI s.sg) c) (hb:Ah s.sg c.2 (BM s.sg (stR s.sg n)) q):Ah s.sg x (stR s.sg (n+1) false) (AW q.2,An q.2 ⟨17,[],[c.1,q.1],false⟩):=b8e h.1 (Hp hk) h1 h2 h3 hq hc hb
theorem c0A{sg:List Sg}{i k:Int}{e:Sg}(hk:e.kind=k)(he:sg[i.toNat]? =some e):(sgO sg i).kind=k:=by rw[JK he];exact hk
theorem c0B{sg:List Sg}{i k:Int}{e:Sg}(hk:e.kind≠k)(he:sg[i.toNat]? =some e):(sgO sg i).kind≠k:=by rw[JK he];exact hk
theorem c0C{sg:List Sg}{i:Int}{e:Sg}{m:List UInt8}(hk:e.text=m)(he:sg[i.toNat]? =some e):((sgO sg i).text==m)=true:=by rw[JK he];simpa using hk
theorem c0D{sg:List Sg}{i:Int}{e:Sg}{m:List UInt8}(hk:e.text≠m)(he:sg[i.toNat]? =some e):((sgO sg i).text==m)=false:=by rw[JK he];simpa using hk
theorem c0E{sg:List Sg}{x:Gs}(hk:kdG sg x 1=false):seG sg x=false:=by rw[Jj] at hk;simp [seG,hk]
theorem a6e{sg:List Sg}{x:Gs}{e:Sg}(hb:x.bad=false)(hl:x.pos+1<sg.length)(he:sgO sg (x.pos+1)=e):pkG sg x 1=e:=by
 rw[pkG,if_neg (by simp [hb];omega),he]
theorem c0F{sg:List Sg}{x:Gs}(hl:¬x.pos+1<sg.length):seG sg x=false:=by
 have:pkG sg x 1=ET:=by rw[pkG,if_pos (.inr (by omega))]
 simp [seG,this,ET]
theorem a6f{sg:List Sg}{x:Gs}(hb:x.bad=false)(hl:x.pos+1<sg.length)(hk:(sgO sg (x.pos+1)).kind≠4∨((sgO sg (x.pos+1)).text==[61])=false):seG sg x=false:=by
 rw[seG,a6e hb hl rfl]
 rcases hk with hk|hk<;>simp [hk]
theorem c0G{sg:List Sg}{x:Gs}(hb:x.bad=false)(hl:x.pos+1<sg.length)(h1:kdG sg x 1=true)(hk:(sgO sg (x.pos+1)).kind=4)(ht:((sgO sg (x.pos+1)).text==[61])=true):seG sg x=true:=by
 rw[Jj] at h1
 rw[seG,a6e hb hl rfl];simp [h1,hk,ht]
theorem c0H{s:ST}{x:Gs}{n:Nat}{z:Int×Gs}(h:okQ s x)(hk:kdG s.sg x 5=false)(h1:isG s.sg x 1 [118,97,114]=false)(h2:isG s.sg x 1 [114,101,116,117,114,110]=false)(h3:isG s.sg x 1 [105,102]=false)(h4:isG s.sg x 1 [119,104,105,108,101]=false)
 (he:seG s.sg x=true) (hz:Ah s.sg (As s.sg (Bi s.sg x 1) [61]) (Cm s.sg) z):Ah s.sg x (stR s.sg (n+1) false) (AW (As s.sg z.2 [59]),An (As s.sg z.2 [59]) ⟨13,BC s.sg x 1,[z.1],false⟩):=by
 rw[Iz.1] at hz;rw[Iz.2]
 exact b7G h.1.1.2 (Hp hk) h1 h2 h3 h4 he (Iy (Gc hz) (EX (JU h.1.1.1) (by simp)) (b7B h.1.1.1 h.1.1.2 hz))
theorem TB{s:ST}{x:Gs}{n:Nat}{z:Int×Gs}(h:okQ s x)(hk:kdG s.sg x 5=false)(h1:isG s.sg x 1 [118,97,114]=false)(h2:isG s.sg x 1 [114,101,116,117,114,110]=false)(h3:isG s.sg x 1 [105,102]=false)(h4:isG s.sg x 1 [119,104,105,108,101]=false)
 (he:seG s.sg x=false) (hz:Ah s.sg x (Cm s.sg) z):Ah s.sg x (stR s.sg (n+1) false) (AW (As s.sg z.2 [59]),An (As s.sg z.2 [59]) ⟨14,[],[z.1],false⟩):=
 b7H h.1.1.2 (Hp hk) h1 h2 h3 h4 he (Iy (Gc hz) (EX (by simp) (by simp)) (b7C h.1.1.2 hz))
theorem a6g{s:ST}{x:Gs}(h:okQ s x):rOk s (As s.sg (Bi s.sg x 1) [61])∧okQ s (As s.sg (Bi s.sg x 1) [61]):=by
 have a:=Hn (m:=[61]) (HS (k:=1) h.1.1 (by omega))
 have e:(Bi s.sg x 1).deep=x.deep:=by unfold Bi;split<;>rfl
 exact⟨a.1,⟨a.1,by have:=h.1.2;omega⟩,h.2⟩
theorem c0I{α:Type}{s:ST}{x:Gs}{f:Ps→Option (α×Ps)}{y:α×Gs}(h:okQ s x)(hy:BG s.sg x f y):okQ s y.2:=⟨a5e h.1 hy,h.2⟩
theorem Ov{α:Type}{s:ST}{x:Gs}{f:Ps→Option (α×Ps)}{y:α×Gs}(h:okQ s x)(hy:Ah s.sg x f y):okQ s y.2:=⟨a5e h.1 hy.1,h.2⟩
theorem c0J{α:Type}{s:ST}{x:Gs}{n:Nat}{f:Ps→Option (α×Ps)}{y:α×Gs}(h:21-x.deep≤((n+1:Nat):Int))(hy:BG s.sg (Aq x) f y):20-y.2.deep≤(n:Int):=by
 have:=hy.2.1;simp only[Aq] at this;omega
theorem a6h{sg:List Sg}{x:Gs}{m:List UInt8}:(BE sg x m).deep=x.deep:=by unfold BE;split<;>rfl
theorem a6i{s:ST}{x:Gs}{m:List UInt8}(h:rOk s x):rOk s (BE s.sg x m):=by
 unfold BE;split
 ·rename_i hq;exact⟨h.1,GB h.2 (Dn hq (by omega)).2⟩
 ·exact h
theorem a6j{s:ST}{x:Gs}{m:List UInt8}(h:okQ s x):okQ s (BE s.sg x m):=⟨⟨a6i h.1.1,by rw[a6h];exact h.1.2⟩,h.2⟩
theorem c0K{α:Type}{s:ST}{x:Gs}{n:Nat}{m:List UInt8}{f:Ps→Option (α×Ps)}{y:α×Gs}(h:20-x.deep≤(n:Int))(hy:Ah s.sg x f y):20-(BE s.sg y.2 m).deep≤(n:Int):=by
 rw[a6h];exact b8g h hy
def Kb(n:Nat):Sig:= {X:=ST×Int×Int×Bool×List Nd,args:=fun x=>[srd x.1 (xg x)],pre:=fun x=>(okQ x.1 (xg x)∧(xg x).bad=false)∧21-(xg x).deep≤n,Y:=Int×Int×Int×Bool×List Nd,post:=fun x y=>Ah x.1.sg (xg x) (stR x.1.sg n false) (yS y),res:=fun x y=> .int .i64 y.1,outs:=fun x y=>[srd x.1 (yG y.2)],keep:=true}
attribute [local irreducible] pE Bw Dg fnR Ah BG gsOk As CP An Dp EA Au Ed Eo AW CQ pkG isG nmG kdG Bi BC BS vlQ BE gBl blG DA Hm DI Cm BM stR CO mbS seG okQ sgM
def srf(s:ST)(g:Gs):AV:= .pf [sgs s.sg,.int .i64 g.pos,.bool g.bad,.int .i64 g.deep,nds g.nodes]
theorem a6k{l:List Sg}{p d:Int}{b:Bool}{ns:List Nd}:AV.pf (fzL [AV.sl false 0 4 Sg sgA l,.int .i64 p,.bool b,.int .i64 d,AV.sl true 0 4 Nd (ndA true) ns])=AV.pf [AV.sl false 0 4 Sg sgA l,.int .i64 p,.bool b,.int .i64 d,AV.sl false 0 4 Nd (ndA false) ns]:=rfl
def Jl:Sig:= {X:=ST×Int×Int×Bool×List Nd×Int,args:=fun x=>[srf x.1 (xh x),.int .i64 x.2.2.2.2.2],pre:=fun x=>rOk x.1 (xh x)∧x.2.2.2.2.2≠0,Y:=Unit,post:=fun x y=>True,res:=fun x y=> .bool (kdG x.1.sg (xh x) x.2.2.2.2.2),outs:=fun x y=>[.top,.top],keep:=false}
theorem c0L:Al G Tryz.prog 58 Jl:=
 vcFun_okP [(89,0,Gp)] [] false (fun x=>[]) Tryz.func58 rfl (by decide) ⟨VI,trivial⟩ (fun(x:ST×Int×Int×Bool×List Nd×Int)=>(∀(y:Unit),True→True∧True∧True∧True)∧true=true∧true=true∧Ab (!(xh x).bad) (Ab (decide ((xh x).pos<(↑(List.length x.1.sg):Int))) (((0:Int)≤(xh x).pos∧(xh x).pos<(↑(List.length x.1.sg):Int))∧∀(e:Sg),x.1.sg[Int.toNat (xh x).pos]? =some e→Ab (e.kind==x.2.2.2.2.2) (Ab (x.2.2.2.2.2 != (1:Int)) (rA Jl x [.bool true,.top,.top]) (((0:Int)≤(xh x).pos∧(xh x).pos<(↑(List.length x.1.sg):Int))∧∀(e:Sg),x.1.sg[Int.toNat (xh x).pos]? =some e→∃(x_1:List UInt8),True∧e.text=x_1∧∃(y0:Unit),(∀(y:Unit),True→AV.bool (kw x_1)=AV.bool (kw x_1))∧true=true∧rA Jl x [.bool !kw x_1,.top,.top])) (rA Jl x [.bool false,.top,.top])) (rA Jl x [.bool false,.top,.top])) (rA Jl x [.bool false,.top,.top])) (fun x=>by kernel_rfl) fun(x:ST×Int×Int×Bool×List Nd×Int) (hx:rOk x.1 (xh x)∧x.2.2.2.2.2≠0)=>(by
 dsimp only[Bx,nds,rA,Jl,Df,sgs,srf,Aw,Az]
 obtain⟨s,p,d,b,ns,k⟩:=x;dsimp only[xg,xh] at hx ⊢
 obtain⟨h1,h2⟩:=hx;have hs:=He h1;dsimp only at hs
 (repeat' first|(with_reducible first|rfl|exact True.intro|apply AK|apply And.intro|((first|apply AA|apply AI|apply AB|apply AJ)<;>intro _))|(apply Ax<;>intro _)|apply AH|refine Af () ?_ ?_|((first|apply AO|apply AN|apply AM|apply AL|apply AG|apply AF|apply AE|apply AD|apply AC)<;>try dsimp only)|apply Af|(refine Prod.forall.2 ?_;intro _;try dsimp only)|(intro _;try dsimp only))
 all_goals(try(repeat(rename s.sg[_]? =some _=>hq;revert hq;rename s.sg[_]? =some _=>hr;intro hq;rw[hr] at hq;cases hq)))
 all_goals first
  |rfl
  |exact(Ol h2 (.inl ‹_›)).symm
  |exact(Ol h2 (.inr (by simp only;omega))).symm
  |(rw[a5A ‹_› ‹_› (by simp only;omega)];simp [*];done)
  |((try simp only[AQ]);omega)
  |skip)
def Hq:Sig:= {X:=ST×Int×Int×Bool×List Nd,args:=fun x=>[srd x.1 (xg x)],pre:=fun x=>okQ x.1 (xg x),Y:=Int×Int×Int×Bool×List Nd,post:=fun x y=>Ah x.1.sg (xg x) (DA x.1.sg false) (yS y),res:=fun x y=> .int .i64 y.1,outs:=fun x y=>[srd x.1 (yG y.2)],keep:=true}
theorem Yk:Al G Tryz.prog 61 Hq:=
 vcFun_okP [(59,0,CF),(63,0,Cb),(91,0,Gh),(62,0,BO),(36,0,Bq)] [(25,⟨Int,Bc⟩)] false (fun x=>[]) Tryz.func61 rfl (by decide) ⟨KX,HQ,XW,Ix,HR,trivial⟩ (fun(x:ST×Int×Int×Bool×List Nd)=>True∧cA CF [srd x.1 (xg x),.int .i64 (1:Int)] fun x_1 y=>cA Cb [srd x_1.1 (Bi x_1.1.sg (xh x_1) x_1.2.2.2.2.2),.str #[(61:UInt8)].toList] fun x_2 y=>Ab (isG x_2.1.sg (xh x_2) (4:Int) x_2.2.2.2.2.2) (cA Gh [srd x_2.1 (Au x_2.1.sg (xh x_2) x_2.2.2.2.2.2)] fun x_3 y=>∃(x_4:Int),y.1=x_4∧∃(zs:List Int),Ad [x_4]=Ad zs∧Br Bc∧Ba ((0:Nat)+List.length zs) (8:Nat)∧cA BO [srd x_3.1 (yG y.2),.str #[(59:UInt8)].toList] fun x_5 y=>cA Bq [srd x_5.1 (As x_5.1.sg (xh x_5) x_5.2.2.2.2.2),.int .i64 (12:Int),.str (BC x_1.1.sg (xh x_1) x_1.2.2.2.2.2),Ad ([]++zs)] fun x_6 y=>rA Hq x [.int .i64 (AW (xh x_6)),srd x_6.1 (An (xh x_6) {kind:=x_6.2.2.2.2.2.1,text:=x_6.2.2.2.2.2.2.1,kids:=x_6.2.2.2.2.2.2.2,blank:=false})]) (cA BO [srd x_2.1 (Au x_2.1.sg (xh x_2) x_2.2.2.2.2.2),.str #[(59:UInt8)].toList] fun x_3 y=>cA Bq [srd x_3.1 (As x_3.1.sg (xh x_3) x_3.2.2.2.2.2),.int .i64 (12:Int),.str (BC x_1.1.sg (xh x_1) x_1.2.2.2.2.2),Ad []] fun x_4 y=>rA Hq x [.int .i64 (AW (xh x_4)),srd x_4.1 (An (xh x_4) {kind:=x_4.2.2.2.2.2.1,text:=x_4.2.2.2.2.2.2.1,kids:=x_4.2.2.2.2.2.2.2,blank:=false})])) (fun x=>by kernel_rfl) fun(x:ST×Int×Int×Bool×List Nd) (hx:okQ x.1 (xg x))=>(by
 dsimp only[cA,Bx,Ad,AZ,rA,Cb,Bq,CF,Gh,Hq,BO,Df,sgs,srd,Aw,Az,mvL,lnL,mvE,lnE]
 obtain⟨s,p,d,b,ns⟩:=x;dsimp only[xg,xh] at hx ⊢
 have hx:okQ s ⟨p,d,b,ns⟩:=hx
 have hD:=EF hx;have hM:=Ou hx;have h1:=hD.1
 (repeat' first|(with_reducible first|rfl|exact True.intro|apply AK|apply And.intro|((first|apply AA|apply AI|apply AB|apply AJ)<;>intro _))|(apply Ax<;>intro _)|apply AH|refine Af () ?_ ?_|((first|apply AO|apply AN|apply AM|apply AL|apply AG|apply AF|apply AE|apply AD|apply AC)<;>try dsimp only)|apply Af|(refine Prod.forall.2 ?_;intro _;try dsimp only)|(intro _;try dsimp only))
 all_goals(try dsimp only[xg,xh,yG,yS,iG,iF] at*)
 all_goals(try simp only[GE] at*)
 all_goals first
  |rfl
  |exact h1
  |omega
  |exact(Yg hx).1
  |exact(Yg hx).2
  |exact EF (c0l hx ‹_›)
  |exact hM
  |exact Fs h1 ‹_›
  |exact(Hn (Fs h1 ‹_›)).1
  |exact(Hn (Yg hx).2).1
  |exact c0m hx ‹_› ‹_›
  |exact c0n hx ‹_›
  |(simp [Ba];done)
  |skip)
def MI:Sig:= {X:=ST×Int×Int×Bool×List Nd,args:=fun x=>[srd x.1 (xg x)],pre:=fun x=>okQ x.1 (xg x),Y:=Int×Int×Int×Bool×List Nd,post:=fun x y=>BG x.1.sg (xg x) (DI x.1.sg) (yS y),res:=fun x y=> .int .i64 y.1,outs:=fun x y=>[srd x.1 (yG y.2)],keep:=true}
theorem c0M:Al G Tryz.prog 111 MI:=
 vcFun_okP [(91,0,Gh),(62,0,BO)] [] false (fun x=>[]) Tryz.func111 rfl (by decide) ⟨XW,Ix,trivial⟩ (fun(x:ST×Int×Int×Bool×List Nd)=>True∧cA BO [srd x.1 (xg x),.str #[(40:UInt8)].toList] fun x_1 y=>cA Gh [srd x_1.1 (As x_1.1.sg (xh x_1) x_1.2.2.2.2.2)] fun x_2 y=>cA BO [srd x_2.1 (yG y.2),.str #[(41:UInt8)].toList] fun x_3 y_1=>rA MI x [.int .i64 y.1,srd x_3.1 (As x_3.1.sg (xh x_3) x_3.2.2.2.2.2)]) (fun x=>by kernel_rfl) fun(x:ST×Int×Int×Bool×List Nd) (hx:okQ x.1 (xg x))=>(by
 dsimp only[cA,Bx,AZ,rA,MI,Gh,BO,Df,sgs,srd,Aw,Az,mvL,lnL,mvE,lnE]
 obtain⟨s,p,d,b,ns⟩:=x;dsimp only[xg,xh] at hx ⊢
 have hx:okQ s ⟨p,d,b,ns⟩:=hx
 have hD:=EF hx;have hM:=Ou hx;have h1:=hD.1
 have t:=Hn (m:=[40]) h1;have hd:=hD.2;dsimp only at hd
 (repeat' first|(with_reducible first|rfl|exact True.intro|apply AK|apply And.intro|((first|apply AA|apply AI|apply AB|apply AJ)<;>intro _))|(apply Ax<;>intro _)|apply AH|refine Af () ?_ ?_|((first|apply AO|apply AN|apply AM|apply AL|apply AG|apply AF|apply AE|apply AD|apply AC)<;>try dsimp only)|apply Af|(refine Prod.forall.2 ?_;intro _;try dsimp only)|(intro _;try dsimp only))
 all_goals(try dsimp only[xg,xh,yG,yS,iG,iF] at*)
 all_goals(try simp only[GE] at*)
 all_goals first
  |rfl
  |exact h1
  |exact t.1
  |exact hM
  |exact⟨t.1,by rw[t.2];exact hd⟩
  |exact Fs h1 ‹_›
  |exact b7u h1.2 ‹_›
  |skip)
def IC(n:Nat):Sig:= {X:=ST×Int×Int×Bool×List Nd,args:=fun x=>[srd x.1 (xg x)],pre:=fun x=>okQ x.1 (xg x)∧20-(xg x).deep≤(n:Int),Y:=Int×Int×Int×Bool×List Nd,post:=fun x y=>Ah x.1.sg (xg x) (BM x.1.sg (stR x.1.sg n)) (yS y),res:=fun x y=> .int .i64 y.1,outs:=fun x y=>[srd x.1 (yG y.2)],keep:=true}
def KZ(n:Nat)(x:ST×Int×Int×Bool×List Nd):LS:= {ι:=Int×Int×Bool×List Nd×List Int×Nat,inv:=fun i=>mbS x.1.sg n (xg x) (iG i) i.2.2.2.2.1 i.2.2.2.2.2,regs:=fun i=>[(0,srd x.1 (iG i)),(3,Ad i.2.2.2.2.1)],als:=[],meas:=fun i=>i.2.2.2.2.2}
theorem a6l(n:Nat)(h:Al G Go.Proofs.Tryz.prog 92 (Kb n)):Al G Tryz.prog 65 (IC n):=
 vcFun_okP [(62,0,BO),(63,0,Cb),(33,0,Gg),(92,0,(Kb n)),(35,0,Er),(36,0,Bq)] [(25,⟨Int,Bc⟩)] false (fun x=>[(6,KZ n x)]) Tryz.func65 rfl (by decide) ⟨Ix,HQ,Ti,h,Tj,HR,trivial⟩ (fun(x:ST×Int×Int×Bool×List Nd)=>True∧cA BO [srd x.1 (xg x),.str #[(123:UInt8)].toList] fun x_1 y=>inR IntKind.i64 ((As x_1.1.sg (xh x_1) x_1.2.2.2.2.2).deep+(1:Int))∧Ab (decide ((As x_1.1.sg (xh x_1) x_1.2.2.2.2.2).deep+(1:Int)>(20:Int))) (eA (KZ n x) [.box 0 [sgs x_1.1.sg,.int .i64 (As x_1.1.sg (xh x_1) x_1.2.2.2.2.2).pos,.bool true,.int .i64 ((As x_1.1.sg (xh x_1) x_1.2.2.2.2.2).deep+(1:Int)),AZ (As x_1.1.sg (xh x_1) x_1.2.2.2.2.2).nodes],Ad []]∧∀(i:Int×Int×Bool×List Nd×List Int×Nat),mbS x.1.sg n (xg x) (iG i) i.2.2.2.2.1 i.2.2.2.2.2→Ab (!(iG i).bad) (cA Cb [srd x.1 (iG i),.str #[(125:UInt8)].toList] fun x_2 y=>Ab (!isG x_2.1.sg (xh x_2) (4:Int) x_2.2.2.2.2.2) (cA Gg [srd x_2.1 (Au x_2.1.sg (xh x_2) x_2.2.2.2.2.2)] fun x_3 y=>Ab (blG x_3.1.sg (xg x_3)) (cA (Kb n) [srd x_3.1 (xg x_3)] fun x_4 y=>cA Er [srd x_4.1 (yG y.2),.int .i64 y.1,.bool (decide ((↑(List.length i.2.2.2.2.1):Int)>(0:Int)))] fun x_5 y_1=>∃(x_6:Int),y.1=x_6∧∃(zs:List Int),Ad [x_6]=Ad zs∧Br Bc∧Ba (List.length i.2.2.2.2.1+List.length zs) (8:Nat)∧eN (KZ n x) i [srd x_5.1 (gBl (xh x_5) x_5.2.2.2.2.2.1 x_5.2.2.2.2.2.2),Ad (i.2.2.2.2.1++zs)]) (cA (Kb n) [srd x_3.1 (xg x_3)] fun x_4 y=>cA Er [srd x_4.1 (yG y.2),.int .i64 y.1,.bool false] fun x_5 y_1=>∃(x_6:Int),y.1=x_6∧∃(zs:List Int),Ad [x_6]=Ad zs∧Br Bc∧Ba (List.length i.2.2.2.2.1+List.length zs) (8:Nat)∧eN (KZ n x) i [srd x_5.1 (gBl (xh x_5) x_5.2.2.2.2.2.1 x_5.2.2.2.2.2.2),Ad (i.2.2.2.2.1++zs)])) (inR IntKind.i64 ((Au x_2.1.sg (xh x_2) x_2.2.2.2.2.2).deep-(1:Int))∧cA Bq [.box 0 [sgs x_2.1.sg,.int .i64 (Au x_2.1.sg (xh x_2) x_2.2.2.2.2.2).pos,.bool (Au x_2.1.sg (xh x_2) x_2.2.2.2.2.2).bad,.int .i64 ((Au x_2.1.sg (xh x_2) x_2.2.2.2.2.2).deep-(1:Int)),AZ (Au x_2.1.sg (xh x_2) x_2.2.2.2.2.2).nodes],.int .i64 (18:Int),.str #[].toList,Ad i.2.2.2.2.1] fun x_3 y=>rA (IC n) x [.int .i64 (AW (xh x_3)),srd x_3.1 (An (xh x_3) {kind:=x_3.2.2.2.2.2.1,text:=x_3.2.2.2.2.2.2.1,kids:=x_3.2.2.2.2.2.2.2,blank:=false})])) (inR IntKind.i64 ((iG i).deep-(1:Int))∧cA Bq [.box 0 [sgs x.1.sg,.int .i64 (iG i).pos,.bool (iG i).bad,.int .i64 ((iG i).deep-(1:Int)),AZ (iG i).nodes],.int .i64 (18:Int),.str #[].toList,Ad i.2.2.2.2.1] fun x_2 y=>rA (IC n) x [.int .i64 (AW (xh x_2)),srd x_2.1 (An (xh x_2) {kind:=x_2.2.2.2.2.2.1,text:=x_2.2.2.2.2.2.2.1,kids:=x_2.2.2.2.2.2.2.2,blank:=false})])) (eA (KZ n x) [.box 0 [sgs x_1.1.sg,.int .i64 (As x_1.1.sg (xh x_1) x_1.2.2.2.2.2).pos,.bool (As x_1.1.sg (xh x_1) x_1.2.2.2.2.2).bad,.int .i64 ((As x_1.1.sg (xh x_1) x_1.2.2.2.2.2).deep+(1:Int)),AZ (As x_1.1.sg (xh x_1) x_1.2.2.2.2.2).nodes],Ad []]∧∀(i:Int×Int×Bool×List Nd×List Int×Nat),mbS x.1.sg n (xg x) (iG i) i.2.2.2.2.1 i.2.2.2.2.2→Ab (!(iG i).bad) (cA Cb [srd x.1 (iG i),.str #[(125:UInt8)].toList] fun x_2 y=>Ab (!isG x_2.1.sg (xh x_2) (4:Int) x_2.2.2.2.2.2) (cA Gg [srd x_2.1 (Au x_2.1.sg (xh x_2) x_2.2.2.2.2.2)] fun x_3 y=>Ab (blG x_3.1.sg (xg x_3)) (cA (Kb n) [srd x_3.1 (xg x_3)] fun x_4 y=>cA Er [srd x_4.1 (yG y.2),.int .i64 y.1,.bool (decide ((↑(List.length i.2.2.2.2.1):Int)>(0:Int)))] fun x_5 y_1=>∃(x_6:Int),y.1=x_6∧∃(zs:List Int),Ad [x_6]=Ad zs∧Br Bc∧Ba (List.length i.2.2.2.2.1+List.length zs) (8:Nat)∧eN (KZ n x) i [srd x_5.1 (gBl (xh x_5) x_5.2.2.2.2.2.1 x_5.2.2.2.2.2.2),Ad (i.2.2.2.2.1++zs)]) (cA (Kb n) [srd x_3.1 (xg x_3)] fun x_4 y=>cA Er [srd x_4.1 (yG y.2),.int .i64 y.1,.bool false] fun x_5 y_1=>∃(x_6:Int),y.1=x_6∧∃(zs:List Int),Ad [x_6]=Ad zs∧Br Bc∧Ba (List.length i.2.2.2.2.1+List.length zs) (8:Nat)∧eN (KZ n x) i [srd x_5.1 (gBl (xh x_5) x_5.2.2.2.2.2.1 x_5.2.2.2.2.2.2),Ad (i.2.2.2.2.1++zs)])) (inR IntKind.i64 ((Au x_2.1.sg (xh x_2) x_2.2.2.2.2.2).deep-(1:Int))∧cA Bq [.box 0 [sgs x_2.1.sg,.int .i64 (Au x_2.1.sg (xh x_2) x_2.2.2.2.2.2).pos,.bool (Au x_2.1.sg (xh x_2) x_2.2.2.2.2.2).bad,.int .i64 ((Au x_2.1.sg (xh x_2) x_2.2.2.2.2.2).deep-(1:Int)),AZ (Au x_2.1.sg (xh x_2) x_2.2.2.2.2.2).nodes],.int .i64 (18:Int),.str #[].toList,Ad i.2.2.2.2.1] fun x_3 y=>rA (IC n) x [.int .i64 (AW (xh x_3)),srd x_3.1 (An (xh x_3) {kind:=x_3.2.2.2.2.2.1,text:=x_3.2.2.2.2.2.2.1,kids:=x_3.2.2.2.2.2.2.2,blank:=false})])) (inR IntKind.i64 ((iG i).deep-(1:Int))∧cA Bq [.box 0 [sgs x.1.sg,.int .i64 (iG i).pos,.bool (iG i).bad,.int .i64 ((iG i).deep-(1:Int)),AZ (iG i).nodes],.int .i64 (18:Int),.str #[].toList,Ad i.2.2.2.2.1] fun x_2 y=>rA (IC n) x [.int .i64 (AW (xh x_2)),srd x_2.1 (An (xh x_2) {kind:=x_2.2.2.2.2.2.1,text:=x_2.2.2.2.2.2.2.1,kids:=x_2.2.2.2.2.2.2.2,blank:=false})]))) (fun x=>by kernel_rfl) fun(x:ST×Int×Int×Bool×List Nd) (hx:okQ x.1 (xg x)∧20-(xg x).deep≤(n:Int))=>(by
 dsimp only[cA,eA,eN,KZ,Bx,Ad,AZ,rA,Gg,Er,IC,Cb,Bq,Kb,BO,Df,sgs,srd,Aw,Az,mvL,lnL,mvE,lnE,Bv]
 obtain⟨s,p,d,b,ns⟩:=x;dsimp only[xg,xh] at hx ⊢
 obtain⟨hx,hn⟩:=hx
 have hx:okQ s ⟨p,d,b,ns⟩:=hx
 have hD:=EF hx;have hM:=Ou hx;have h1:=hD.1
 have td:=c0q hx
 (repeat' first|(with_reducible first|rfl|exact True.intro|apply AK|apply And.intro|((first|apply AA|apply AI|apply AB|apply AJ)<;>intro _))|(apply Ax<;>intro _)|apply AH|refine Af () ?_ ?_|((first|apply AO|apply AN|apply AM|apply AL|apply AG|apply AF|apply AE|apply AD|apply AC)<;>try dsimp only)|apply Af|(refine Prod.forall.2 ?_;intro _;try dsimp only)|(intro _;try dsimp only))
 all_goals(try dsimp only[xg,xh,yG,yS,iG,iF] at*)
 all_goals(try simp only[GE] at*)
 all_goals first
  |(show Nat;skip)
  |rfl
  |exact h1
  |exact c0o hx ‹_›
  |exact c0p hx ‹_›
  |exact Tz hx ‹_›
  |exact FO (Tz hx ‹_›)
  |exact(Yh hx hn ‹_› ‹_› ‹_›).1
  |exact(Yh hx hn ‹_› ‹_› ‹_›).2.1
  |exact(Yh hx hn ‹_› ‹_› ‹_›).2.2
  |exact Fs h1 ‹_›
  |exact Ot Yb ‹_›
  |exact Ot Yb ‹_› ‹_›
  |exact(TA ‹_› ‹_› ‹_› ‹_› (KV ‹_›)).1
  |exact(TA ‹_› ‹_› ‹_› ‹_› (KW ‹_›)).1
  |exact c0r hx ‹_› ‹_›
  |exact c0s hx ‹_› ‹_›
  |exact(Yj hx ‹_›).2.1
  |exact(Yj hx ‹_›).2.2.1
  |(simp [Ba];done)
  |(have hq:=Yi hx (show mbS _ _ _ _ _ _ by assumption);(try simp only[Ba,List.length_append,List.length_cons,List.length_nil]);omega)
  |(have hq:=Yj hx (show mbS _ _ _ _ _ _ by assumption);(try dsimp only at hq);(try simp only[AQ]);omega)
  |((try simp only[AQ]);omega)
  |skip
 all_goals first
  |exact(TA ‹_› ‹_› ‹_› ‹_› (KV ‹_›)).2
  |exact(TA ‹_› ‹_› ‹_› ‹_› (KW ‹_›)).2
  |skip)
def GK(n:Nat):Sig:= {X:=ST×Int×Int×Bool×List Nd,args:=fun x=>[srd x.1 (xg x)],pre:=fun x=>(okQ x.1 (xg x)∧(xg x).bad=false)∧21-(xg x).deep≤(n+1:Nat),Y:=Int×Int×Int×Bool×List Nd,post:=fun x y=>Ah x.1.sg (xg x) (stR x.1.sg (n+1) false) (yS y),res:=fun x y=> .int .i64 y.1,outs:=fun x y=>[srd x.1 (yG y.2)],keep:=true}
theorem c0N(n:Nat)(h:Al G Go.Proofs.Tryz.prog 92 (Kb n)):Al G Tryz.prog 92 (GK n):=
 vcFun_okP [(58,0,Jl),(59,0,CF),(36,0,Bq),(60,0,EY),(61,0,Hq),(90,0,Eg),(91,0,Gh),(62,0,BO),(111,0,MI),(65,0,(IC n))] [(25,⟨Int,Bc⟩)] false (fun x=>[]) Tryz.func92 rfl (by decide) ⟨c0L,KX,HR,XD,Yk,Qs,XW,Ix,c0M,(a6l n h),trivial⟩ (fun(x:ST×Int×Int×Bool×List Nd)=>True∧cA Jl [srd x.1 (xg x),.int .i64 (5:Int)] fun x_1 y=>Ab (kdG x_1.1.sg (xh x_1) x_1.2.2.2.2.2) (cA CF [srd x.1 (xg x),.int .i64 (5:Int)] fun x_2 y=>cA Bq [srd x_2.1 (Bi x_2.1.sg (xh x_2) x_2.2.2.2.2.2),.int .i64 (19:Int),.str (BC x_2.1.sg (xh x_2) x_2.2.2.2.2.2),Ad []] fun x_3 y=>rA (GK n) x [.int .i64 (AW (xh x_3)),srd x_3.1 (An (xh x_3) {kind:=x_3.2.2.2.2.2.1,text:=x_3.2.2.2.2.2.2.1,kids:=x_3.2.2.2.2.2.2.2,blank:=false})]) (cA EY [srd x.1 (xg x),.str #[(118:UInt8),(97:UInt8),(114:UInt8)].toList] fun x_2 y=>Ab (isG x_2.1.sg (xh x_2) (1:Int) x_2.2.2.2.2.2) (cA Hq [srd x_2.1 (BE x_2.1.sg (xh x_2) x_2.2.2.2.2.2)] fun x_3 y=>rA (GK n) x [.int .i64 y.1,srd x_3.1 (yG y.2)]) (cA EY [srd x_2.1 (BE x_2.1.sg (xh x_2) x_2.2.2.2.2.2),.str #[(114:UInt8),(101:UInt8),(116:UInt8),(117:UInt8),(114:UInt8),(110:UInt8)].toList] fun x_3 y=>Ab (isG x_3.1.sg (xh x_3) (1:Int) x_3.2.2.2.2.2) (cA Eg [srd x_3.1 (BE x_3.1.sg (xh x_3) x_3.2.2.2.2.2),.int .i64 (4:Int),.str #[(59:UInt8)].toList] fun x_4 y=>Ab (!isG x_4.1.sg (xh x_4) x_4.2.2.2.2.2.1 x_4.2.2.2.2.2.2) (cA Gh [srd x_4.1 (xh x_4)] fun x_5 y=>∃(x_6:Int),y.1=x_6∧∃(zs:List Int),Ad [x_6]=Ad zs∧Br Bc∧Ba ((0:Nat)+List.length zs) (8:Nat)∧cA BO [srd x_5.1 (yG y.2),.str #[(59:UInt8)].toList] fun x_7 y=>cA Bq [srd x_7.1 (As x_7.1.sg (xh x_7) x_7.2.2.2.2.2),.int .i64 (15:Int),.str #[].toList,Ad ([]++zs)] fun x_8 y=>rA (GK n) x [.int .i64 (AW (xh x_8)),srd x_8.1 (An (xh x_8) {kind:=x_8.2.2.2.2.2.1,text:=x_8.2.2.2.2.2.2.1,kids:=x_8.2.2.2.2.2.2.2,blank:=false})]) (cA BO [srd x_4.1 (xh x_4),.str #[(59:UInt8)].toList] fun x_5 y=>cA Bq [srd x_5.1 (As x_5.1.sg (xh x_5) x_5.2.2.2.2.2),.int .i64 (15:Int),.str #[].toList,Ad []] fun x_6 y=>rA (GK n) x [.int .i64 (AW (xh x_6)),srd x_6.1 (An (xh x_6) {kind:=x_6.2.2.2.2.2.1,text:=x_6.2.2.2.2.2.2.1,kids:=x_6.2.2.2.2.2.2.2,blank:=false})])) (cA EY [srd x_3.1 (BE x_3.1.sg (xh x_3) x_3.2.2.2.2.2),.str #[(105:UInt8),(102:UInt8)].toList] fun x_4 y=>Ab (isG x_4.1.sg (xh x_4) (1:Int) x_4.2.2.2.2.2) (cA MI [srd x_4.1 (BE x_4.1.sg (xh x_4) x_4.2.2.2.2.2)] fun x_5 y=>∃(x_6:Int),y.1=x_6∧cA (IC n) [srd x_5.1 (yG y.2)] fun x_7 y=>∃(x_8:Int),y.1=x_8∧∃(zs:List Int),Ad [x_8]=Ad zs∧Br Bc∧Ba (List.length [x_6]+List.length zs) (8:Nat)∧cA EY [srd x_7.1 (yG y.2),.str #[(101:UInt8),(108:UInt8),(115:UInt8),(101:UInt8)].toList] fun x_9 y=>Ab (isG x_9.1.sg (xh x_9) (1:Int) x_9.2.2.2.2.2) (cA (IC n) [srd x_9.1 (BE x_9.1.sg (xh x_9) x_9.2.2.2.2.2)] fun x_10 y=>∃(x_11:Int),y.1=x_11∧∃(CC:List Int),Ad [x_11]=Ad CC∧Br Bc∧Ba (List.length (x_6::List.append._f [] PUnit.unit zs)+List.length CC) (8:Nat)∧cA Bq [srd x_10.1 (yG y.2),.int .i64 (16:Int),.str #[].toList,Ad (x_6::List.append._f [] PUnit.unit zs++CC)] fun x_12 y=>rA (GK n) x [.int .i64 (AW (xh x_12)),srd x_12.1 (An (xh x_12) {kind:=x_12.2.2.2.2.2.1,text:=x_12.2.2.2.2.2.2.1,kids:=x_12.2.2.2.2.2.2.2,blank:=false})]) (cA Bq [srd x_9.1 (BE x_9.1.sg (xh x_9) x_9.2.2.2.2.2),.int .i64 (16:Int),.str #[].toList,Ad ([x_6]++zs)] fun x_10 y=>rA (GK n) x [.int .i64 (AW (xh x_10)),srd x_10.1 (An (xh x_10) {kind:=x_10.2.2.2.2.2.1,text:=x_10.2.2.2.2.2.2.1,kids:=x_10.2.2.2.2.2.2.2,blank:=false})])) (cA EY [srd x_4.1 (BE x_4.1.sg (xh x_4) x_4.2.2.2.2.2),.str #[(119:UInt8),(104:UInt8),(105:UInt8),(108:UInt8),(101:UInt8)].toList] fun x_5 y=>Ab (isG x_5.1.sg (xh x_5) (1:Int) x_5.2.2.2.2.2) (cA MI [srd x_5.1 (BE x_5.1.sg (xh x_5) x_5.2.2.2.2.2)] fun x_6 y=>∃(x_7:Int),y.1=x_7∧cA (IC n) [srd x_6.1 (yG y.2)] fun x_8 y=>∃(x_9:Int),y.1=x_9∧∃(zs:List Int),Ad [x_9]=Ad zs∧Br Bc∧Ba (List.length [x_7]+List.length zs) (8:Nat)∧cA Bq [srd x_8.1 (yG y.2),.int .i64 (17:Int),.str #[].toList,Ad ([x_7]++zs)] fun x_10 y=>rA (GK n) x [.int .i64 (AW (xh x_10)),srd x_10.1 (An (xh x_10) {kind:=x_10.2.2.2.2.2.1,text:=x_10.2.2.2.2.2.2.1,kids:=x_10.2.2.2.2.2.2.2,blank:=false})]) (true=true∧true=true∧∃(x_6:ST×Int×Int×Bool×List Nd×Int),(rOk x_6.1 (xh x_6)∧x_6.2.2.2.2.2≠(0:Int))∧AV.pf [AV.sl false 0 4 Sg (fun(x:Sg)=>fzL._f [.int .i64 x.kind,.str x.text,.int .i64 x.pos,.bool x.blank] ⟨AV.rec (fun(k:IntKind) (n:Int)=>⟨fz._f (AV.int k n) PUnit.unit,PUnit.unit⟩) (fun(b:Bool)=>⟨fz._f (.bool b) PUnit.unit,PUnit.unit⟩) (fun(l:List UInt8)=>⟨fz._f (.str l) PUnit.unit,PUnit.unit⟩) (fun(v:Value)=>⟨fz._f (.val v) PUnit.unit,PUnit.unit⟩) ⟨fz._f AV.any PUnit.unit,PUnit.unit⟩ ⟨fz._f .top PUnit.unit,PUnit.unit⟩ ⟨fz._f .nil PUnit.unit,PUnit.unit⟩ (fun(id:Nat)=>⟨fz._f (AV.hole id) PUnit.unit,PUnit.unit⟩) (fun(id:Nat)=>⟨fz._f (AV.al id) PUnit.unit,PUnit.unit⟩) (fun(id k sz off:Nat)=>⟨fz._f (AV.po id k sz off) PUnit.unit,PUnit.unit⟩) (fun(fs:List AV) (fs_ih:List AV×' AV.below_1 fs)=>⟨fz._f (.agg fs) fs_ih,fs_ih⟩) (fun(vs:List AV) (vs_ih:List AV×' AV.below_1 vs)=>⟨fz._f (.tup vs) vs_ih,vs_ih⟩) (fun(id:Nat) (c:List AV) (c_ih:List AV×' AV.below_1 c)=>⟨fz._f (.box id c) c_ih,c_ih⟩) (fun(x:Value) (c:List AV) (c_ih:List AV×' AV.below_1 c)=>⟨fz._f (AV.bv x c) c_ih,c_ih⟩) (fun(x:Value)=>⟨fz._f (AV.hv x) PUnit.unit,PUnit.unit⟩) (fun(c:List AV) (c_ih:List AV×' AV.below_1 c)=>⟨fz._f (AV.pf c) c_ih,c_ih⟩) (fun(fn:Fn) (caps:List AV) (caps_ih:List AV×' AV.below_1 caps)=>⟨fz._f (AV.clo fn caps) caps_ih,caps_ih⟩) (fun(own:Bool) (id sz:Nat) (α:Type) (f:α→List AV) (xs:List α) (f_ih:(a:α)→List AV×' AV.below_1 (f a))=>⟨fz._f (AV.sl own id sz α f xs) f_ih,f_ih⟩) ⟨fzL._f [] PUnit.unit,PUnit.unit⟩ (fun(head:AV) (tail:List AV) (head_ih:AV×' AV.below head) (tail_ih:List AV×' AV.below_1 tail)=>⟨fzL._f (head::tail) ⟨head_ih,tail_ih⟩,head_ih,tail_ih⟩) (.int .i64 x.kind),AV.rec_1 (fun(k:IntKind) (n:Int)=>⟨fz._f (AV.int k n) PUnit.unit,PUnit.unit⟩) (fun(b:Bool)=>⟨fz._f (.bool b) PUnit.unit,PUnit.unit⟩) (fun(l:List UInt8)=>⟨fz._f (.str l) PUnit.unit,PUnit.unit⟩) (fun(v:Value)=>⟨fz._f (.val v) PUnit.unit,PUnit.unit⟩) ⟨fz._f AV.any PUnit.unit,PUnit.unit⟩ ⟨fz._f .top PUnit.unit,PUnit.unit⟩ ⟨fz._f .nil PUnit.unit,PUnit.unit⟩ (fun(id:Nat)=>⟨fz._f (AV.hole id) PUnit.unit,PUnit.unit⟩) (fun(id:Nat)=>⟨fz._f (AV.al id) PUnit.unit,PUnit.unit⟩) (fun(id k sz off:Nat)=>⟨fz._f (AV.po id k sz off) PUnit.unit,PUnit.unit⟩) (fun(fs:List AV) (fs_ih:List AV×' AV.below_1 fs)=>⟨fz._f (.agg fs) fs_ih,fs_ih⟩) (fun(vs:List AV) (vs_ih:List AV×' AV.below_1 vs)=>⟨fz._f (.tup vs) vs_ih,vs_ih⟩) (fun(id:Nat) (c:List AV) (c_ih:List AV×' AV.below_1 c)=>⟨fz._f (.box id c) c_ih,c_ih⟩) (fun(x:Value) (c:List AV) (c_ih:List AV×' AV.below_1 c)=>⟨fz._f (AV.bv x c) c_ih,c_ih⟩) (fun(x:Value)=>⟨fz._f (AV.hv x) PUnit.unit,PUnit.unit⟩) (fun(c:List AV) (c_ih:List AV×' AV.below_1 c)=>⟨fz._f (AV.pf c) c_ih,c_ih⟩) (fun(fn:Fn) (caps:List AV) (caps_ih:List AV×' AV.below_1 caps)=>⟨fz._f (AV.clo fn caps) caps_ih,caps_ih⟩) (fun(own:Bool) (id sz:Nat) (α:Type) (f:α→List AV) (xs:List α) (f_ih:(a:α)→List AV×' AV.below_1 (f a))=>⟨fz._f (AV.sl own id sz α f xs) f_ih,f_ih⟩) ⟨fzL._f [] PUnit.unit,PUnit.unit⟩ (fun(head:AV) (tail:List AV) (head_ih:AV×' AV.below head) (tail_ih:List AV×' AV.below_1 tail)=>⟨fzL._f (head::tail) ⟨head_ih,tail_ih⟩,head_ih,tail_ih⟩) [.str x.text,.int .i64 x.pos,.bool x.blank]⟩) x_5.1.sg,.int .i64 (BE x_5.1.sg (xh x_5) x_5.2.2.2.2.2).pos,.bool (BE x_5.1.sg (xh x_5) x_5.2.2.2.2.2).bad,.int .i64 (BE x_5.1.sg (xh x_5) x_5.2.2.2.2.2).deep,AV.sl false 0 4 Nd (fun(x:Nd)=>fzL._f [.int .i64 x.kind,.str x.text,Ad x.kids,.bool x.blank] ⟨AV.rec (fun(k:IntKind) (n:Int)=>⟨fz._f (AV.int k n) PUnit.unit,PUnit.unit⟩) (fun(b:Bool)=>⟨fz._f (.bool b) PUnit.unit,PUnit.unit⟩) (fun(l:List UInt8)=>⟨fz._f (.str l) PUnit.unit,PUnit.unit⟩) (fun(v:Value)=>⟨fz._f (.val v) PUnit.unit,PUnit.unit⟩) ⟨fz._f AV.any PUnit.unit,PUnit.unit⟩ ⟨fz._f .top PUnit.unit,PUnit.unit⟩ ⟨fz._f .nil PUnit.unit,PUnit.unit⟩ (fun(id:Nat)=>⟨fz._f (AV.hole id) PUnit.unit,PUnit.unit⟩) (fun(id:Nat)=>⟨fz._f (AV.al id) PUnit.unit,PUnit.unit⟩) (fun(id k sz off:Nat)=>⟨fz._f (AV.po id k sz off) PUnit.unit,PUnit.unit⟩) (fun(fs:List AV) (fs_ih:List AV×' AV.below_1 fs)=>⟨fz._f (.agg fs) fs_ih,fs_ih⟩) (fun(vs:List AV) (vs_ih:List AV×' AV.below_1 vs)=>⟨fz._f (.tup vs) vs_ih,vs_ih⟩) (fun(id:Nat) (c:List AV) (c_ih:List AV×' AV.below_1 c)=>⟨fz._f (.box id c) c_ih,c_ih⟩) (fun(x:Value) (c:List AV) (c_ih:List AV×' AV.below_1 c)=>⟨fz._f (AV.bv x c) c_ih,c_ih⟩) (fun(x:Value)=>⟨fz._f (AV.hv x) PUnit.unit,PUnit.unit⟩) (fun(c:List AV) (c_ih:List AV×' AV.below_1 c)=>⟨fz._f (AV.pf c) c_ih,c_ih⟩) (fun(fn:Fn) (caps:List AV) (caps_ih:List AV×' AV.below_1 caps)=>⟨fz._f (AV.clo fn caps) caps_ih,caps_ih⟩) (fun(own:Bool) (id sz:Nat) (α:Type) (f:α→List AV) (xs:List α) (f_ih:(a:α)→List AV×' AV.below_1 (f a))=>⟨fz._f (AV.sl own id sz α f xs) f_ih,f_ih⟩) ⟨fzL._f [] PUnit.unit,PUnit.unit⟩ (fun(head:AV) (tail:List AV) (head_ih:AV×' AV.below head) (tail_ih:List AV×' AV.below_1 tail)=>⟨fzL._f (head::tail) ⟨head_ih,tail_ih⟩,head_ih,tail_ih⟩) (.int .i64 x.kind),AV.rec_1 (fun(k:IntKind) (n:Int)=>⟨fz._f (AV.int k n) PUnit.unit,PUnit.unit⟩) (fun(b:Bool)=>⟨fz._f (.bool b) PUnit.unit,PUnit.unit⟩) (fun(l:List UInt8)=>⟨fz._f (.str l) PUnit.unit,PUnit.unit⟩) (fun(v:Value)=>⟨fz._f (.val v) PUnit.unit,PUnit.unit⟩) ⟨fz._f AV.any PUnit.unit,PUnit.unit⟩ ⟨fz._f .top PUnit.unit,PUnit.unit⟩ ⟨fz._f .nil PUnit.unit,PUnit.unit⟩ (fun(id:Nat)=>⟨fz._f (AV.hole id) PUnit.unit,PUnit.unit⟩) (fun(id:Nat)=>⟨fz._f (AV.al id) PUnit.unit,PUnit.unit⟩) (fun(id k sz off:Nat)=>⟨fz._f (AV.po id k sz off) PUnit.unit,PUnit.unit⟩) (fun(fs:List AV) (fs_ih:List AV×' AV.below_1 fs)=>⟨fz._f (.agg fs) fs_ih,fs_ih⟩) (fun(vs:List AV) (vs_ih:List AV×' AV.below_1 vs)=>⟨fz._f (.tup vs) vs_ih,vs_ih⟩) (fun(id:Nat) (c:List AV) (c_ih:List AV×' AV.below_1 c)=>⟨fz._f (.box id c) c_ih,c_ih⟩) (fun(x:Value) (c:List AV) (c_ih:List AV×' AV.below_1 c)=>⟨fz._f (AV.bv x c) c_ih,c_ih⟩) (fun(x:Value)=>⟨fz._f (AV.hv x) PUnit.unit,PUnit.unit⟩) (fun(c:List AV) (c_ih:List AV×' AV.below_1 c)=>⟨fz._f (AV.pf c) c_ih,c_ih⟩) (fun(fn:Fn) (caps:List AV) (caps_ih:List AV×' AV.below_1 caps)=>⟨fz._f (AV.clo fn caps) caps_ih,caps_ih⟩) (fun(own:Bool) (id sz:Nat) (α:Type) (f:α→List AV) (xs:List α) (f_ih:(a:α)→List AV×' AV.below_1 (f a))=>⟨fz._f (AV.sl own id sz α f xs) f_ih,f_ih⟩) ⟨fzL._f [] PUnit.unit,PUnit.unit⟩ (fun(head:AV) (tail:List AV) (head_ih:AV×' AV.below head) (tail_ih:List AV×' AV.below_1 tail)=>⟨fzL._f (head::tail) ⟨head_ih,tail_ih⟩,head_ih,tail_ih⟩) [.str x.text,Ad x.kids,.bool x.blank]⟩) (BE x_5.1.sg (xh x_5) x_5.2.2.2.2.2).nodes]=AV.pf [sgs x_6.1.sg,.int .i64 (xh x_6).pos,.bool (xh x_6).bad,.int .i64 (xh x_6).deep,nds (xh x_6).nodes]∧(1:Int)=x_6.2.2.2.2.2∧∃(y0:Unit),(∀(y:Unit),True→AV.bool (kdG x_6.1.sg (xh x_6) x_6.2.2.2.2.2)=AV.bool (kdG x_6.1.sg (xh x_6) x_6.2.2.2.2.2))∧true=true∧Ab (kdG x_6.1.sg (xh x_6) x_6.2.2.2.2.2) (inR IntKind.i64 ((BE x_5.1.sg (xh x_5) x_5.2.2.2.2.2).pos+(1:Int))∧Ab (decide ((BE x_5.1.sg (xh x_5) x_5.2.2.2.2.2).pos+(1:Int)<(↑(List.length x_5.1.sg):Int))) (inR IntKind.i64 ((BE x_5.1.sg (xh x_5) x_5.2.2.2.2.2).pos+(1:Int))∧((0:Int)≤(BE x_5.1.sg (xh x_5) x_5.2.2.2.2.2).pos+(1:Int)∧(BE x_5.1.sg (xh x_5) x_5.2.2.2.2.2).pos+(1:Int)<(↑(List.length x_5.1.sg):Int))∧∀(e:Sg),x_5.1.sg[Int.toNat ((BE x_5.1.sg (xh x_5) x_5.2.2.2.2.2).pos+(1:Int))]? =some e→Ab (e.kind==(4:Int)) (inR IntKind.i64 ((BE x_5.1.sg (xh x_5) x_5.2.2.2.2.2).pos+(1:Int))∧((0:Int)≤(BE x_5.1.sg (xh x_5) x_5.2.2.2.2.2).pos+(1:Int)∧(BE x_5.1.sg (xh x_5) x_5.2.2.2.2.2).pos+(1:Int)<(↑(List.length x_5.1.sg):Int))∧∀(e:Sg),x_5.1.sg[Int.toNat ((BE x_5.1.sg (xh x_5) x_5.2.2.2.2.2).pos+(1:Int))]? =some e→Ab (e.text== #[(61:UInt8)].toList) (cA CF [srd x_5.1 (BE x_5.1.sg (xh x_5) x_5.2.2.2.2.2),.int .i64 (1:Int)] fun x_7 y=>cA BO [srd x_7.1 (Bi x_7.1.sg (xh x_7) x_7.2.2.2.2.2),.str #[(61:UInt8)].toList] fun x_8 y=>cA Gh [srd x_8.1 (As x_8.1.sg (xh x_8) x_8.2.2.2.2.2)] fun x_9 y=>cA BO [srd x_9.1 (yG y.2),.str #[(59:UInt8)].toList] fun x_10 y_1=>∃(x_11:Int),y.1=x_11∧cA Bq [srd x_10.1 (As x_10.1.sg (xh x_10) x_10.2.2.2.2.2),.int .i64 (13:Int),.str (BC x_7.1.sg (xh x_7) x_7.2.2.2.2.2),Ad [x_11]] fun x_12 y=>rA (GK n) x [.int .i64 (AW (xh x_12)),srd x_12.1 (An (xh x_12) {kind:=x_12.2.2.2.2.2.1,text:=x_12.2.2.2.2.2.2.1,kids:=x_12.2.2.2.2.2.2.2,blank:=false})]) (cA Gh [srd x_5.1 (BE x_5.1.sg (xh x_5) x_5.2.2.2.2.2)] fun x_7 y=>cA BO [srd x_7.1 (yG y.2),.str #[(59:UInt8)].toList] fun x_8 y_1=>∃(x_9:Int),y.1=x_9∧cA Bq [srd x_8.1 (As x_8.1.sg (xh x_8) x_8.2.2.2.2.2),.int .i64 (14:Int),.str #[].toList,Ad [x_9]] fun x_10 y=>rA (GK n) x [.int .i64 (AW (xh x_10)),srd x_10.1 (An (xh x_10) {kind:=x_10.2.2.2.2.2.1,text:=x_10.2.2.2.2.2.2.1,kids:=x_10.2.2.2.2.2.2.2,blank:=false})])) (cA Gh [srd x_5.1 (BE x_5.1.sg (xh x_5) x_5.2.2.2.2.2)] fun x_7 y=>cA BO [srd x_7.1 (yG y.2),.str #[(59:UInt8)].toList] fun x_8 y_1=>∃(x_9:Int),y.1=x_9∧cA Bq [srd x_8.1 (As x_8.1.sg (xh x_8) x_8.2.2.2.2.2),.int .i64 (14:Int),.str #[].toList,Ad [x_9]] fun x_10 y=>rA (GK n) x [.int .i64 (AW (xh x_10)),srd x_10.1 (An (xh x_10) {kind:=x_10.2.2.2.2.2.1,text:=x_10.2.2.2.2.2.2.1,kids:=x_10.2.2.2.2.2.2.2,blank:=false})])) (cA Gh [srd x_5.1 (BE x_5.1.sg (xh x_5) x_5.2.2.2.2.2)] fun x_7 y=>cA BO [srd x_7.1 (yG y.2),.str #[(59:UInt8)].toList] fun x_8 y_1=>∃(x_9:Int),y.1=x_9∧cA Bq [srd x_8.1 (As x_8.1.sg (xh x_8) x_8.2.2.2.2.2),.int .i64 (14:Int),.str #[].toList,Ad [x_9]] fun x_10 y=>rA (GK n) x [.int .i64 (AW (xh x_10)),srd x_10.1 (An (xh x_10) {kind:=x_10.2.2.2.2.2.1,text:=x_10.2.2.2.2.2.2.1,kids:=x_10.2.2.2.2.2.2.2,blank:=false})])) (cA Gh [srd x_5.1 (BE x_5.1.sg (xh x_5) x_5.2.2.2.2.2)] fun x_7 y=>cA BO [srd x_7.1 (yG y.2),.str #[(59:UInt8)].toList] fun x_8 y_1=>∃(x_9:Int),y.1=x_9∧cA Bq [srd x_8.1 (As x_8.1.sg (xh x_8) x_8.2.2.2.2.2),.int .i64 (14:Int),.str #[].toList,Ad [x_9]] fun x_10 y=>rA (GK n) x [.int .i64 (AW (xh x_10)),srd x_10.1 (An (xh x_10) {kind:=x_10.2.2.2.2.2.1,text:=x_10.2.2.2.2.2.2.1,kids:=x_10.2.2.2.2.2.2.2,blank:=false})]))))))) (fun x=>by kernel_rfl) fun(x:ST×Int×Int×Bool×List Nd) (hx:(okQ x.1 (xg x)∧(xg x).bad=false)∧21-(xg x).deep≤(n+1:Nat))=>(by
 dsimp only[cA,Bx,nds,Ad,AZ,rA,IC,MI,Eg,Jl,Bq,GK,CF,Gh,Hq,BO,EY,Df,sgs,srd,srf,Aw,Az,mvL,lnL,mvE,lnE]
 obtain⟨s,p,d,b,ns⟩:=x;dsimp only[xg,xh] at hx ⊢
 obtain⟨⟨hx,hb⟩,hd⟩:=hx
 have hx:okQ s ⟨p,d,b,ns⟩:=hx
 have hD:=EF hx;have hM:=Ou hx;have h1:=hD.1
 (repeat' first|(show AV.pf _=AV.pf _;first|exact a6k|(with_unfolding_all exact a6k)|(with_unfolding_all rfl))|(with_reducible first|rfl|exact True.intro|apply AK|apply And.intro|((first|apply AA|apply AI|apply AB|apply AJ)<;>intro _))|(apply Ax<;>intro _)|apply AH|refine Af () ?_ ?_|((first|apply AO|apply AN|apply AM|apply AL|apply AG|apply AF|apply AE|apply AD|apply AC)<;>try dsimp only)|apply Af|(refine Prod.forall.2 ?_;intro _;try dsimp only)|(intro _;try dsimp only))
 all_goals(try dsimp only[xg,xh,yG,yS,iG,iF] at*)
 all_goals(try simp only[GE] at*)
 all_goals(try(have e:=JZ (show isG s.sg ⟨p,d,b,ns⟩ 1 [118,97,114]=false by assumption);simp only[e] at*))
 all_goals(try(have e:=Ka (show isG s.sg ⟨p,d,b,ns⟩ 1 [118,97,114]=true by assumption);simp only[e] at*))
 all_goals(try(have e:=JZ (show isG s.sg ⟨p,d,b,ns⟩ 1 [114,101,116,117,114,110]=false by assumption);simp only[e] at*))
 all_goals(try(have e:=Ka (show isG s.sg ⟨p,d,b,ns⟩ 1 [114,101,116,117,114,110]=true by assumption);simp only[e] at*))
 all_goals(try(have e:=JZ (show isG s.sg ⟨p,d,b,ns⟩ 1 [105,102]=false by assumption);simp only[e] at*))
 all_goals(try(have e:=Ka (show isG s.sg ⟨p,d,b,ns⟩ 1 [105,102]=true by assumption);simp only[e] at*))
 all_goals(try(have e:=JZ (show isG s.sg ⟨p,d,b,ns⟩ 1 [119,104,105,108,101]=false by assumption);simp only[e] at*))
 all_goals(try(have e:=Ka (show isG s.sg ⟨p,d,b,ns⟩ 1 [119,104,105,108,101]=true by assumption);simp only[e] at*))
 all_goals first
  |rfl
  |exact h1
  |exact hM
  |omega
  |(simp;done)
  |exact c0t hx ‹_›
  |exact HS h1 (by omega)
  |exact GJ hx ‹_›
  |exact EF (GJ hx ‹_›)
  |exact(EF (GJ hx ‹_›)).1
  |exact c0u hx ‹_› ‹_› ‹_›
  |exact c0w hx ‹_› ‹_› ‹_› ‹_› ‹_›
  |exact c0v hx ‹_› ‹_› ‹_› ‹_›
  |exact Fs h1 ‹_›
  |exact(Hn (Fs h1 ‹_›)).1
  |exact(Hn (EF (GJ hx ‹_›)).1).1
  |exact c0H hx ‹_› ‹_› ‹_› ‹_› ‹_› (c0G (x:=⟨p,d,b,ns⟩) hb ‹_› ‹_› (c0A ‹_› ‹_›) (c0C ‹_› ‹_›)) ‹_›
  |exact TB hx ‹_› ‹_› ‹_› ‹_› ‹_› (c0E ‹_›) ‹_›
  |exact TB hx ‹_› ‹_› ‹_› ‹_› ‹_› (c0F (x:=⟨p,d,b,ns⟩) ‹_›) ‹_›
  |exact TB hx ‹_› ‹_› ‹_› ‹_› ‹_› (a6f (x:=⟨p,d,b,ns⟩) hb ‹_› (.inl (c0B ‹_› ‹_›))) ‹_›
  |exact TB hx ‹_› ‹_› ‹_› ‹_› ‹_› (a6f (x:=⟨p,d,b,ns⟩) hb ‹_› (.inr (c0D ‹_› ‹_›))) ‹_›
  |(have hq:=He h1;dsimp only at hq;(try simp only[AQ]);omega)
  |exact(a6g hx).1
  |exact EF (a6g hx).2
  |exact hD
  |(simp [Ba];done)
  |exact(show Ba 2 8 by simp [Ba])
  |exact(show Ba 3 8 by simp [Ba])
  |skip
 all_goals(try(have hc:=(show BG s.sg (Aq ⟨p,d,b,ns⟩) (DI s.sg) _ by assumption);have k0:=GJ hx (show isG s.sg ⟨p,d,b,ns⟩ 1 _=true by assumption);have k1:=c0I k0 hc;have k2:=c0J (n:=n) (x:=⟨p,d,b,ns⟩) hd hc))
 all_goals first
  |exact k1
  |exact k2
  |exact(EF (Ov k1 ‹_›)).1
  |exact a6i (EF (Ov k1 ‹_›)).1
  |exact GJ (Ov k1 ‹_›) ‹_›
  |exact a6j (Ov k1 ‹_›)
  |(have hh:=c0K (m:=[101,108,115,101]) k2 (show Ah s.sg _ (BM s.sg _) _ by assumption);exact hh)
  |exact Fs h1 ‹_›
  |exact c0x hx ‹_› ‹_› ‹_› ‹_› ‹_› ‹_› ‹_›
  |exact c0y hx ‹_› ‹_› ‹_› ‹_› ‹_› ‹_› ‹_› ‹_›
  |exact c0z hx ‹_› ‹_› ‹_› ‹_› ‹_› ‹_› ‹_›
  |exact(EF (Ov (a6j (Ov k1 ‹_›)) ‹_›)).1
  |exact h1
  |skip)
end Go.My
end
section
namespace Go.My
open Go.Eng Go.Proofs
variable {G:GInv}
theorem c0O(n:Nat):Al G Go.Proofs.Tryz.prog 92 (Kb n):=by
 induction n with
 |zero=>exact MA Tryz.func92 rfl (by decide) (fun x h=>by have h1:=h.1.1.1.2;have h2:=h.2;omega)
 |succ n ih=>exact c0N n ih
def MJ:Sig:= {X:=ST×Int×Int×Bool×List Nd,args:=fun x=>[srd x.1 (xg x)],pre:=fun x=>okQ x.1 (xg x),Y:=Int×Int×Int×Bool×List Nd,post:=fun x y=>Ah x.1.sg (xg x) (FJ x.1.sg) (yS y),res:=fun x y=> .int .i64 y.1,outs:=fun x y=>[srd x.1 (yG y.2)],keep:=true}
theorem a6m{s:ST}{g:Gs}(h:okQ s g):okQ s g∧20-g.deep≤(stN:Int):=by
 have h1:=h.1.1.2.2.1.1
 exact⟨h,by unfold stN;omega⟩
theorem a6n:Al G Go.Proofs.Tryz.prog 65 MJ:=
 have c:=a6l (G:=G) stN (c0O stN)
 ⟨⟨c.1.1,fun x y hx hy=>c.1.2 x y (a6m hx) hy⟩,fun x hx=>c.2 x (a6m hx)⟩
theorem a6o{s:ST}{x:Gs}{v:List Int×Gs}(h:okQ s x)(hv:vlQ s.sg (BS s.sg) [41] [] (As s.sg (Bi s.sg x 1) [40]) v):okQ s v.2:=by
 have a:=Hn (m:=[40]) (HS (k:=1) h.1.1 (by omega))
 have e:(Bi s.sg x 1).deep=x.deep:=by unfold Bi;split<;>rfl
 obtain⟨b1,b2,b3,b4⟩:=XL h.1.1.1 hv
 exact⟨⟨b1,by have:=h.1.2;omega⟩,h.2⟩
theorem a6p{s:ST}{x:Gs}{v:List Int×Gs}{q:Int×Gs}(h:okQ s x)(hv:vlQ s.sg (BS s.sg) [41] [] (As s.sg (Bi s.sg x 1) [40]) v)(hq:Ah s.sg v.2 (FJ s.sg) q):
 Ah s.sg x (Gy s.sg false) (AW q.2,An q.2 ⟨20,BC s.sg x 1,v.1++[q.1],false⟩):=by
 rw[Iz.1] at hv;rw[Iz.2]
 obtain⟨l,⟨a,b⟩,rfl⟩:=hv
 exact b7I (l:=l) h.1.1.1 h.1.1.2 a b hq
def clS(sg:List Sg)(x y:Gs)(ks:List Int)(N:Nat):Prop:=KU sg (Dk sg) [125] (As sg (Bi sg (Aq x) 1) [123]) y ks N∧y.deep=x.deep
theorem a6q{s:ST}{x:Gs}(h:okQ s (Aq x)):clS s.sg x (As s.sg (Bi s.sg (Aq x) 1) [123]) [] (s.sg.length+1):=by
 have a:=HS (k:=1) h.1.1 (by omega)
 refine⟨a4U (Hn a).1.2,?_⟩
 rw[(Hn a).2];unfold Bi;split<;>rfl
theorem c0P{s:ST}{x:Gs}(h:okQ s x)(h1:isG s.sg x 1 [118,97,114]=false)(h2:isG s.sg (BE s.sg x [118,97,114]) 1 [99,108,97,115,115]=true):
 clS s.sg x (As s.sg (Bi s.sg (BE s.sg (BE s.sg x [118,97,114]) [99,108,97,115,115]) 1) [123]) [] (s.sg.length+1):=by
 rw[JZ h1] at h2 ⊢
 rw[Ka h2];exact a6q (GJ h h2)
theorem c0Q{s:ST}{x:Gs}(h:okQ s (Aq x)):rOk s (Bi s.sg (Aq x) 1)∧rOk s (As s.sg (Bi s.sg (Aq x) 1) [123]):=
 have a:=HS (k:=1) h.1.1 (by omega)
 ⟨a,(Hn a).1⟩
theorem Yl{s:ST}{x y:Gs}{ks:List Int}{N:Nat}(h:okQ s (Aq x))(hj:clS s.sg x y ks N):okQ s y:=⟨⟨⟨h.1.1.1,hj.1.1.1⟩,by have:=hj.2;have:=h.1.2;simp only[Aq] at*;omega⟩,h.2⟩
theorem a6r{s:ST}{x y:Gs}{ks:List Int}{N:Nat}(h:okQ s (Aq x))(hj:clS s.sg x y ks N)(hb:y.bad=false)(hq:isG s.sg y 4 [125]=false):okQ s (Au s.sg y [125])∧(Au s.sg y [125]).bad=false:=by
 rw[DJ hq];exact⟨Yl h hj,hb⟩
theorem Ym{s:ST}{x y:Gs}{ks:List Int}{N:Nat}(h:okQ s (Aq x))(hj:clS s.sg x y ks N):ks.length≤3001:=by
 have:=hj.1.2.2.1;have:=hj.1.1.1.1;have:=h.1.1.1.1;omega
theorem La{s:ST}{x y:Gs}{ks:List Int}{N:Nat}{b:Bool}{z:Int×Gs}(hj:clS s.sg x y ks N)(hb:y.bad=false)(hq:isG s.sg y 4 [125]=false)(hz:Ah s.sg (Au s.sg y [125]) (Dk s.sg false) z)(e:b=(blG s.sg (Au s.sg y [125])&&decide (0<(ks.length:Int)))):
 clS s.sg x (gBl z.2 z.1 b) (ks++[z.1]) (N-1)∧N-1<N:=by
 rw[DJ hq] at hz e
 rw[Yf hb] at e
 have hz2:Ah s.sg y (Dk s.sg b) (z.1,gBl z.2 z.1 b):=Ye Yc hz
 subst e
 obtain⟨a,b⟩:=Og (a4Y hj.1 hb hq (z:=(z.1,gBl z.2 z.1 ((pkG s.sg y 0).blank&&decide (0<(ks.length:Int))))) (by
  have:decide (0<ks.length)=decide (0<(ks.length:Int)):=by simp
  rw[this];exact hz2))
 have:=(CX hz2).1
 exact⟨⟨a,by have:=hj.2;simp only at*;omega⟩,b⟩
theorem a6s{s:ST}{x:Gs}{l:List Int×Gs}(h:okQ s (Aq x))(hl:BG s.sg (As s.sg (Bi s.sg (Aq x) 1) [123]) (CO s.sg (Dk s.sg) [125] (s.sg.length+1) []) l)(hll:l.1.length≤3001):
 Ah s.sg (Aq x) (Hd s.sg false) (AW (As s.sg l.2 [125]),An (As s.sg l.2 [125]) ⟨21,BC s.sg (Aq x) 1,l.1,false⟩):=by
 rw[Iz.1] at hl;rw[Iz.2]
 exact Iy hl.1 (EX (JU h.1.1.1) (by omega)) (b7J h.1.1.1 h.1.1.2 hl hll)
theorem c0R{s:ST}{x y:Gs}{ks:List Int}{N:Nat}(h:okQ s (Aq x))(hj:clS s.sg x y ks N)(hq:isG s.sg y 4 [125]=true):
 Ah s.sg (Aq x) (Hd s.sg false) (AW (Au s.sg y [125]),An (Au s.sg y [125]) ⟨21,BC s.sg (Aq x) 1,ks,false⟩):=by
 rw[EE hq,←JW hq];exact a6s (l:=(ks,y)) h (a4X hj.1 hq) (Ym h hj)
theorem c0S{s:ST}{x y:Gs}{ks:List Int}{N:Nat}(h:okQ s (Aq x))(hj:clS s.sg x y ks N)(hb:y.bad=true):
 Ah s.sg (Aq x) (Hd s.sg false) (AW y,An y ⟨21,BC s.sg (Aq x) 1,ks,false⟩):=by
 have a:=a6s (l:=(ks,y)) h (a4V hj.1 hb) (Ym h hj)
 simp only[Tk hb] at a;exact a
theorem c0T{s:ST}{x:Gs}(h:okQ s x)(hk:kdG s.sg x 5=true):Ah s.sg x (Dk s.sg false) (AW (Bi s.sg x 5),An (Bi s.sg x 5) ⟨19,BC s.sg x 5,[],false⟩):=by
 have hn:=hk
 rw[Qt (by omega)] at hn
 exact On h.1.1.1 h.1.1.2 (by omega) hk (b7K h.1.1.1 h.1.1.2 (by simpa using hn))
theorem c0U{s:ST}{x:Gs}(h:okQ s x)(hk:kdG s.sg x 5=true):Ah s.sg x (Dw s.sg false) (AW (Bi s.sg x 5),An (Bi s.sg x 5) ⟨19,BC s.sg x 5,[],false⟩):=by
 have hn:=hk
 rw[Qt (by omega)] at hn
 exact On h.1.1.1 h.1.1.2 (by omega) hk (b7N h.1.1.1 h.1.1.2 (by simpa using hn))
theorem c0V{s:ST}{x:Gs}{z:Int×Gs}(h:okQ s x)(hk:kdG s.sg x 5=false)(hq:isG s.sg x 1 [118,97,114]=true)(hz:Ah s.sg (Aq x) (DA s.sg false) z):Ah s.sg x (Dk s.sg false) z:=b7L h.1.1.2 (Hp hk) hq hz
theorem c0W{s:ST}{x:Gs}{z:Int×Gs}(h:okQ s x)(hk:kdG s.sg x 5=false)(hq:isG s.sg x 1 [118,97,114]=true)(hz:Ah s.sg (Aq x) (DA s.sg false) z):Ah s.sg x (Dw s.sg false) z:=b7O h.1.1.2 (Hp hk) hq hz
theorem c0X{s:ST}{x:Gs}{z:Int×Gs}(h:okQ s x)(hk:kdG s.sg x 5=false)(hq:isG s.sg x 1 [118,97,114]=false)(hz:Ah s.sg x (Gy s.sg false) z):Ah s.sg x (Dk s.sg false) z:=b7M h.1.1.2 (Hp hk) hq hz
theorem c0Y{s:ST}{x:Gs}{z:Int×Gs}(h:okQ s x)(hk:kdG s.sg x 5=false)(h1:isG s.sg x 1 [118,97,114]=false)(hq:isG s.sg x 1 [99,108,97,115,115]=false)(hz:Ah s.sg x (Gy s.sg false) z):Ah s.sg x (Dw s.sg false) z:=b7Q h.1.1.2 (Hp hk) h1 hq hz
theorem a6t{s:ST}{x:Gs}{z:Int×Gs}(h:okQ s x)(hk:kdG s.sg x 5=false)(h1:isG s.sg x 1 [118,97,114]=false)(hq:isG s.sg x 1 [99,108,97,115,115]=true)(hz:Ah s.sg (Aq x) (Hd s.sg false) z):Ah s.sg x (Dw s.sg false) z:=b7P h.1.1.2 (Hp hk) h1 hq hz
def a6u:Sig:= {X:=ST×Int×Int×Bool×List Nd,args:=fun x=>[srd x.1 (xg x),.bool false],pre:=fun x=>False,Y:=Int×Int×Int×Bool×List Nd,post:=fun x y=>True,res:=fun x y=> .int .i64 y.1,outs:=fun x y=>[srd x.1 (yG y.2),.top],keep:=true}
theorem c0Z:Al G Go.Proofs.Tryz.prog 34 a6u:=MA Tryz.func34 rfl (by decide) (fun x h=>h)
attribute [local irreducible] pE Bw Dg fnR Ah BG gsOk As CP An Dp EA Au Ed Eo AW CQ pkG isG nmG kdG Bi BC BS vlQ BE gBl blG DA Hm DI Cm BM stR CO okQ sgM clS Dk Dw Gy Hd FJ
def Kc:Sig:= {X:=ST×Int×Int×Bool×List Nd,args:=fun x=>[srd x.1 (xg x),.bool false],pre:=fun x=>okQ x.1 (xg x)∧(xg x).bad=false,Y:=Int×Int×Int×Bool×List Nd,post:=fun x y=>Ah x.1.sg (xg x) (Dk x.1.sg false) (yS y),res:=fun x y=> .int .i64 y.1,outs:=fun x y=>[srd x.1 (yG y.2),.top],keep:=true}
def c1a(x:ST×Int×Int×Bool×List Nd):LS:= {ι:=Int×Int×Bool×List Nd×List Int×Nat,inv:=fun i=>False,regs:=fun i=>[(0,srd x.1 (iG i)),(5,.str (BC x.1.sg (Aq (xg x)) 1)),(6,Ad i.2.2.2.2.1)],als:=[],meas:=fun i=>i.2.2.2.2.2}
theorem c1b:Al G Tryz.prog 34 Kc:=
 vcFun_okP [(58,0,Eh),(59,0,CF),(36,0,Bq),(60,0,EY),(61,0,Hq),(62,0,BO),(63,0,Cb),(33,0,Gg),(34,0,a6u),(35,0,Er),(64,0,GI),(65,0,MJ)] [(25,⟨Int,Bc⟩)] false (fun x=>[(9,c1a x)]) Tryz.func34 rfl (by decide) ⟨Th,KX,HR,XD,Yk,Ix,HQ,Ti,c0Z,Tj,XP,a6n,trivial⟩ (fun(x:ST×Int×Int×Bool×List Nd)=>True∧cA Eh [srd x.1 (xg x),.int .i64 (5:Int)] fun x_1 y=>Ab (kdG x_1.1.sg (xh x_1) x_1.2.2.2.2.2) (cA CF [srd x_1.1 (xh x_1),.int .i64 (5:Int)] fun x_2 y=>cA Bq [srd x_2.1 (Bi x_2.1.sg (xh x_2) x_2.2.2.2.2.2),.int .i64 (19:Int),.str (BC x_2.1.sg (xh x_2) x_2.2.2.2.2.2),Ad []] fun x_3 y=>rA Kc x [.int .i64 (AW (xh x_3)),srd x_3.1 (An (xh x_3) {kind:=x_3.2.2.2.2.2.1,text:=x_3.2.2.2.2.2.2.1,kids:=x_3.2.2.2.2.2.2.2,blank:=false}),.top]) (cA EY [srd x_1.1 (xh x_1),.str #[(118:UInt8),(97:UInt8),(114:UInt8)].toList] fun x_2 y=>Ab (isG x_2.1.sg (xh x_2) (1:Int) x_2.2.2.2.2.2) (cA Hq [srd x_2.1 (BE x_2.1.sg (xh x_2) x_2.2.2.2.2.2)] fun x_3 y=>rA Kc x [.int .i64 y.1,srd x_3.1 (yG y.2),.top]) (cA CF [srd x_2.1 (BE x_2.1.sg (xh x_2) x_2.2.2.2.2.2),.int .i64 (1:Int)] fun x_3 y=>cA GI [srd x_3.1 (Bi x_3.1.sg (xh x_3) x_3.2.2.2.2.2)] fun x_4 y=>cA MJ [srd x_4.1 (yG y.2)] fun x_5 y_1=>∃(x_6:Int),y_1.1=x_6∧∃(zs:List Int),Ad [x_6]=Ad zs∧Br Bc∧Ba (List.length y.1+List.length zs) (8:Nat)∧cA Bq [srd x_5.1 (yG y_1.2),.int .i64 (20:Int),.str (BC x_3.1.sg (xh x_3) x_3.2.2.2.2.2),Ad (y.1++zs)] fun x_7 y=>rA Kc x [.int .i64 (AW (xh x_7)),srd x_7.1 (An (xh x_7) {kind:=x_7.2.2.2.2.2.1,text:=x_7.2.2.2.2.2.2.1,kids:=x_7.2.2.2.2.2.2.2,blank:=false}),.top]))) (fun x=>by kernel_rfl) fun(x:ST×Int×Int×Bool×List Nd) (hx:okQ x.1 (xg x)∧(xg x).bad=false)=>(by
 dsimp only[cA,Bx,Ad,AZ,rA,MJ,Eh,Kc,GI,Bq,CF,Hq,EY,Df,sgs,srd,Aw,Az,mvL,lnL,mvE,lnE]
 obtain⟨s,p,d,b,ns⟩:=x;dsimp only[xg,xh] at hx ⊢
 obtain⟨hx,hb⟩:=hx
 have hx:okQ s ⟨p,d,b,ns⟩:=hx
 have hD:=EF hx;have hM:=Ou hx;have h1:=hD.1;have hs:=h1.1
 (repeat' first|(with_reducible first|rfl|exact True.intro|apply AK|apply And.intro|((first|apply AA|apply AI|apply AB|apply AJ)<;>intro _))|(apply Ax<;>intro _)|apply AH|refine Af () ?_ ?_|((first|apply AO|apply AN|apply AM|apply AL|apply AG|apply AF|apply AE|apply AD|apply AC)<;>try dsimp only)|apply Af|(refine Prod.forall.2 ?_;intro _;try dsimp only)|(intro _;try dsimp only))
 all_goals(try dsimp only[xg,xh,yG,yS,iG,iF] at*)
 all_goals(try simp only[GE] at*)
 all_goals(try(have e:=JZ (show isG s.sg ⟨p,d,b,ns⟩ 1 [118,97,114]=false by assumption);simp only[e] at*))
 all_goals(try(have e:=Ka (show isG s.sg ⟨p,d,b,ns⟩ 1 [118,97,114]=true by assumption);simp only[e] at*))
 all_goals first
  |rfl
  |exact h1
  |omega
  |contradiction
  |exact c0T hx ‹_›
  |exact HS h1 (by omega)
  |exact GJ hx ‹_›
  |exact c0V hx ‹_› ‹_› ‹_›
  |exact a6o hx ‹_›
  |exact Fs h1 ‹_›
  |exact c0X hx ‹_› ‹_› (a6p hx ‹_› ‹_›)
  |(have hq:=XS hs (show vlQ _ _ _ [] _ _ by assumption);(try simp only[Ba,List.length_append,List.length_cons,List.length_nil] at*);omega)
  |skip)
def IE:Sig:= {X:=ST×Int×Int×Bool×List Nd,args:=fun x=>[srd x.1 (xg x),.bool true],pre:=fun x=>okQ x.1 (xg x)∧(xg x).bad=false,Y:=Int×Int×Int×Bool×List Nd,post:=fun x y=>Ah x.1.sg (xg x) (Dw x.1.sg false) (yS y),res:=fun x y=> .int .i64 y.1,outs:=fun x y=>[srd x.1 (yG y.2),.top],keep:=true}
def Qx(x:ST×Int×Int×Bool×List Nd):LS:= {ι:=Int×Int×Bool×List Nd×List Int×Nat,inv:=fun i=>clS x.1.sg (xg x) (iG i) i.2.2.2.2.1 i.2.2.2.2.2,regs:=fun i=>[(0,srd x.1 (iG i)),(5,.str (BC x.1.sg (Aq (xg x)) 1)),(6,Ad i.2.2.2.2.1)],als:=[],meas:=fun i=>i.2.2.2.2.2}
theorem c1c:Al G Tryz.prog 34 IE:=
 vcFun_okP [(58,0,Eh),(59,0,CF),(36,0,Bq),(60,0,EY),(61,0,Hq),(62,0,BO),(63,0,Cb),(33,0,Gg),(34,0,Kc),(35,0,Er),(64,0,GI),(65,0,MJ)] [(25,⟨Int,Bc⟩)] false (fun x=>[(9,Qx x)]) Tryz.func34 rfl (by decide) ⟨Th,KX,HR,XD,Yk,Ix,HQ,Ti,c1b,Tj,XP,a6n,trivial⟩ (fun(x:ST×Int×Int×Bool×List Nd)=>True∧cA Eh [srd x.1 (xg x),.int .i64 (5:Int)] fun x_1 y=>Ab (kdG x_1.1.sg (xh x_1) x_1.2.2.2.2.2) (cA CF [srd x_1.1 (xh x_1),.int .i64 (5:Int)] fun x_2 y=>cA Bq [srd x_2.1 (Bi x_2.1.sg (xh x_2) x_2.2.2.2.2.2),.int .i64 (19:Int),.str (BC x_2.1.sg (xh x_2) x_2.2.2.2.2.2),Ad []] fun x_3 y=>rA IE x [.int .i64 (AW (xh x_3)),srd x_3.1 (An (xh x_3) {kind:=x_3.2.2.2.2.2.1,text:=x_3.2.2.2.2.2.2.1,kids:=x_3.2.2.2.2.2.2.2,blank:=false}),.top]) (cA EY [srd x_1.1 (xh x_1),.str #[(118:UInt8),(97:UInt8),(114:UInt8)].toList] fun x_2 y=>Ab (isG x_2.1.sg (xh x_2) (1:Int) x_2.2.2.2.2.2) (cA Hq [srd x_2.1 (BE x_2.1.sg (xh x_2) x_2.2.2.2.2.2)] fun x_3 y=>rA IE x [.int .i64 y.1,srd x_3.1 (yG y.2),.top]) (cA EY [srd x_2.1 (BE x_2.1.sg (xh x_2) x_2.2.2.2.2.2),.str #[(99:UInt8),(108:UInt8),(97:UInt8),(115:UInt8),(115:UInt8)].toList] fun x_3 y=>Ab (isG x_3.1.sg (xh x_3) (1:Int) x_3.2.2.2.2.2) (cA CF [srd x_3.1 (BE x_3.1.sg (xh x_3) x_3.2.2.2.2.2),.int .i64 (1:Int)] fun x_4 y=>cA BO [srd x_4.1 (Bi x_4.1.sg (xh x_4) x_4.2.2.2.2.2),.str #[(123:UInt8)].toList] fun x_5 y=>eA (Qx x) [srd x_5.1 (As x_5.1.sg (xh x_5) x_5.2.2.2.2.2),.str (BC x_4.1.sg (xh x_4) x_4.2.2.2.2.2),Ad []]∧∀(i:Int×Int×Bool×List Nd×List Int×Nat),clS x.1.sg (xg x) (iG i) i.2.2.2.2.1 i.2.2.2.2.2→Ab (!(iG i).bad) (cA Cb [srd x.1 (iG i),.str #[(125:UInt8)].toList] fun x_6 y=>Ab (!isG x_6.1.sg (xh x_6) (4:Int) x_6.2.2.2.2.2) (cA Gg [srd x_6.1 (Au x_6.1.sg (xh x_6) x_6.2.2.2.2.2)] fun x_7 y=>Ab (blG x_7.1.sg (xg x_7)) (cA Kc [srd x_7.1 (xg x_7),.bool false] fun x_8 y=>cA Er [srd x_8.1 (yG y.2),.int .i64 y.1,.bool (decide ((↑(List.length i.2.2.2.2.1):Int)>(0:Int)))] fun x_9 y_1=>∃(x_10:Int),y.1=x_10∧∃(zs:List Int),Ad [x_10]=Ad zs∧Br Bc∧Ba (List.length i.2.2.2.2.1+List.length zs) (8:Nat)∧eN (Qx x) i [srd x_9.1 (gBl (xh x_9) x_9.2.2.2.2.2.1 x_9.2.2.2.2.2.2),.str (BC x.1.sg (Aq (xg x)) (1:Int)),Ad (i.2.2.2.2.1++zs)]) (cA Kc [srd x_7.1 (xg x_7),.bool false] fun x_8 y=>cA Er [srd x_8.1 (yG y.2),.int .i64 y.1,.bool false] fun x_9 y_1=>∃(x_10:Int),y.1=x_10∧∃(zs:List Int),Ad [x_10]=Ad zs∧Br Bc∧Ba (List.length i.2.2.2.2.1+List.length zs) (8:Nat)∧eN (Qx x) i [srd x_9.1 (gBl (xh x_9) x_9.2.2.2.2.2.1 x_9.2.2.2.2.2.2),.str (BC x.1.sg (Aq (xg x)) (1:Int)),Ad (i.2.2.2.2.1++zs)])) (cA Bq [srd x_6.1 (Au x_6.1.sg (xh x_6) x_6.2.2.2.2.2),.int .i64 (21:Int),.str (BC x.1.sg (Aq (xg x)) (1:Int)),Ad i.2.2.2.2.1] fun x_7 y=>rA IE x [.int .i64 (AW (xh x_7)),srd x_7.1 (An (xh x_7) {kind:=x_7.2.2.2.2.2.1,text:=x_7.2.2.2.2.2.2.1,kids:=x_7.2.2.2.2.2.2.2,blank:=false}),.top])) (cA Bq [srd x.1 (iG i),.int .i64 (21:Int),.str (BC x.1.sg (Aq (xg x)) (1:Int)),Ad i.2.2.2.2.1] fun x_6 y=>rA IE x [.int .i64 (AW (xh x_6)),srd x_6.1 (An (xh x_6) {kind:=x_6.2.2.2.2.2.1,text:=x_6.2.2.2.2.2.2.1,kids:=x_6.2.2.2.2.2.2.2,blank:=false}),.top])) (cA CF [srd x_3.1 (BE x_3.1.sg (xh x_3) x_3.2.2.2.2.2),.int .i64 (1:Int)] fun x_4 y=>cA GI [srd x_4.1 (Bi x_4.1.sg (xh x_4) x_4.2.2.2.2.2)] fun x_5 y=>cA MJ [srd x_5.1 (yG y.2)] fun x_6 y_1=>∃(x_7:Int),y_1.1=x_7∧∃(zs:List Int),Ad [x_7]=Ad zs∧Br Bc∧Ba (List.length y.1+List.length zs) (8:Nat)∧cA Bq [srd x_6.1 (yG y_1.2),.int .i64 (20:Int),.str (BC x_4.1.sg (xh x_4) x_4.2.2.2.2.2),Ad (y.1++zs)] fun x_8 y=>rA IE x [.int .i64 (AW (xh x_8)),srd x_8.1 (An (xh x_8) {kind:=x_8.2.2.2.2.2.1,text:=x_8.2.2.2.2.2.2.1,kids:=x_8.2.2.2.2.2.2.2,blank:=false}),.top])))) (fun x=>by kernel_rfl) fun(x:ST×Int×Int×Bool×List Nd) (hx:okQ x.1 (xg x)∧(xg x).bad=false)=>(by
 dsimp only[cA,eA,eN,Qx,Bx,Ad,AZ,rA,MJ,Gg,Er,Eh,Cb,IE,Kc,GI,Bq,CF,Hq,BO,EY,Df,sgs,srd,Aw,Az,mvL,lnL,mvE,lnE,Bv]
 obtain⟨s,p,d,b,ns⟩:=x;dsimp only[xg,xh] at hx ⊢
 obtain⟨hx,hb⟩:=hx
 have hx:okQ s ⟨p,d,b,ns⟩:=hx
 have hD:=EF hx;have hM:=Ou hx;have h1:=hD.1;have hs:=h1.1
 (repeat' first|(with_reducible first|rfl|exact True.intro|apply AK|apply And.intro|((first|apply AA|apply AI|apply AB|apply AJ)<;>intro _))|(apply Ax<;>intro _)|apply AH|refine Af () ?_ ?_|((first|apply AO|apply AN|apply AM|apply AL|apply AG|apply AF|apply AE|apply AD|apply AC)<;>try dsimp only)|apply Af|(refine Prod.forall.2 ?_;intro _;try dsimp only)|(intro _;try dsimp only))
 all_goals(try dsimp only[xg,xh,yG,yS,iG,iF] at*)
 all_goals(try simp only[GE] at*)
 all_goals first
  |(show Nat;skip)
  |exact c0P hx ‹_› ‹_›
  |exact(La ‹_› ‹_› ‹_› ‹_› (KV ‹_›)).1
  |exact(La ‹_› ‹_› ‹_› ‹_› (KW ‹_›)).1
  |skip
 all_goals(try(first|exact(La ‹_› ‹_› ‹_› ‹_› (KV ‹_›)).2|exact(La ‹_› ‹_› ‹_› ‹_› (KW ‹_›)).2))
 all_goals(try(have e:=JZ (show isG s.sg ⟨p,d,b,ns⟩ 1 [118,97,114]=false by assumption);simp only[e] at*))
 all_goals(try(have e:=Ka (show isG s.sg ⟨p,d,b,ns⟩ 1 [118,97,114]=true by assumption);simp only[e] at*))
 all_goals(try(have e:=JZ (show isG s.sg ⟨p,d,b,ns⟩ 1 [99,108,97,115,115]=false by assumption);simp only[e] at*))
 all_goals(try(have e:=Ka (show isG s.sg ⟨p,d,b,ns⟩ 1 [99,108,97,115,115]=true by assumption);simp only[e] at*))
 all_goals(try(have hw:=GJ hx (show isG s.sg ⟨p,d,b,ns⟩ 1 [99,108,97,115,115]=true by assumption)))
 all_goals first
  |(show Nat;skip)
  |rfl
  |exact h1
  |omega
  |contradiction
  |exact c0U hx ‹_›
  |exact HS h1 (by omega)
  |exact GJ hx ‹_›
  |exact c0W hx ‹_› ‹_› ‹_›
  |exact a6o hx ‹_›
  |exact(EF hw).1
  |exact(c0Q hw).1
  |exact a6q hw
  |exact(EF (Yl hw ‹_›)).1
  |exact(a6r hw ‹_› ‹_› ‹_›).1
  |exact(a6r hw ‹_› ‹_› ‹_›).2
  |exact FO (EF (Yl hw ‹_›)).1
  |exact Fs h1 ‹_›
  |exact Ot Yc ‹_›
  |exact Ot Yc ‹_› ‹_›
  |exact(La ‹_› ‹_› ‹_› ‹_› (KV ‹_›)).1
  |exact(La ‹_› ‹_› ‹_› ‹_› (KW ‹_›)).1
  |exact a6t hx ‹_› ‹_› ‹_› (c0R hw ‹_› ‹_›)
  |exact a6t hx ‹_› ‹_› ‹_› (c0S hw ‹_› ‹_›)
  |exact c0Y hx ‹_› ‹_› ‹_› (a6p hx ‹_› ‹_›)
  |(have hq:=XS hs (show vlQ _ _ _ [] _ _ by assumption);(try simp only[Ba,List.length_append,List.length_cons,List.length_nil] at*);omega)
  |(have hq:=Ym hw (show clS _ _ _ _ _ by assumption);(try simp only[Ba,List.length_append,List.length_cons,List.length_nil]);omega)
  |skip
 all_goals first
  |exact(La ‹_› ‹_› ‹_› ‹_› (KV ‹_›)).2
  |exact(La ‹_› ‹_› ‹_› ‹_› (KW ‹_›)).2
  |skip)
end Go.My
end
section
namespace Go.My
open Go.Eng Go.Proofs
variable {G:GInv}
theorem a6v{c:UInt8}(h1:Cw c=false)(h2:Bg c=false):BP c=false:=by simp [BP,h1,h2]
theorem c1d{c:UInt8}(h1:Cw c=true):BP c=true:=by simp [BP,h1]
theorem c1e{c:UInt8}(h1:Bg c=true):BP c=true:=by simp [BP,h1]
theorem c1f{s:List UInt8}:CD s≤s.length:=by
 unfold CD
 cases h:DX isQ (s.drop 1) with
 |none=>simp
 |some i=>
  simp only
  split
  ·have:=VC h;simp at this;omega
  ·omega
theorem c1g{s:List UInt8}:Cr s≤s.length:=by
 unfold Cr
 split
 ·split
  ·exact Ta
  ·omega
 ·omega
theorem c1h{s:List UInt8}:(Gf s).length≤2:=by
 rw[a5t]
 split
 ·simp;omega
 ·split
  ·simp;omega
  ·simp
theorem c1i{x:List UInt8×Int}(h0:0≤x.2)(h1:x.2<x.1.length):(Cr (x.1.drop x.2.toNat):Int)≤x.1.length-x.2∧(CD (x.1.drop x.2.toNat):Int)≤x.1.length-x.2:=by
 have a:= @c1g (x.1.drop x.2.toNat);have b:= @c1f (x.1.drop x.2.toNat)
 simp at a b;omega
theorem a6w{x:List UInt8×Int}{i:Int}{c d e:UInt8}(h0:0≤x.2)(hf:Cw c=false)(hc:x.1[x.2.toNat]? =some c)(hg:Bg d=true)(hd:x.1[x.2.toNat]? =some d)(h:rwI Bg x i)(hz:Bg e=false)(he:x.1[i.toNat]? =some e):
 (i-x.2>12→sgR x 0 [] 0 false 0)∧(¬i-x.2>12→sgR x 2 (List.drop (Int.toNat x.2) (List.take (Int.toNat i) x.1)) x.2 false (i-x.2)):=by
 rw[hc] at hd;cases hd
 exact Qr h0 hc hf hg h (.inr ⟨_,he,hz⟩)
theorem a6x{t:List UInt8}{i br:Int}{l:List Sg}{n:Nat}{c c2:UInt8}{k p m:Int}{tx:List UInt8}{b:Bool}(h32:(c.toNat:Int)≠32)(hc:t[i.toNat]? =some c)(h10:(c2.toNat:Int)≠10)(hc2:t[i.toNat]? =some c2)(h:sgJ t i br l n)(hi:i<t.length)(hs:sgR (t,i) k tx p b m)(hm:m≠0):
 sgJ t (i+m) 0 (l++[⟨k,tx,p,decide (br>1)⟩]) (n-1)∧n-1<n:=by
 rw[hc] at hc2;cases hc2
 rcases hs with⟨h1,⟨rfl,rfl,rfl,rfl⟩,rfl⟩|hs
 ·exact b8q hc h hi (by omega) (by omega) h1
 ·exact(hm hs.2).elim
theorem a6y{t:List UInt8}{i br:Int}{l:List Sg}{n:Nat}{c c2:UInt8}{k p m:Int}{tx:List UInt8}{b:Bool}(h32:(c.toNat:Int)≠32)(hc:t[i.toNat]? =some c)(h10:(c2.toNat:Int)≠10)(hc2:t[i.toNat]? =some c2)(h:sgJ t i br l n)(hi:i<t.length)(hs:sgR (t,i) k tx p b m)(hm:m=0):CT t=none:=by
 rw[hc] at hc2;cases hc2
 rcases hs with⟨h1,_,h2⟩|hs
 ·have a:=(a5h h1).1;rw[hm] at h2;rw[←h2] at a;omega
 ·exact b8r hc h hi (by omega) (by omega) hs.1
theorem c1j{t:List UInt8}{i br:Int}{l:List Sg}{n:Nat}{k p m:Int}{tx:List UInt8}{b:Bool}(h:sgJ t i br l n)(hs:sgR (t,i) k tx p b m):0≤m∧m≤t.length-i:=by
 rcases hs with⟨h1,_,h2⟩|hs
 ·have a:=a5k h h1;simp only at h2;omega
 ·have:=Oi h;omega
attribute [local irreducible] rwI sgR Bh Cr CD Gf
def TC:Sig:= {X:=List UInt8×Int,args:=fun x=>[.str x.1,.int .i64 x.2],pre:=fun x=>0≤x.2∧x.2<x.1.length∧x.1.length<2^62,Y:=Int×List UInt8×Int×Bool×Int,post:=fun x y=>sgR x y.1 y.2.1 y.2.2.1 y.2.2.2.1 y.2.2.2.2,res:=fun x y=> .tup [.agg [.int .i64 y.1,.str y.2.1,.int .i64 y.2.2.1,.bool y.2.2.2.1],.int .i64 y.2.2.2.2],outs:=fun x y=>[.top,.top],keep:=false}
def Qy(x:List UInt8×Int):LS:= {ι:=Int,inv:=fun i=>rwI BP x i,regs:=fun i=>[(0,.str x.1),(1,.int .i64 x.2),(4,.box 0 [.int .i64 0,.str [],.int .i64 0,.bool false]),(6,.int .i64 i)],als:=[],meas:=fun i=>x.1.length-i.toNat}
def TD(x:List UInt8×Int):LS:= {ι:=Int,inv:=fun i=>rwI Bg x i,regs:=fun i=>[(0,.str x.1),(1,.int .i64 x.2),(4,.box 0 [.int .i64 0,.str [],.int .i64 0,.bool false]),(6,.int .i64 i)],als:=[],meas:=fun i=>x.1.length-i.toNat}
theorem c1k:Al G Tryz.prog 57 TC:=
 vcFun_okP [(83,0,GU),(84,0,IU),(85,0,Fe),(86,0,EQ),(87,0,Ie),(88,0,MC)] [] false (fun x=>[(6,Qy x),(12,TD x)]) Tryz.func57 rfl (by decide) ⟨a0z,a0v,a0h,Rn,a0y,b8L,trivial⟩ (fun(x:List UInt8×Int)=>(∀(y:Int×List UInt8×Int×Bool×Int),sgR x y.1 y.2.1 y.2.2.1 y.2.2.2.1 y.2.2.2.2→((True∧True∧True∧True∧True)∧True∧True)∧True∧True∧True)∧cA GU [.str x.1,.int .i64 x.2] fun x_1 y=>Ab (decide ((↑(Cr (List.drop (Int.toNat x_1.2) x_1.1)):Int)>(0:Int))) (inR IntKind.i64 (x.2+(↑(Cr (List.drop (Int.toNat x_1.2) x_1.1)):Int))∧((0:Int)≤x.2∧x.2≤x.2+(↑(Cr (List.drop (Int.toNat x_1.2) x_1.1)):Int)∧x.2+(↑(Cr (List.drop (Int.toNat x_1.2) x_1.1)):Int)≤(↑(List.length x.1):Int))∧cA IU [.str (List.drop (Int.toNat x.2) (List.take (Int.toNat (x.2+(↑(Cr (List.drop (Int.toNat x_1.2) x_1.1)):Int))) x.1))] fun x_2 y=>∃(y:Int×List UInt8×Int×Bool×Int),sgR x y.1 y.2.1 y.2.2.1 y.2.2.2.1 y.2.2.2.2∧(5:Int)=y.1∧CI x_2=y.2.1∧x.2=y.2.2.1∧false=y.2.2.2.1∧(↑(Cr (List.drop (Int.toNat x_1.2) x_1.1)):Int)=y.2.2.2.2∧True) (((0:Int)≤x.2∧x.2<(↑(List.length x.1):Int))∧∀(c:UInt8),x.1[Int.toNat x.2]? =some c→cA Fe [AV.int IntKind.u8 (↑(UInt8.toNat c):Int)] fun x_2 y=>Ab (Cw x_2) (eA (Qy x) [.str x.1,.int .i64 x.2,.box 0 [.int .i64 (0:Int),.str #[].toList,.int .i64 (0:Int),.bool false],.int .i64 x.2]∧∀(i:Int),rwI BP x i→Ab (decide (i<(↑(List.length x.1):Int))) (((0:Int)≤i∧i<(↑(List.length x.1):Int))∧∀(c:UInt8),x.1[Int.toNat i]? =some c→cA Fe [AV.int IntKind.u8 (↑(UInt8.toNat c):Int)] fun x_3 y=>Ab (Cw x_3) (inR IntKind.i64 (i+(1:Int))∧eN (Qy x) i [.str x.1,.int .i64 x.2,.box 0 [.int .i64 (0:Int),.str [],.int .i64 (0:Int),.bool false],.int .i64 (i+(1:Int))]) (((0:Int)≤i∧i<(↑(List.length x.1):Int))∧∀(c:UInt8),x.1[Int.toNat i]? =some c→cA EQ [AV.int IntKind.u8 (↑(UInt8.toNat c):Int)] fun x_4 y=>Ab (Bg x_4) (inR IntKind.i64 (i+(1:Int))∧eN (Qy x) i [.str x.1,.int .i64 x.2,.box 0 [.int .i64 (0:Int),.str [],.int .i64 (0:Int),.bool false],.int .i64 (i+(1:Int))]) (inR IntKind.i64 (i-x.2)∧Ab (decide (i-x.2>(30:Int))) (∃(y:Int×List UInt8×Int×Bool×Int),sgR x y.1 y.2.1 y.2.2.1 y.2.2.2.1 y.2.2.2.2∧(0:Int)=y.1∧ #[].toList=y.2.1∧(0:Int)=y.2.2.1∧false=y.2.2.2.1∧(0:Int)=y.2.2.2.2∧True) (((0:Int)≤x.2∧x.2≤i∧i≤(↑(List.length x.1):Int))∧inR IntKind.i64 (i-x.2)∧∃(y:Int×List UInt8×Int×Bool×Int),sgR x y.1 y.2.1 y.2.2.1 y.2.2.2.1 y.2.2.2.2∧(1:Int)=y.1∧List.drop (Int.toNat x.2) (List.take (Int.toNat i) x.1)=y.2.1∧x.2=y.2.2.1∧false=y.2.2.2.1∧i-x.2=y.2.2.2.2∧True)))) (inR IntKind.i64 (i-x.2)∧Ab (decide (i-x.2>(30:Int))) (∃(y:Int×List UInt8×Int×Bool×Int),sgR x y.1 y.2.1 y.2.2.1 y.2.2.2.1 y.2.2.2.2∧(0:Int)=y.1∧ #[].toList=y.2.1∧(0:Int)=y.2.2.1∧false=y.2.2.2.1∧(0:Int)=y.2.2.2.2∧True) (((0:Int)≤x.2∧x.2≤i∧i≤(↑(List.length x.1):Int))∧inR IntKind.i64 (i-x.2)∧∃(y:Int×List UInt8×Int×Bool×Int),sgR x y.1 y.2.1 y.2.2.1 y.2.2.2.1 y.2.2.2.2∧(1:Int)=y.1∧List.drop (Int.toNat x.2) (List.take (Int.toNat i) x.1)=y.2.1∧x.2=y.2.2.1∧false=y.2.2.2.1∧i-x.2=y.2.2.2.2∧True))) (((0:Int)≤x.2∧x.2<(↑(List.length x.1):Int))∧∀(c:UInt8),x.1[Int.toNat x.2]? =some c→cA EQ [AV.int IntKind.u8 (↑(UInt8.toNat c):Int)] fun x_3 y=>Ab (Bg x_3) (eA (TD x) [.str x.1,.int .i64 x.2,.box 0 [.int .i64 (0:Int),.str #[].toList,.int .i64 (0:Int),.bool false],.int .i64 x.2]∧∀(i:Int),rwI Bg x i→Ab (decide (i<(↑(List.length x.1):Int))) (((0:Int)≤i∧i<(↑(List.length x.1):Int))∧∀(c:UInt8),x.1[Int.toNat i]? =some c→cA EQ [AV.int IntKind.u8 (↑(UInt8.toNat c):Int)] fun x_4 y=>Ab (Bg x_4) (inR IntKind.i64 (i+(1:Int))∧eN (TD x) i [.str x.1,.int .i64 x.2,.box 0 [.int .i64 (0:Int),.str [],.int .i64 (0:Int),.bool false],.int .i64 (i+(1:Int))]) (inR IntKind.i64 (i-x.2)∧Ab (decide (i-x.2>(12:Int))) (∃(y:Int×List UInt8×Int×Bool×Int),sgR x y.1 y.2.1 y.2.2.1 y.2.2.2.1 y.2.2.2.2∧(0:Int)=y.1∧ #[].toList=y.2.1∧(0:Int)=y.2.2.1∧false=y.2.2.2.1∧(0:Int)=y.2.2.2.2∧True) (((0:Int)≤x.2∧x.2≤i∧i≤(↑(List.length x.1):Int))∧inR IntKind.i64 (i-x.2)∧∃(y:Int×List UInt8×Int×Bool×Int),sgR x y.1 y.2.1 y.2.2.1 y.2.2.2.1 y.2.2.2.2∧(2:Int)=y.1∧List.drop (Int.toNat x.2) (List.take (Int.toNat i) x.1)=y.2.1∧x.2=y.2.2.1∧false=y.2.2.2.1∧i-x.2=y.2.2.2.2∧True))) (inR IntKind.i64 (i-x.2)∧Ab (decide (i-x.2>(12:Int))) (∃(y:Int×List UInt8×Int×Bool×Int),sgR x y.1 y.2.1 y.2.2.1 y.2.2.2.1 y.2.2.2.2∧(0:Int)=y.1∧ #[].toList=y.2.1∧(0:Int)=y.2.2.1∧false=y.2.2.2.1∧(0:Int)=y.2.2.2.2∧True) (((0:Int)≤x.2∧x.2≤i∧i≤(↑(List.length x.1):Int))∧inR IntKind.i64 (i-x.2)∧∃(y:Int×List UInt8×Int×Bool×Int),sgR x y.1 y.2.1 y.2.2.1 y.2.2.2.1 y.2.2.2.2∧(2:Int)=y.1∧List.drop (Int.toNat x.2) (List.take (Int.toNat i) x.1)=y.2.1∧x.2=y.2.2.1∧false=y.2.2.2.1∧i-x.2=y.2.2.2.2∧True))) (((0:Int)≤x.2∧x.2<(↑(List.length x.1):Int))∧∀(c:UInt8),x.1[Int.toNat x.2]? =some c→Ab ((↑(UInt8.toNat c):Int)==(39:Int)) (cA Ie [.str x.1,.int .i64 x.2] fun x_4 y=>inR IntKind.i64 (x.2+(↑(CD (List.drop (Int.toNat x_4.2) x_4.1)):Int))∧((0:Int)≤x.2∧x.2≤x.2+(↑(CD (List.drop (Int.toNat x_4.2) x_4.1)):Int)∧x.2+(↑(CD (List.drop (Int.toNat x_4.2) x_4.1)):Int)≤(↑(List.length x.1):Int))∧∃(y:Int×List UInt8×Int×Bool×Int),sgR x y.1 y.2.1 y.2.2.1 y.2.2.2.1 y.2.2.2.2∧(3:Int)=y.1∧List.drop (Int.toNat x.2) (List.take (Int.toNat (x.2+(↑(CD (List.drop (Int.toNat x_4.2) x_4.1)):Int))) x.1)=y.2.1∧x.2=y.2.2.1∧false=y.2.2.2.1∧(↑(CD (List.drop (Int.toNat x_4.2) x_4.1)):Int)=y.2.2.2.2∧True) (cA MC [.str x.1,.int .i64 x.2] fun x_4 y=>∃(y:Int×List UInt8×Int×Bool×Int),sgR x y.1 y.2.1 y.2.2.1 y.2.2.2.1 y.2.2.2.2∧(4:Int)=y.1∧Gf (List.drop (Int.toNat x_4.2) x_4.1)=y.2.1∧x.2=y.2.2.1∧false=y.2.2.2.1∧(↑(List.length (Gf (List.drop (Int.toNat x_4.2) x_4.1))):Int)=y.2.2.2.2∧True))))) (fun x=>by kernel_rfl) fun(x:List UInt8×Int) (hx:0≤x.2∧x.2<x.1.length∧x.1.length<2^62)=>(by
 dsimp only[cA,eA,eN,TD,Qy,EQ,Fe,GU,Ie,MC,IU,Aw,Az,mvL,lnL,mvE,lnE,Bv]
 obtain⟨h1,h2,h3⟩:=hx
 have hn:=c1i h1 h2
 (repeat' first|(with_reducible first|rfl|exact True.intro|apply AK|apply And.intro|((first|apply AA|apply AI|apply AB|apply AJ)<;>intro _))|(apply Ax<;>intro _)|apply AH|refine Af () ?_ ?_|((first|apply AO|apply AN|apply AM|apply AL|apply AG|apply AF|apply AE|apply AD|apply AC)<;>try dsimp only)|apply Af|(refine Prod.forall.2 ?_;intro _;try dsimp only)|(intro _;try dsimp only))
 all_goals(try((repeat(rename x.1[_]? =some _=>hq;revert hq;rename x.1[_]? =some _=>hr;intro hq;rw[hr] at hq;cases hq))))
 all_goals first
  |rfl
  |omega
  |exact b8O h1 ‹_›
  |exact b8M (by omega)
  |exact XB h1 ‹_› ‹_› ‹_› (c1d ‹_›)
  |exact XB h1 ‹_› ‹_› ‹_› (c1e ‹_›)
  |exact XB h1 ‹_› ‹_› ‹_› ‹_›
  |exact(Tf h1 ‹_› ‹_› ‹_› (.inl ‹_›)).1 ‹_›
  |exact(Tf h1 ‹_› ‹_› ‹_› (.inl ‹_›)).2 ‹_›
  |exact(Tf h1 ‹_› ‹_› ‹_› (.inr ⟨_,by assumption,a6v ‹_› ‹_›⟩)).1 ‹_›
  |exact(Tf h1 ‹_› ‹_› ‹_› (.inr ⟨_,by assumption,a6v ‹_› ‹_›⟩)).2 ‹_›
  |exact(Qr h1 ‹_› ‹_› ‹_› ‹_› (.inl ‹_›)).1 ‹_›
  |exact(Qr h1 ‹_› ‹_› ‹_› ‹_› (.inl ‹_›)).2 ‹_›
  |exact(Qr h1 ‹_› ‹_› ‹_› ‹_› (.inr ⟨_,by assumption,by assumption⟩)).1 ‹_›
  |exact(Qr h1 ‹_› ‹_› ‹_› ‹_› (.inr ⟨_,by assumption,by assumption⟩)).2 ‹_›
  |exact(a6w h1 ‹_› ‹_› ‹_› ‹_› ‹_› ‹_› ‹_›).1 ‹_›
  |exact(a6w h1 ‹_› ‹_› ‹_› ‹_› ‹_› ‹_› ‹_›).2 ‹_›
  |exact b8Q h1 ‹_› ‹_› ‹_› ‹_›
  |exact b8R h1 ‹_› ‹_› ‹_› ‹_› ‹_›
  |(have hq:=b8N (show rwI _ _ _ by assumption);(try simp only[AQ]);omega)
  |(have hq:= @c1h (x.1.drop x.2.toNat);(try simp only[AQ]);omega)
  |(simp only[List.length_drop,List.length_take];omega)
  |skip)
attribute [local irreducible] sgJ CT
def Lb:Sig:= {X:=List UInt8,args:=fun x=>[.str x],pre:=fun x=>x.length<2^62,Y:=List Sg×Int,post:=fun x y=>sgQ x y.1,res:=fun x y=> .tup [sgs y.1,.int .i64 y.2,.bool (CT x).isSome],outs:=fun x y=>[.top],keep:=true}
def Ow(x:List UInt8):LS:= {ι:=Int×Int×List Sg×Nat,inv:=fun i=>sgJ x i.1 i.2.1 i.2.2.1 i.2.2.2,regs:=fun i=>[(0,.str x),(5,HH i.2.2.1),(6,.int .i64 i.1),(7,.int .i64 i.2.1)],als:=[],meas:=fun i=>i.2.2.2}
theorem c1l:Al G Tryz.prog 32 Lb:=
 vcFun_okP [(57,0,TC)] [(54,⟨Sg,sgA⟩)] false (fun x=>[(6,Ow x)]) Tryz.func32 rfl (by decide) ⟨c1k,trivial⟩ (fun(x:List UInt8)=>True∧Ab (decide ((↑(List.length x):Int)>(3000:Int))) (rA Lb x [.tup [HH [],.int .i64 (3000:Int),.bool false],.top]) (eA (Ow x) [.str x,HH [],.int .i64 (0:Int),.int .i64 (0:Int)]∧∀(i:Int×Int×List Sg×Nat),sgJ x i.1 i.2.1 i.2.2.1 i.2.2.2→Ab (decide (i.1<(↑(List.length x):Int))) (((0:Int)≤i.1∧i.1<(↑(List.length x):Int))∧∀(c:UInt8),x[Int.toNat i.1]? =some c→Ab ((↑(UInt8.toNat c):Int)==(32:Int)) (inR IntKind.i64 (i.1+(1:Int))∧eN (Ow x) i [.str x,HH i.2.2.1,.int .i64 (i.1+(1:Int)),.int .i64 i.2.1]) (((0:Int)≤i.1∧i.1<(↑(List.length x):Int))∧∀(c:UInt8),x[Int.toNat i.1]? =some c→Ab ((↑(UInt8.toNat c):Int)==(10:Int)) (inR IntKind.i64 (i.2.1+(1:Int))∧inR IntKind.i64 (i.1+(1:Int))∧eN (Ow x) i [.str x,HH i.2.2.1,.int .i64 (i.1+(1:Int)),.int .i64 (i.2.1+(1:Int))]) (cA TC [.str x,.int .i64 i.1] fun x_1 y=>Ab (y.2.2.2.2==(0:Int)) (rA Lb x [.tup [HH [],.int .i64 i.1,.bool false],.top]) (∃(x_2:Sg),y.1=x_2.kind∧y.2.1=x_2.text∧y.2.2.1=x_2.pos∧decide (i.2.1>(1:Int))=x_2.blank∧∃(zs:List Sg),HH [x_2]=HH zs∧Br sgA∧Ba (List.length i.2.2.1+List.length zs) (40:Nat)∧inR IntKind.i64 (i.1+y.2.2.2.2)∧eN (Ow x) i [.str x,HH (i.2.2.1++zs),.int .i64 (i.1+y.2.2.2.2),.int .i64 (0:Int)])))) (rA Lb x [.tup [HH i.2.2.1,.int .i64 (0:Int),.bool true],.top]))) (fun x=>by kernel_rfl) fun(x:List UInt8) (hx:x.length<2^62)=>(by
 dsimp only[cA,eA,eN,Ow,HH,rA,TC,Lb,Df,sgs,Aw,Az,mvL,lnL,mvE,lnE,Bv]
 have hx:x.length<2^62:=hx
 (repeat' first|(with_reducible first|rfl|exact True.intro|apply AK|apply And.intro|((first|apply AA|apply AI|apply AB|apply AJ)<;>intro _))|(apply Ax<;>intro _)|apply AH|refine Af () ?_ ?_|((first|apply AO|apply AN|apply AM|apply AL|apply AG|apply AF|apply AE|apply AD|apply AC)<;>try dsimp only)|apply Af|(refine Prod.forall.2 ?_;intro _;try dsimp only)|(intro _;try dsimp only))
 all_goals first
  |(show Nat;skip)
  |rfl
  |exact b8p ‹_›
  |exact(Tb (a5m ‹_›)).2
  |exact(Tb (a5m ‹_›)).1.symm
  |exact(a5i ‹_› ‹_› ‹_› (by omega)).1
  |exact(a5j ‹_› ‹_› ‹_› (by omega)).1
  |exact(a6x ‹_› ‹_› ‹_› ‹_› ‹_› ‹_› ‹_› ‹_›).1
  |exact(Tb (a6y ‹_› ‹_› ‹_› ‹_› ‹_› ‹_› ‹_› ‹_›)).2
  |exact(Tb (a6y ‹_› ‹_› ‹_› ‹_› ‹_› ‹_› ‹_› ‹_›)).1.symm
  |exact(a5l ‹_› ‹_›).2
  |exact(a5l ‹_› ‹_›).1.symm
  |(have hq:=Oi (show sgJ _ _ _ _ _ by assumption);(try simp only[AQ]);omega)
  |(have hj:=(show sgJ _ _ _ _ _ by assumption);have hq:=Oi hj;have hz:=c1j hj ‹_›;(try simp only[AQ]);omega)
  |(have hq:=Oi (show sgJ _ _ _ _ _ by assumption);(try simp only[Ba,List.length_append,List.length_cons,List.length_nil]);omega)
  |(simp [Ba];done)
  |skip
 all_goals first
  |exact(a5i ‹_› ‹_› ‹_› (by omega)).2
  |exact(a5j ‹_› ‹_› ‹_› (by omega)).2
  |exact(a6x ‹_› ‹_› ‹_› ‹_› ‹_› ‹_› ‹_› ‹_›).2
  |rfl
  |skip)
end Go.My
end
section
namespace Go.My
open Go.Eng Go.Proofs
variable {G:GInv}
theorem c1m{s:List UInt8}:CI s <+: s:=by
 have h:=List.dropWhile_suffix (fun c:UInt8=>decide (c.toNat=32)) (l:=s.reverse)
 unfold CI
 rw[←List.reverse_suffix,List.reverse_reverse];exact h
theorem Yn{c:UInt8}{a s t:List UInt8}(h:t <+: c::s)(ht:t=a)(ha:a≠[]):a.head? =some c:=by
 subst ht
 match t with
 |[]=>exact(ha rfl).elim
 |d::r=>
  obtain⟨k,hk⟩:=h
  simp at hk
  simp [hk.1]
theorem c1n{s:List UInt8}(h:(Bh s).ok=true)(ht:(Bh s).text=[41]∨(Bh s).text=[61,62]∨(Bh s).text=[44]):(Bh s).kind=4:=by
 match s with
 |[]=>cases h
 |b::s=>
  have key:∀t:List UInt8,t <+: b::s→(t=[41]∨t=[61,62]∨t=[44])→b=41∨b=61∨b=44:=by
   intro t hp ht
   rcases ht with ht|ht|ht
   ·have:=Yn hp ht (by simp);simp at this;exact .inl this.symm
   ·have:=Yn hp ht (by simp);simp at this;exact .inr (.inl this.symm)
   ·have:=Yn hp ht (by simp);simp at this;exact .inr (.inr this.symm)
  unfold Bh at h ht ⊢
  simp only at h ht ⊢
  split
  ·rename_i hb
   rw[if_pos hb] at ht
   rcases key _ (List.takeWhile_prefix _) ht with rfl|rfl|rfl<;>exact absurd hb (by decide)
  ·rename_i hb
   rw[if_neg hb] at h ht
   split
   ·rename_i hb2
    rw[if_pos hb2] at ht
    rcases key _ (List.takeWhile_prefix _) ht with rfl|rfl|rfl<;>exact absurd hb2 (by decide)
   ·rename_i hb2
    rw[if_neg hb2] at h ht
    split
    ·rename_i hb3
     rw[if_pos hb3] at ht h
     simp only at ht h
     have hp:(DD (b::s)).1 <+: b::s:=by
      unfold DD;split
      ·exact List.nil_prefix
      ·exact List.take_prefix _ _
     rcases key _ hp ht with rfl|rfl|rfl<;>exact absurd hb3 (by decide)
    ·rename_i hb3
     rw[if_neg hb3] at h ht
     split
     ·rename_i hb4
      rw[if_pos hb4] at ht
      have hb5:b=47:=by
       cases s with
       |nil=>simp at hb4
       |cons c s=>simp at hb4;exact hb4.1
      rcases key _ (c1m.trans (List.takeWhile_prefix _)) ht with rfl|rfl|rfl<;>exact absurd hb5 (by decide)
     ·rename_i hb4
      rw[if_neg hb4] at h
      split
      ·rfl
      ·rename_i hb5
       rw[if_neg hb5] at h
       split
       ·rfl
       ·rename_i hb6
        rw[if_neg hb6] at h;cases h
theorem TE{t:List UInt8}:∀(n:Nat) (i br:Int) (l:List Sg),FG t n i br=some l→sgM l
 |0,_,_,_,h=>by cases h
 |n+1,i,br,l,h=>by
  rw[FG] at h
  split at h
  ·simp at h;subst h;intro e he;simp at he
  ·split at h
   ·exact TE n _ _ _ h
   ·split at h
    ·exact TE n _ _ _ h
    ·split at h
     ·rename_i hok
      rw[Option.map_eq_some_iff] at h
      obtain⟨l',h1,rfl⟩:=h
      intro e he ht
      simp only[List.mem_cons] at he
      rcases he with rfl|he
      ·exact c1n hok ht
      ·exact TE n _ _ _ h1 e he ht
     ·cases h
theorem c1o{t:List UInt8}{l:List Sg}(h:CT t=some l):sgM l:=by
 rw[CT] at h
 split at h
 ·cases h
 ·exact TE _ _ _ _ h
def frI(t:List UInt8)(l:List Sg)(y:Gs)(ks:List Int)(ms:List (Int×Int))(N:Nat):Prop:=(CT t=some l∧sgB l)∧FM l y ks ms N
theorem c1p{t:List UInt8}{l:List Sg}(h:sgQ t l)(hn:(CT t).isSome=true):frI t l ⟨0,0,false,[]⟩ [] [] (l.length+1):=⟨Oj h hn,b8s⟩
theorem Yo{t:List UInt8}{s:ST}{y:Gs}{ks:List Int}{ms:List (Int×Int)}{N:Nat}(h:frI t s.sg y ks ms N):okQ s y:=⟨b8u h.1.2 h.2,c1o h.1.1⟩
theorem TF{t:List UInt8}{l:List Sg}{y:Gs}{ks:List Int}{ms:List (Int×Int)}{N:Nat}{b:Bool}{z:Int×Gs}(h:frI t l y ks ms N)(hb:y.bad=false)(hl:y.pos<l.length)(hz:Ah l y (Dw l false) z)(e:b=(blG l y&&decide (0<(ks.length:Int)))):
 frI t l (gBl z.2 z.1 b) (ks++[z.1]) (ms++[(y.pos,(gBl z.2 z.1 b).pos)]) (N-1)∧N-1<N:=by
 rw[Yf hb] at e
 have hz2:Ah l y (Dw l b) (z.1,gBl z.2 z.1 b):=Ye Yd hz
 obtain⟨a,c⟩:=b8t h.2 hb hl hz2 e
 exact⟨⟨h.1,a⟩,c⟩
theorem c1q{t:List UInt8}{l:List Sg}{y:Gs}{ks:List Int}{ms:List (Int×Int)}{N:Nat}(h:frI t l y ks ms N):ks.length≤3001∧0≤y.pos∧y.pos≤l.length:=by
 have:=a5n h.1.2 h.2;omega
def frE(l:List Sg)(y:Gs):Prop:=y.bad=true∨¬y.pos<l.length
theorem Ox{l:List Sg}{y:Gs}(h:y.bad=true):frE l y:= .inl h
theorem Oy{l:List Sg}{y:Gs}(h:¬y.pos<l.length):frE l y:= .inr h
theorem Oz:BD []:=⟨by simp,by simp⟩
theorem TG{t:List UInt8}{l:List Sg}{y:Gs}{ks:List Int}{ms:List (Int×Int)}{N:Nat}(h:frI t l y ks ms N):sgQ t l∧(CT t).isSome=true:=⟨.inl h.1,by rw[h.1.1];rfl⟩
theorem TH{t:List UInt8}{l:List Sg}{y:Gs}{ks:List Int}{ms:List (Int×Int)}{N:Nat}(h:frI t l y ks ms N)(he:frE l y)(hb:(An y ⟨22,[],ks,false⟩).bad=true):CA t=none:=a5q (b8v (TG h).1 (TG h).2 ⟨h.2,he⟩ hb) hb
theorem Lc{t:List UInt8}{l:List Sg}{y:Gs}{ks:List Int}{ms:List (Int×Int)}{N:Nat}(h:frI t l y ks ms N)(he:frE l y)(hb:(An y ⟨22,[],ks,false⟩).bad=false):
 (BB (An y ⟨22,[],ks,false⟩).nodes=false→CA t=none)∧(BB (An y ⟨22,[],ks,false⟩).nodes=true→CA t=some (An y ⟨22,[],ks,false⟩).nodes):=by
 have a:=b8w (TG h).1 (TG h).2 ⟨h.2,he⟩ hb
 refine⟨fun h2=>a5q a (by simp only[Ft,h2];rfl),fun h2=>(b8x a (by simp only[Ft,h2];rfl)).1⟩
theorem Qz{t:List UInt8}{l:List Sg}{y:Gs}{ks:List Int}{ms:List (Int×Int)}{N:Nat}(h:frI t l y ks ms N):BD (An y ⟨22,[],ks,false⟩).nodes∧(An y ⟨22,[],ks,false⟩).nodes.length≤1073741824∧0≤(An y ⟨22,[],ks,false⟩).pos:=by
 have a:=PV h.2.1 (a5p h.1.2 h.2)
 have b:=a5o a
 exact⟨b.1,by omega,a.1.1⟩
theorem a6z{t:List UInt8}(h:(CT t).isSome=false):CA t=none:=by
 rw[CA]
 cases hs:CT t with
 |none=>rfl
 |some l=>rw[hs] at h;cases h
theorem c1r{T0 T1 T2 T3:Type}{p q:ST×T0×T1×T2×T3→Prop}(a:List Sg)(v0:T0)(v1:T1)(v2:T2)(v3:T3)(h2:q (⟨a,0,[]⟩,v0,v1,v2,v3))(h1:p (⟨a,0,[]⟩,v0,v1,v2,v3)):∃x,p x∧q x:=⟨_,h1,h2⟩
theorem c1s{T0 T1 T2 T3 T4 T5:Type}{p q:ST×T0×T1×T2×T3×T4×T5→Prop}(a:List Sg)(v0:T0)(v1:T1)(v2:T2)(v3:T3)(v4:T4)(v5:T5)(h2:q (⟨a,0,[]⟩,v0,v1,v2,v3,v4,v5))(h1:p (⟨a,0,[]⟩,v0,v1,v2,v3,v4,v5)):∃x,p x∧q x:=⟨_,h1,h2⟩
theorem c1t{T0 T1 T2 T3 T4 T5 T6:Type}{p q:ST×T0×T1×T2×T3×T4×T5×T6→Prop}(a:List Sg)(v0:T0)(v1:T1)(v2:T2)(v3:T3)(v4:T4)(v5:T5)(v6:T6)(h2:q (⟨a,0,[]⟩,v0,v1,v2,v3,v4,v5,v6))(h1:p (⟨a,0,[]⟩,v0,v1,v2,v3,v4,v5,v6)):∃x,p x∧q x:=⟨_,h1,h2⟩
attribute [local irreducible] frI frE gBl blG An AW gsOk Ah Dw CA CT BB sgM okQ
def Fu:Sig:= {X:=List UInt8,args:=fun x=>[.str x],pre:=fun x=>x.length<2^62,Y:=List Nd×Int,post:=fun x y=>y.1=(CA x).getD []∧BD y.1,res:=fun x y=> .tup [nds y.1,.int .i64 y.2,.bool (CA x).isSome],outs:=fun x y=>[.top],keep:=true}
def QA(x:List UInt8):LS:= {ι:=List Sg×Int×Int×Bool×List Nd×List Int×List (Int×Int)×Nat,inv:=fun i=>frI x i.1 (iF i.2) i.2.2.2.2.2.1 i.2.2.2.2.2.2.1 i.2.2.2.2.2.2.2,regs:=fun i=>[(0,.str x),(5,AZ []),(6,sgs i.1),(9,srd ⟨i.1,0,[]⟩ (iF i.2)),(10,Ad i.2.2.2.2.2.1)],als:=[],meas:=fun i=>i.2.2.2.2.2.2.2}
theorem a6A:Al G Tryz.prog 10 Fu:=
 vcFun_okP [(32,0,Lb),(33,0,Gg),(34,0,IE),(35,0,Er),(36,0,Bq),(17,0,Fg)] [(54,⟨Sg,sgA⟩),(25,⟨Int,Bc⟩),(27,⟨Nd,ndA true⟩)] false (fun x=>[(7,QA x)]) Tryz.func10 rfl (by decide) ⟨c1l,Ti,c1c,Tj,HR,VX,trivial⟩ (fun(x:List UInt8)=>True∧cA Lb [.str x] fun x_1 y=>Ab (!Option.isSome (CT x_1)) (rA Fu x [.tup [AZ [],.int .i64 y.2,.bool false],.top]) (eA (QA x) [.str x,AZ [],sgs y.1,.box 0 [sgs y.1,.int .i64 (0:Int),.bool false,.int .i64 (0:Int),.nil],Ad []]∧∀(i:List Sg×Int×Int×Bool×List Nd×List Int×List (Int×Int)×Nat),frI x i.1 (iF i.2) i.2.2.2.2.2.1 i.2.2.2.2.2.2.1 i.2.2.2.2.2.2.2→Ab (!(iF i.2).bad) (Ab (decide ((iF i.2).pos<(↑(List.length i.1):Int))) (cA Gg [.box 0 [sgs i.1,.int .i64 (iF i.2).pos,.bool (iF i.2).bad,.int .i64 (iF i.2).deep,AZ (iF i.2).nodes]] fun x_2 y=>Ab (blG x_2.1.sg (xg x_2)) (cA IE [srd x_2.1 (xg x_2),.bool true] fun x_3 y=>cA Er [srd x_3.1 (yG y.2),.int .i64 y.1,.bool (decide ((↑(List.length i.2.2.2.2.2.1):Int)>(0:Int)))] fun x_4 y_1=>∃(x_5:Int),y.1=x_5∧∃(zs:List Int),Ad [x_5]=Ad zs∧Br Bc∧Ba (List.length i.2.2.2.2.2.1+List.length zs) (8:Nat)∧eN (QA x) i [.str x,AZ [],sgs i.1,srd x_4.1 (gBl (xh x_4) x_4.2.2.2.2.2.1 x_4.2.2.2.2.2.2),Ad (i.2.2.2.2.2.1++zs)]) (cA IE [srd x_2.1 (xg x_2),.bool true] fun x_3 y=>cA Er [srd x_3.1 (yG y.2),.int .i64 y.1,.bool false] fun x_4 y_1=>∃(x_5:Int),y.1=x_5∧∃(zs:List Int),Ad [x_5]=Ad zs∧Br Bc∧Ba (List.length i.2.2.2.2.2.1+List.length zs) (8:Nat)∧eN (QA x) i [.str x,AZ [],sgs i.1,srd x_4.1 (gBl (xh x_4) x_4.2.2.2.2.2.1 x_4.2.2.2.2.2.2),Ad (i.2.2.2.2.2.1++zs)])) (cA Bq [.box 0 [sgs i.1,.int .i64 (iF i.2).pos,.bool (iF i.2).bad,.int .i64 (iF i.2).deep,AZ (iF i.2).nodes],.int .i64 (22:Int),.str #[].toList,Ad i.2.2.2.2.2.1] fun x_2 y=>Ab (An (xh x_2) {kind:=x_2.2.2.2.2.2.1,text:=x_2.2.2.2.2.2.2.1,kids:=x_2.2.2.2.2.2.2.2,blank:=false}).bad (Ab (decide ((An (xh x_2) {kind:=x_2.2.2.2.2.2.1,text:=x_2.2.2.2.2.2.2.1,kids:=x_2.2.2.2.2.2.2.2,blank:=false}).pos<(↑(List.length i.1):Int))) (true=true∧true=true∧((0:Int)≤(An (xh x_2) {kind:=x_2.2.2.2.2.2.1,text:=x_2.2.2.2.2.2.2.1,kids:=x_2.2.2.2.2.2.2.2,blank:=false}).pos∧(An (xh x_2) {kind:=x_2.2.2.2.2.2.1,text:=x_2.2.2.2.2.2.2.1,kids:=x_2.2.2.2.2.2.2.2,blank:=false}).pos<(↑(List.length i.1):Int))∧∀(e:Sg),i.1[Int.toNat (An (xh x_2) {kind:=x_2.2.2.2.2.2.1,text:=x_2.2.2.2.2.2.2.1,kids:=x_2.2.2.2.2.2.2.2,blank:=false}).pos]? =some e→rA Fu x [.tup [AZ [],.int .i64 e.pos,.bool false],.top]) (rA Fu x [.tup [AZ [],.int .i64 (↑(List.length x):Int),.bool false],.top])) (cA Fg [AZ (An (xh x_2) {kind:=x_2.2.2.2.2.2.1,text:=x_2.2.2.2.2.2.2.1,kids:=x_2.2.2.2.2.2.2.2,blank:=false}).nodes] fun x_3 y=>Ab (!BB x_3) (rA Fu x [.tup [AZ [],.int .i64 (0:Int),.bool false],.top]) (rA Fu x [.tup [AZ (An (xh x_2) {kind:=x_2.2.2.2.2.2.1,text:=x_2.2.2.2.2.2.2.1,kids:=x_2.2.2.2.2.2.2.2,blank:=false}).nodes,.int .i64 (0:Int),.bool true],.top])))) (cA Bq [.box 0 [sgs i.1,.int .i64 (iF i.2).pos,.bool (iF i.2).bad,.int .i64 (iF i.2).deep,AZ (iF i.2).nodes],.int .i64 (22:Int),.str #[].toList,Ad i.2.2.2.2.2.1] fun x_2 y=>Ab (An (xh x_2) {kind:=x_2.2.2.2.2.2.1,text:=x_2.2.2.2.2.2.2.1,kids:=x_2.2.2.2.2.2.2.2,blank:=false}).bad (Ab (decide ((An (xh x_2) {kind:=x_2.2.2.2.2.2.1,text:=x_2.2.2.2.2.2.2.1,kids:=x_2.2.2.2.2.2.2.2,blank:=false}).pos<(↑(List.length i.1):Int))) (true=true∧true=true∧((0:Int)≤(An (xh x_2) {kind:=x_2.2.2.2.2.2.1,text:=x_2.2.2.2.2.2.2.1,kids:=x_2.2.2.2.2.2.2.2,blank:=false}).pos∧(An (xh x_2) {kind:=x_2.2.2.2.2.2.1,text:=x_2.2.2.2.2.2.2.1,kids:=x_2.2.2.2.2.2.2.2,blank:=false}).pos<(↑(List.length i.1):Int))∧∀(e:Sg),i.1[Int.toNat (An (xh x_2) {kind:=x_2.2.2.2.2.2.1,text:=x_2.2.2.2.2.2.2.1,kids:=x_2.2.2.2.2.2.2.2,blank:=false}).pos]? =some e→rA Fu x [.tup [AZ [],.int .i64 e.pos,.bool false],.top]) (rA Fu x [.tup [AZ [],.int .i64 (↑(List.length x):Int),.bool false],.top])) (cA Fg [AZ (An (xh x_2) {kind:=x_2.2.2.2.2.2.1,text:=x_2.2.2.2.2.2.2.1,kids:=x_2.2.2.2.2.2.2.2,blank:=false}).nodes] fun x_3 y=>Ab (!BB x_3) (rA Fu x [.tup [AZ [],.int .i64 (0:Int),.bool false],.top]) (rA Fu x [.tup [AZ (An (xh x_2) {kind:=x_2.2.2.2.2.2.1,text:=x_2.2.2.2.2.2.2.1,kids:=x_2.2.2.2.2.2.2.2,blank:=false}).nodes,.int .i64 (0:Int),.bool true],.top]))))) (fun x=>by kernel_rfl) fun(x:List UInt8) (hx:x.length<2^62)=>(by
 dsimp only[cA,eA,eN,QA,Bx,nds,Ad,AZ,HH,rA,Gg,Er,IE,Bq,Fu,Lb,Fg,Df,sgs,srd,Aw,Az,mvL,lnL,mvE,lnE,Bv]
 have hx:x.length<2^62:=hx
 (repeat' first|(apply c1t<;>try dsimp only)|(apply c1s<;>try dsimp only)|(apply c1r<;>try dsimp only)|(with_reducible first|rfl|exact True.intro|apply AK|apply And.intro|((first|apply AA|apply AI|apply AB|apply AJ)<;>intro _))|(apply Ax<;>intro _)|apply AH|refine Af () ?_ ?_|((first|apply AO|apply AN|apply AM|apply AL|apply AG|apply AF|apply AE|apply AD|apply AC)<;>try dsimp only)|apply Af|(refine Prod.forall.2 ?_;intro _;try dsimp only)|(intro _;try dsimp only))
 all_goals(try dsimp only[xg,xh,yG,yS,iG,iF] at*)
 all_goals(try simp only[GE] at*)
 all_goals first
  |(show Nat;skip)
  |(show List (Int×Int);skip)
  |rfl
  |exact hx
  |exact c1p ‹_› ‹_›
  |(rw[a6z ‹_›];rfl)
  |(rw[a6z ‹_›];exact Oz)
  |exact(TF ‹_› ‹_› ‹_› ‹_› (KV ‹_›)).1
  |exact(TF ‹_› ‹_› ‹_› ‹_› (KW ‹_›)).1
  |exact Yo (s:=⟨_,0,[]⟩) ‹_›
  |exact(EF (Yo (s:=⟨_,0,[]⟩) ‹_›)).1
  |exact Fs (EF (Yo (s:=⟨_,0,[]⟩) ‹_›)).1 ‹_›
  |exact Ot Yd ‹_›
  |exact Ot Yd ‹_› ‹_›
  |assumption
  |omega
  |exact(Qz ‹_›).1
  |exact(Qz ‹_›).2.1
  |(rw[TH ‹_› (Ox ‹_›) ‹_›];rfl)
  |(rw[TH ‹_› (Ox ‹_›) ‹_›];exact Oz)
  |(rw[(Lc ‹_› (Ox ‹_›) ‹_›).1 ‹_›];rfl)
  |(rw[(Lc ‹_› (Ox ‹_›) ‹_›).2 ‹_›];rfl)
  |(rw[(Lc ‹_› (Ox ‹_›) ‹_›).1 ‹_›];exact Oz)
  |(rw[(Lc ‹_› (Ox ‹_›) ‹_›).2 ‹_›];exact(Qz ‹_›).1)
  |(rw[TH ‹_› (Oy ‹_›) ‹_›];rfl)
  |(rw[TH ‹_› (Oy ‹_›) ‹_›];exact Oz)
  |(rw[(Lc ‹_› (Oy ‹_›) ‹_›).1 ‹_›];rfl)
  |(rw[(Lc ‹_› (Oy ‹_›) ‹_›).2 ‹_›];rfl)
  |(rw[(Lc ‹_› (Oy ‹_›) ‹_›).1 ‹_›];exact Oz)
  |(rw[(Lc ‹_› (Oy ‹_›) ‹_›).2 ‹_›];exact(Qz ‹_›).1)
  |(have hq:=(Qz (show frI _ _ _ _ _ _ by assumption)).2.2;omega)
  |exact Oz
  |(simp [Ba];done)
  |(have hq:=c1q (show frI _ _ _ _ _ _ by assumption);(try simp only[Ba,List.length_append,List.length_cons,List.length_nil]);omega)
  |skip
 all_goals first
  |exact(TF ‹_› ‹_› ‹_› ‹_› (KV ‹_›)).2
  |exact(TF ‹_› ‹_› ‹_› ‹_› (KW ‹_›)).2
  |rfl
  |skip)
end Go.My
end
