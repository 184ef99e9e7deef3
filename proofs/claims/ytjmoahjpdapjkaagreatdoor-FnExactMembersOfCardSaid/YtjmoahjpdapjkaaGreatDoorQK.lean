/- A part of the proof: the engine and the contracts, joined. -/
import Derived.Test.YtjmoahjpdapjkaaGreatDoorQJ
section
set_option linter.unusedVariables false
set_option linter.unusedSimpArgs false
namespace Go.My
open Go.Eng Go.Proofs
variable {G:GInv}
def okQ(s:ST)(x:Gs):Prop:=okD s x∧sgM s.sg
theorem Ez{s:ST}{x:Gs}(h:okQ s x):okD s x:=h.1
theorem MQ{s:ST}{x:Gs}(h:okQ s x):sgM s.sg:=h.2
theorem Jm{sg:List Sg}{x:Gs}{m:List UInt8}(h:isG sg x 1 m=false):BI sg x m=x:=by simp [BI,h]
theorem Jn{sg:List Sg}{x:Gs}{m:List UInt8}(h:isG sg x 1 m=true):BI sg x m=Ai x:=by simp [BI,h]
theorem Gi{s:ST}{x:Gs}{m:List UInt8}(h:okQ s x)(hq:isG s.sg x 1 m=true):okQ s (Ai x):=⟨Lp h.1 hq,h.2⟩
theorem VG{s:ST}{x:Gs}(h:okQ s x):rOk s (Bf s.sg x 1)∧rOk s (Ah s.sg (Bf s.sg x 1) [61]):=by
 have a:=Hk (k:=1) h.1.1 (by omega);exact⟨a,Fo a⟩
theorem b2G{s:ST}{x:Gs}(h:okQ s x)(hq:isG s.sg (Bf s.sg x 1) 4 [61]=true):okQ s (Ah s.sg (Bf s.sg x 1) [61]):=by
 rw[HO.1] at hq ⊢
 exact⟨UK h.1.1 h.1.2 hq,h.2⟩
theorem b2H{s:ST}{x:Gs}{z:Int×Gs}(h:okQ s x)(hq:isG s.sg (Bf s.sg x 1) 4 [61]=true)(hz:Af s.sg (Ah s.sg (Bf s.sg x 1) [61]) (Ca s.sg) z):
 Af s.sg x (Dm s.sg false) (Ax (Al s.sg z.2 [59]),Ag (Al s.sg z.2 [59]) ⟨12,BA s.sg x 1,[z.1],false⟩):=by
 rw[HO.1] at hq hz;rw[HO.2]
 exact HN (Ey hz) (DF (Hg h.1.1.1) (by simp)) (a1l h.1.1 hq hz)
theorem b2I{s:ST}{x:Gs}(h:okQ s x)(hq:isG s.sg (Bf s.sg x 1) 4 [61]=false):
 Af s.sg x (Dm s.sg false) (Ax (Al s.sg (Ah s.sg (Bf s.sg x 1) [61]) [59]),Ag (Al s.sg (Ah s.sg (Bf s.sg x 1) [61]) [59]) ⟨12,BA s.sg x 1,[],false⟩):=by
 rw[HO.1] at hq ⊢;rw[HO.2]
 exact HN (a1m h.1.1 hq).2 (DF (Hg h.1.1.1) (by simp)) (a1n h.1.1 hq)
def mbS(sg:List Sg)(n:Nat)(x y:Gs)(ks:List Int)(N:Nat):Prop:=
 Iv sg (stR sg n) [125] (pkX (Al sg x [123])) y ks N∧y.deep=x.deep+1∧(y.bad=false→x.deep≠20)
theorem a2w{s:ST}{x:Gs}{n:Nat}(h:okQ s x):mbS s.sg n x (pkX (Al s.sg x [123])) [] (s.sg.length+1):=by
 have t:=FE (m:=[123]) h.1.1.2
 obtain⟨p1,p2,p3⟩:= @Od (Al s.sg x [123])
 have t1:=t.1;have t2:=t.2.1;have hd:=h.1.2
 refine⟨QH ⟨by simp only[pkX] at*;rw[p1];exact t1.1,by simp only[pkX] at*;rw[p2];have:=t1.2.1;omega,?_⟩,by simp only[pkX] at*;rw[p2];omega,fun hb=>by have:=(p3 hb).2;omega⟩
 have e:(pkX (Al s.sg x [123])).nodes=(Al s.sg x [123]).nodes:=by unfold pkX;split<;>rfl
 rw[e];exact t1.2.2
theorem b2J{s:ST}{x:Gs}{n:Nat}(h:okQ s x)(h20:(Al s.sg x [123]).deep+1>20):mbS s.sg n x ⟨(Al s.sg x [123]).pos,(Al s.sg x [123]).deep+1,true,(Al s.sg x [123]).nodes⟩ [] (s.sg.length+1):=by
 have a:=a2w (n:=n) h
 have t2:=(FE (m:=[123]) h.1.1.2).2.1;have hd:=h.1.2
 have e:pkX (Al s.sg x [123])=⟨(Al s.sg x [123]).pos,(Al s.sg x [123]).deep+1,true,(Al s.sg x [123]).nodes⟩:=by rw[pkX,if_pos (by omega)];rfl
 rw[←e];exact a
theorem b2K{s:ST}{x:Gs}{n:Nat}(h:okQ s x)(h20:¬(Al s.sg x [123]).deep+1>20):mbS s.sg n x ⟨(Al s.sg x [123]).pos,(Al s.sg x [123]).deep+1,(Al s.sg x [123]).bad,(Al s.sg x [123]).nodes⟩ [] (s.sg.length+1):=by
 have a:=a2w (n:=n) h
 have e:pkX (Al s.sg x [123])=⟨(Al s.sg x [123]).pos,(Al s.sg x [123]).deep+1,(Al s.sg x [123]).bad,(Al s.sg x [123]).nodes⟩:=by rw[pkX,if_neg (by omega)];rfl
 rw[←e];exact a
theorem b2L{s:ST}{x:Gs}(h:okQ s x):0≤(Al s.sg x [123]).deep∧(Al s.sg x [123]).deep≤20:=by
 have t:=FE (m:=[123]) h.1.1.2
 have:=t.1.2.1;have:=t.2.1;have:=h.1.2;omega
theorem Rv{s:ST}{x y:Gs}{n:Nat}{ks:List Int}{N:Nat}(h:okQ s x)(hj:mbS s.sg n x y ks N):rOk s y:=⟨h.1.1.1,hj.1.1.1⟩
theorem VH{s:ST}{x y:Gs}{n:Nat}{ks:List Int}{N:Nat}(h:okQ s x)(h2:20-x.deep≤(n:Int))(hj:mbS s.sg n x y ks N)(hb:y.bad=false)(hq:isG s.sg y 4 [125]=false):okQ s (Ah s.sg y [125])∧(Ah s.sg y [125]).bad=false∧21-(Ah s.sg y [125]).deep≤(n:Int):=by
 rw[CZ hq]
 have:=hj.2.1;have:=hj.2.2 hb;have:=h.1.2
 exact⟨⟨⟨Rv h hj,by omega⟩,h.2⟩,hb,by omega⟩
theorem VI{s:ST}{x y:Gs}{n:Nat}{ks:List Int}{N:Nat}(h:okQ s x)(hj:mbS s.sg n x y ks N):ks.length≤3001:=by
 have:=hj.1.2.2.1;have:=hj.1.1.1.1;have:=h.1.1.1.1;omega
theorem Rx{s:ST}{x y:Gs}{n:Nat}{ks:List Int}{N:Nat}{b:Bool}{z:Int×Gs}(hj:mbS s.sg n x y ks N)(hb:y.bad=false)(hq:isG s.sg y 4 [125]=false)(hz:Af s.sg (Ah s.sg y [125]) (stR s.sg n false) z)(e:b=(blG s.sg (Ah s.sg y [125])&&decide (0<(ks.length:Int)))):
 mbS s.sg n x (gBl z.2 z.1 b) (ks++[z.1]) (N-1)∧N-1<N:=by
 rw[CZ hq] at hz e
 rw[VF hb] at e
 have hz2:Af s.sg y (stR s.sg n b) (z.1,gBl z.2 z.1 b):=VE VB hz
 subst e
 obtain⟨a,b⟩:=Hd (QK hj.1 hb hq (z:=(z.1,gBl z.2 z.1 ((pkG s.sg y 0).blank&&decide (0<(ks.length:Int))))) (by
  have:decide (0<ks.length)=decide (0<(ks.length:Int)):=by simp
  rw[this];exact hz2))
 have:=(CC hz2).1
 exact⟨⟨a,by have:=hj.2.1;simp only at*;omega,fun hw=>hj.2.2 hb⟩,b⟩
theorem b2M{s:ST}{x y:Gs}{n:Nat}{ks:List Int}{N:Nat}(h:okQ s x)(hj:mbS s.sg n x y ks N)(hq:isG s.sg y 4 [125]=true):
 Af s.sg x (BH s.sg (stR s.sg n)) (Ax (gDp (Ah s.sg y [125]) (-1)),Ag (gDp (Ah s.sg y [125]) (-1)) ⟨18,[],ks,false⟩):=by
 rw[Da hq,←Jj hq]
 exact a2v (l:=(ks,y)) h.1.1.2 h.1.2 (QJ hj.1 hq) (VI h hj)
theorem b2N{s:ST}{x y:Gs}{n:Nat}{ks:List Int}{N:Nat}(h:okQ s x)(hj:mbS s.sg n x y ks N)(hb:y.bad=true):
 Af s.sg x (BH s.sg (stR s.sg n)) (Ax (gDp y (-1)),Ag (gDp y (-1)) ⟨18,[],ks,false⟩):=by
 have a:=a2v (l:=(ks,y)) h.1.1.2 h.1.2 (QI hj.1 hb) (VI h hj)
 simp only[Rh hb] at a;exact a
theorem VJ{s:ST}{x y:Gs}{n:Nat}{ks:List Int}{N:Nat}(h:okQ s x)(hj:mbS s.sg n x y ks N):(1≤y.deep∧y.deep≤21)∧rOk s (gDp y (-1))∧rOk s (gDp (Ah s.sg y [125]) (-1))∧(Ah s.sg y [125]).deep=y.deep:=by
 have h1:=hj.2.1;have h2:=h.1.1.2.2.1;have h3:=h.1.2
 have a:=Rv h hj
 have b:=Fo (m:=[125]) a
 have e:(Ah s.sg y [125]).deep=y.deep:=by unfold Ah;split<;>rfl
 refine⟨by omega,⟨a.1,a.2.1,by simp only[gDp];omega,a.2.2.2⟩,⟨b.1,b.2.1,by simp only[gDp];omega,b.2.2.2⟩,e⟩
theorem b2O{s:ST}{x:Gs}{n:Nat}(h:okQ s x)(hk:kdG s.sg x 5=true):Af s.sg x (stR s.sg (n+1) false) (Ax (Bf s.sg x 5),Ag (Bf s.sg x 5) ⟨19,BA s.sg x 5,[],false⟩):=by
 have hn:=hk
 rw[Ow (by omega)] at hn
 exact MM h.1.1.1 h.1.1.2 (by omega) hk (a0Y h.1.1.1 h.1.1.2 (by simpa using hn))
theorem GH{sg:List Sg}{x:Gs}(h:kdG sg x 5=false):(pkG sg x 0).kind≠5:=Jl h (by omega)
theorem b2P{s:ST}{x:Gs}{n:Nat}{z:Int×Gs}(h:okQ s x)(hk:kdG s.sg x 5=false)(hq:isG s.sg x 1 [118,97,114]=true)(hz:Af s.sg (Ai x) (Dm s.sg false) z):Af s.sg x (stR s.sg (n+1) false) z:=a0Z h.1.1.2 (GH hk) hq hz
theorem b2Q{s:ST}{x:Gs}{n:Nat}(h:okQ s x)(hk:kdG s.sg x 5=false)(h1:isG s.sg x 1 [118,97,114]=false)(hq:isG s.sg x 1 [114,101,116,117,114,110]=true)(hs:isG s.sg (Ai x) 4 [59]=true):
 Af s.sg x (stR s.sg (n+1) false) (Ax (Al s.sg (Ai x) [59]),Ag (Al s.sg (Ai x) [59]) ⟨15,[],[],false⟩):=by
 have o:=(Gi h hq).1.1.2
 exact UE h.1.1.2 (GH hk) h1 hq (HN o (DF (by simp) (by simp)) (a0O o hs))
theorem b2R{s:ST}{x:Gs}{n:Nat}{z:Int×Gs}(h:okQ s x)(hk:kdG s.sg x 5=false)(h1:isG s.sg x 1 [118,97,114]=false)(hq:isG s.sg x 1 [114,101,116,117,114,110]=true)(hs:isG s.sg (Ai x) 4 [59]=false)(hz:Af s.sg (Ai x) (Ca s.sg) z):
 Af s.sg x (stR s.sg (n+1) false) (Ax (Al s.sg z.2 [59]),Ag (Al s.sg z.2 [59]) ⟨15,[],[z.1],false⟩):=by
 have o:=(Gi h hq).1.1.2
 exact UE h.1.1.2 (GH hk) h1 hq (HN (Ey hz) (DF (by simp) (by simp)) (a0P o hs hz))
theorem b2S{s:ST}{x:Gs}{n:Nat}{c q:Int×Gs}(h:okQ s x)(hk:kdG s.sg x 5=false)(h1:isG s.sg x 1 [118,97,114]=false)(h2:isG s.sg x 1 [114,101,116,117,114,110]=false)(hq:isG s.sg x 1 [105,102]=true)
 (hc:Bm s.sg (Ai x) (Di s.sg) c) (hb:Af s.sg c.2 (BH s.sg (stR s.sg n)) q) (he:isG s.sg q.2 1 [101,108,115,101]=false):
 Af s.sg x (stR s.sg (n+1) false) (Ax (BI s.sg q.2 [101,108,115,101]),Ag (BI s.sg q.2 [101,108,115,101]) ⟨16,[],[c.1,q.1],false⟩):=by
 rw[Jm he]
 exact UF h.1.1.2 (GH hk) h1 h2 hq (a0U (Gi h hq).1.1.2 hc hb he)
theorem b2T{s:ST}{x:Gs}{n:Nat}{c q r:Int×Gs}(h:okQ s x)(hk:kdG s.sg x 5=false)(h1:isG s.sg x 1 [118,97,114]=false)(h2:isG s.sg x 1 [114,101,116,117,114,110]=false)(hq:isG s.sg x 1 [105,102]=true)
 (hc:Bm s.sg (Ai x) (Di s.sg) c) (hb:Af s.sg c.2 (BH s.sg (stR s.sg n)) q) (he:isG s.sg q.2 1 [101,108,115,101]=true) (hr:Af s.sg (BI s.sg q.2 [101,108,115,101]) (BH s.sg (stR s.sg n)) r):
 Af s.sg x (stR s.sg (n+1) false) (Ax r.2,Ag r.2 ⟨16,[],[c.1,q.1,r.1],false⟩):=by
 rw[Jn he] at hr
 exact UF h.1.1.2 (GH hk) h1 h2 hq (a0V (Gi h hq).1.1.2 hc hb he hr)
theorem b2U{s:ST}{x:Gs}{n:Nat}{c q:Int×Gs}(h:okQ s x)(hk:kdG s.sg x 5=false)(h1:isG s.sg x 1 [118,97,114]=false)(h2:isG s.sg x 1 [114,101,116,117,114,110]=false)(h3:isG s.sg x 1 [105,102]=false)(hq:isG s.sg x 1 [119,104,105,108,101]=true)
 (hc:Bm s.sg (Ai x) (Di s.sg) c) (hb:Af s.sg c.2 (BH s.sg (stR s.sg n)) q):Af s.sg x (stR s.sg (n+1) false) (Ax q.2,Ag q.2 ⟨17,[],[c.1,q.1],false⟩):=a1t h.1 (GH hk) h1 h2 h3 hq hc hb
theorem b2V{sg:List Sg}{i k:Int}{e:Sg}(hk:e.kind=k)(he:sg[i.toNat]? =some e):(sgO sg i).kind=k:=by rw[Ga he];exact hk
theorem b2W{sg:List Sg}{i k:Int}{e:Sg}(hk:e.kind≠k)(he:sg[i.toNat]? =some e):(sgO sg i).kind≠k:=by rw[Ga he];exact hk
theorem b2X{sg:List Sg}{i:Int}{e:Sg}{m:List UInt8}(hk:e.text=m)(he:sg[i.toNat]? =some e):((sgO sg i).text==m)=true:=by rw[Ga he];simpa using hk
theorem b2Y{sg:List Sg}{i:Int}{e:Sg}{m:List UInt8}(hk:e.text≠m)(he:sg[i.toNat]? =some e):((sgO sg i).text==m)=false:=by rw[Ga he];simpa using hk
theorem b2Z{sg:List Sg}{x:Gs}(hk:kdG sg x 1=false):seG sg x=false:=by rw[Ix] at hk;simp [seG,hk]
theorem a2x{sg:List Sg}{x:Gs}{e:Sg}(hb:x.bad=false)(hl:x.pos+1<sg.length)(he:sgO sg (x.pos+1)=e):pkG sg x 1=e:=by
 rw[pkG,if_neg (by simp [hb];omega),he]
theorem b3a{sg:List Sg}{x:Gs}(hl:¬x.pos+1<sg.length):seG sg x=false:=by
 have:pkG sg x 1=Ec:=by rw[pkG,if_pos (.inr (by omega))]
 simp [seG,this,Ec]
theorem a2y{sg:List Sg}{x:Gs}(hb:x.bad=false)(hl:x.pos+1<sg.length)(hk:(sgO sg (x.pos+1)).kind≠4∨((sgO sg (x.pos+1)).text==[61])=false):seG sg x=false:=by
 rw[seG,a2x hb hl rfl]
 rcases hk with hk|hk<;>simp [hk]
theorem b3b{sg:List Sg}{x:Gs}(hb:x.bad=false)(hl:x.pos+1<sg.length)(h1:kdG sg x 1=true)(hk:(sgO sg (x.pos+1)).kind=4)(ht:((sgO sg (x.pos+1)).text==[61])=true):seG sg x=true:=by
 rw[Ix] at h1
 rw[seG,a2x hb hl rfl];simp [h1,hk,ht]
theorem b3c{s:ST}{x:Gs}{n:Nat}{z:Int×Gs}(h:okQ s x)(hk:kdG s.sg x 5=false)(h1:isG s.sg x 1 [118,97,114]=false)(h2:isG s.sg x 1 [114,101,116,117,114,110]=false)(h3:isG s.sg x 1 [105,102]=false)(h4:isG s.sg x 1 [119,104,105,108,101]=false)
 (he:seG s.sg x=true) (hz:Af s.sg (Al s.sg (Bf s.sg x 1) [61]) (Ca s.sg) z):Af s.sg x (stR s.sg (n+1) false) (Ax (Al s.sg z.2 [59]),Ag (Al s.sg z.2 [59]) ⟨13,BA s.sg x 1,[z.1],false⟩):=by
 rw[HO.1] at hz;rw[HO.2]
 exact a1a h.1.1.2 (GH hk) h1 h2 h3 h4 he (HN (Ey hz) (DF (Hg h.1.1.1) (by simp)) (a0W h.1.1.1 h.1.1.2 hz))
theorem Ry{s:ST}{x:Gs}{n:Nat}{z:Int×Gs}(h:okQ s x)(hk:kdG s.sg x 5=false)(h1:isG s.sg x 1 [118,97,114]=false)(h2:isG s.sg x 1 [114,101,116,117,114,110]=false)(h3:isG s.sg x 1 [105,102]=false)(h4:isG s.sg x 1 [119,104,105,108,101]=false)
 (he:seG s.sg x=false) (hz:Af s.sg x (Ca s.sg) z):Af s.sg x (stR s.sg (n+1) false) (Ax (Al s.sg z.2 [59]),Ag (Al s.sg z.2 [59]) ⟨14,[],[z.1],false⟩):=
 a1b h.1.1.2 (GH hk) h1 h2 h3 h4 he (HN (Ey hz) (DF (by simp) (by simp)) (a0X h.1.1.2 hz))
theorem a2z{s:ST}{x:Gs}(h:okQ s x):rOk s (Al s.sg (Bf s.sg x 1) [61])∧okQ s (Al s.sg (Bf s.sg x 1) [61]):=by
 have a:=Ef (m:=[61]) (Hk (k:=1) h.1.1 (by omega))
 have e:(Bf s.sg x 1).deep=x.deep:=by unfold Bf;split<;>rfl
 exact⟨a.1,⟨a.1,by have:=h.1.2;omega⟩,h.2⟩
theorem b3d{α:Type}{s:ST}{x:Gs}{f:Ps→Option (α×Ps)}{y:α×Gs}(h:okQ s x)(hy:Bm s.sg x f y):okQ s y.2:=⟨Lo h.1 hy,h.2⟩
theorem MR{α:Type}{s:ST}{x:Gs}{f:Ps→Option (α×Ps)}{y:α×Gs}(h:okQ s x)(hy:Af s.sg x f y):okQ s y.2:=⟨Lo h.1 hy.1,h.2⟩
theorem b3e{α:Type}{s:ST}{x:Gs}{n:Nat}{f:Ps→Option (α×Ps)}{y:α×Gs}(h:21-x.deep≤((n+1:Nat):Int))(hy:Bm s.sg (Ai x) f y):20-y.2.deep≤(n:Int):=by
 have:=hy.2.1;simp only[Ai] at this;omega
theorem a2A{sg:List Sg}{x:Gs}{m:List UInt8}:(BI sg x m).deep=x.deep:=by unfold BI;split<;>rfl
theorem a2B{s:ST}{x:Gs}{m:List UInt8}(h:rOk s x):rOk s (BI s.sg x m):=by
 unfold BI;split
 ·rename_i hq;exact⟨h.1,EY h.2 (Cy hq (by omega)).2⟩
 ·exact h
theorem a2C{s:ST}{x:Gs}{m:List UInt8}(h:okQ s x):okQ s (BI s.sg x m):=⟨⟨a2B h.1.1,by rw[a2A];exact h.1.2⟩,h.2⟩
theorem b3f{α:Type}{s:ST}{x:Gs}{n:Nat}{m:List UInt8}{f:Ps→Option (α×Ps)}{y:α×Gs}(h:20-x.deep≤(n:Int))(hy:Af s.sg x f y):20-(BI s.sg y.2 m).deep≤(n:Int):=by
 rw[a2A];exact a1u h hy
def Jo(n:Nat):Sig:= {X:=ST×Int×Int×Bool×List Nd,args:=fun x=>[srd x.1 (xg x)],pre:=fun x=>(okQ x.1 (xg x)∧(xg x).bad=false)∧21-(xg x).deep≤n,Y:=Int×Int×Int×Bool×List Nd,post:=fun x y=>Af x.1.sg (xg x) (stR x.1.sg n false) (yS y),res:=fun x y=> .int .i64 y.1,outs:=fun x y=>[srd x.1 (yG y.2)],keep:=true}
attribute [local irreducible] pE Bl CP fnR Af Bm gsOk Al Bs Ag BX CY Ah Cz Dj Ax BB pkG isG nmG kdG Bf BA Bz vlQ BI gBl blG Dm Gd Di Ca BH stR CK mbS seG okQ sgM
def srf(s:ST)(g:Gs):AV:= .pf [sgs s.sg,.int .i64 g.pos,.bool g.bad,.int .i64 g.deep,nds g.nodes]
theorem a2D{l:List Sg}{p d:Int}{b:Bool}{ns:List Nd}:AV.pf (fzL [AV.sl false 0 4 Sg sgA l,.int .i64 p,.bool b,.int .i64 d,AV.sl true 0 4 Nd (ndA true) ns])=AV.pf [AV.sl false 0 4 Sg sgA l,.int .i64 p,.bool b,.int .i64 d,AV.sl false 0 4 Nd (ndA false) ns]:=rfl
def Iz:Sig:= {X:=ST×Int×Int×Bool×List Nd×Int,args:=fun x=>[srf x.1 (xh x),.int .i64 x.2.2.2.2.2],pre:=fun x=>rOk x.1 (xh x)∧x.2.2.2.2.2≠0,Y:=Unit,post:=fun x y=>True,res:=fun x y=> .bool (kdG x.1.sg (xh x) x.2.2.2.2.2),outs:=fun x y=>[.top,.top],keep:=false}
theorem b3g:Aj G Tryz.prog 68 Iz:=
 vcFun_okP [(105,0,FU)] [] false (fun x=>[]) Tryz.func68 rfl (by decide) ⟨TM,trivial⟩ (fun(x:ST×Int×Int×Bool×List Nd×Int)=>(∀(y:Unit),True→True∧True∧True∧True)∧true=true∧true=true∧Aa (!(xh x).bad) (Aa (decide ((xh x).pos<(↑(List.length x.1.sg):Int))) (((0:Int)≤(xh x).pos∧(xh x).pos<(↑(List.length x.1.sg):Int))∧∀(e:Sg),x.1.sg[Int.toNat (xh x).pos]? =some e→Aa (e.kind==x.2.2.2.2.2) (Aa (x.2.2.2.2.2 != (1:Int)) (rA Iz x [.bool true,.top,.top]) (((0:Int)≤(xh x).pos∧(xh x).pos<(↑(List.length x.1.sg):Int))∧∀(e:Sg),x.1.sg[Int.toNat (xh x).pos]? =some e→∃(x_1:List UInt8),True∧e.text=x_1∧∃(y0:Unit),(∀(y:Unit),True→AV.bool (kw x_1)=AV.bool (kw x_1))∧true=true∧rA Iz x [.bool !kw x_1,.top,.top])) (rA Iz x [.bool false,.top,.top])) (rA Iz x [.bool false,.top,.top])) (rA Iz x [.bool false,.top,.top])) (fun x=>by kernel_rfl) fun(x:ST×Int×Int×Bool×List Nd×Int) (hx:rOk x.1 (xh x)∧x.2.2.2.2.2≠0)=>(by
 dsimp only[Bg,nds,rA,Iz,Bj,sgs,srf,Av,AB]
 obtain⟨s,p,d,b,ns,k⟩:=x;dsimp only[xg,xh] at hx ⊢
 obtain⟨h1,h2⟩:=hx;have hs:=DK h1;dsimp only at hs
 (repeat' first|(with_reducible first|rfl|exact True.intro|apply AK|apply And.intro|((first|apply Az|apply AI|apply AA|apply AJ)<;>intro _))|(apply Aw<;>intro _)|apply AH|refine Ae () ?_ ?_|((first|apply AO|apply AN|apply AM|apply AL|apply AG|apply AF|apply AE|apply AD|apply AC)<;>try dsimp only)|apply Ae|(refine Prod.forall.2 ?_;intro _;try dsimp only)|(intro _;try dsimp only))
 all_goals(try(repeat(rename s.sg[_]? =some _=>hq;revert hq;rename s.sg[_]? =some _=>hr;intro hq;rw[hr] at hq;cases hq)))
 all_goals first
  |rfl
  |exact(MK h2 (.inl ‹_›)).symm
  |exact(MK h2 (.inr (by simp only;omega))).symm
  |(rw[a1T ‹_› ‹_› (by simp only;omega)];simp [*];done)
  |((try simp only[AR]);omega)
  |skip)
def GI:Sig:= {X:=ST×Int×Int×Bool×List Nd,args:=fun x=>[srd x.1 (xg x)],pre:=fun x=>okQ x.1 (xg x),Y:=Int×Int×Int×Bool×List Nd,post:=fun x y=>Af x.1.sg (xg x) (Dm x.1.sg false) (yS y),res:=fun x y=> .int .i64 y.1,outs:=fun x y=>[srd x.1 (yG y.2)],keep:=true}
theorem VK:Aj G Tryz.prog 71 GI:=
 vcFun_okP [(69,0,CF),(73,0,Cb),(107,0,FH),(72,0,BN),(43,0,Bq)] [(45,⟨Int,Bb⟩)] false (fun x=>[]) Tryz.func71 rfl (by decide) ⟨Kk,Hi,Vw,HM,Hj,trivial⟩ (fun(x:ST×Int×Int×Bool×List Nd)=>True∧cA CF [srd x.1 (xg x),.int .i64 (1:Int)] fun x_1 y=>cA Cb [srd x_1.1 (Bf x_1.1.sg (xh x_1) x_1.2.2.2.2.2),.str #[(61:UInt8)].toList] fun x_2 y=>Aa (isG x_2.1.sg (xh x_2) (4:Int) x_2.2.2.2.2.2) (cA FH [srd x_2.1 (Ah x_2.1.sg (xh x_2) x_2.2.2.2.2.2)] fun x_3 y=>∃(x_4:Int),y.1=x_4∧∃(zs:List Int),Ab [x_4]=Ab zs∧Be Bb∧AS ((0:Nat)+List.length zs) (8:Nat)∧cA BN [srd x_3.1 (yG y.2),.str #[(59:UInt8)].toList] fun x_5 y=>cA Bq [srd x_5.1 (Al x_5.1.sg (xh x_5) x_5.2.2.2.2.2),.int .i64 (12:Int),.str (BA x_1.1.sg (xh x_1) x_1.2.2.2.2.2),Ab ([]++zs)] fun x_6 y=>rA GI x [.int .i64 (Ax (xh x_6)),srd x_6.1 (Ag (xh x_6) {kind:=x_6.2.2.2.2.2.1,text:=x_6.2.2.2.2.2.2.1,kids:=x_6.2.2.2.2.2.2.2,blank:=false})]) (cA BN [srd x_2.1 (Ah x_2.1.sg (xh x_2) x_2.2.2.2.2.2),.str #[(59:UInt8)].toList] fun x_3 y=>cA Bq [srd x_3.1 (Al x_3.1.sg (xh x_3) x_3.2.2.2.2.2),.int .i64 (12:Int),.str (BA x_1.1.sg (xh x_1) x_1.2.2.2.2.2),Ab []] fun x_4 y=>rA GI x [.int .i64 (Ax (xh x_4)),srd x_4.1 (Ag (xh x_4) {kind:=x_4.2.2.2.2.2.1,text:=x_4.2.2.2.2.2.2.1,kids:=x_4.2.2.2.2.2.2.2,blank:=false})])) (fun x=>by kernel_rfl) fun(x:ST×Int×Int×Bool×List Nd) (hx:okQ x.1 (xg x))=>(by
 dsimp only[cA,Bg,Ab,Au,rA,Cb,Bq,CF,FH,GI,BN,Bj,sgs,srd,Av,AB,mvL,lnL,mvE,lnE]
 obtain⟨s,p,d,b,ns⟩:=x;dsimp only[xg,xh] at hx ⊢
 have hx:okQ s ⟨p,d,b,ns⟩:=hx
 have hD:=Ez hx;have hM:=MQ hx;have h1:=hD.1
 (repeat' first|(with_reducible first|rfl|exact True.intro|apply AK|apply And.intro|((first|apply Az|apply AI|apply AA|apply AJ)<;>intro _))|(apply Aw<;>intro _)|apply AH|refine Ae () ?_ ?_|((first|apply AO|apply AN|apply AM|apply AL|apply AG|apply AF|apply AE|apply AD|apply AC)<;>try dsimp only)|apply Ae|(refine Prod.forall.2 ?_;intro _;try dsimp only)|(intro _;try dsimp only))
 all_goals(try dsimp only[xg,xh,yG,yS,iG,iF] at*)
 all_goals(try simp only[CM] at*)
 all_goals first
  |rfl
  |exact h1
  |omega
  |exact(VG hx).1
  |exact(VG hx).2
  |exact Ez (b2G hx ‹_›)
  |exact hM
  |exact Dq h1 ‹_›
  |exact(Ef (Dq h1 ‹_›)).1
  |exact(Ef (VG hx).2).1
  |exact b2H hx ‹_› ‹_›
  |exact b2I hx ‹_›
  |(simp [AS];done)
  |skip)
def LC:Sig:= {X:=ST×Int×Int×Bool×List Nd,args:=fun x=>[srd x.1 (xg x)],pre:=fun x=>okQ x.1 (xg x),Y:=Int×Int×Int×Bool×List Nd,post:=fun x y=>Bm x.1.sg (xg x) (Di x.1.sg) (yS y),res:=fun x y=> .int .i64 y.1,outs:=fun x y=>[srd x.1 (yG y.2)],keep:=true}
theorem b3h:Aj G Tryz.prog 144 LC:=
 vcFun_okP [(107,0,FH),(72,0,BN)] [] false (fun x=>[]) Tryz.func144 rfl (by decide) ⟨Vw,HM,trivial⟩ (fun(x:ST×Int×Int×Bool×List Nd)=>True∧cA BN [srd x.1 (xg x),.str #[(40:UInt8)].toList] fun x_1 y=>cA FH [srd x_1.1 (Al x_1.1.sg (xh x_1) x_1.2.2.2.2.2)] fun x_2 y=>cA BN [srd x_2.1 (yG y.2),.str #[(41:UInt8)].toList] fun x_3 y_1=>rA LC x [.int .i64 y.1,srd x_3.1 (Al x_3.1.sg (xh x_3) x_3.2.2.2.2.2)]) (fun x=>by kernel_rfl) fun(x:ST×Int×Int×Bool×List Nd) (hx:okQ x.1 (xg x))=>(by
 dsimp only[cA,Bg,Au,rA,LC,FH,BN,Bj,sgs,srd,Av,AB,mvL,lnL,mvE,lnE]
 obtain⟨s,p,d,b,ns⟩:=x;dsimp only[xg,xh] at hx ⊢
 have hx:okQ s ⟨p,d,b,ns⟩:=hx
 have hD:=Ez hx;have hM:=MQ hx;have h1:=hD.1
 have t:=Ef (m:=[40]) h1;have hd:=hD.2;dsimp only at hd
 (repeat' first|(with_reducible first|rfl|exact True.intro|apply AK|apply And.intro|((first|apply Az|apply AI|apply AA|apply AJ)<;>intro _))|(apply Aw<;>intro _)|apply AH|refine Ae () ?_ ?_|((first|apply AO|apply AN|apply AM|apply AL|apply AG|apply AF|apply AE|apply AD|apply AC)<;>try dsimp only)|apply Ae|(refine Prod.forall.2 ?_;intro _;try dsimp only)|(intro _;try dsimp only))
 all_goals(try dsimp only[xg,xh,yG,yS,iG,iF] at*)
 all_goals(try simp only[CM] at*)
 all_goals first
  |rfl
  |exact h1
  |exact t.1
  |exact hM
  |exact⟨t.1,by rw[t.2];exact hd⟩
  |exact Dq h1 ‹_›
  |exact a0Q h1.2 ‹_›
  |skip)
def HR(n:Nat):Sig:= {X:=ST×Int×Int×Bool×List Nd,args:=fun x=>[srd x.1 (xg x)],pre:=fun x=>okQ x.1 (xg x)∧20-(xg x).deep≤(n:Int),Y:=Int×Int×Int×Bool×List Nd,post:=fun x y=>Af x.1.sg (xg x) (BH x.1.sg (stR x.1.sg n)) (yS y),res:=fun x y=> .int .i64 y.1,outs:=fun x y=>[srd x.1 (yG y.2)],keep:=true}
def Km(n:Nat)(x:ST×Int×Int×Bool×List Nd):LS:= {ι:=Int×Int×Bool×List Nd×List Int×Nat,inv:=fun i=>mbS x.1.sg n (xg x) (iG i) i.2.2.2.2.1 i.2.2.2.2.2,regs:=fun i=>[(0,srd x.1 (iG i)),(3,Ab i.2.2.2.2.1)],als:=[],meas:=fun i=>i.2.2.2.2.2}
theorem a2E(n:Nat)(h:Aj G Go.Proofs.Tryz.prog 108 (Jo n)):Aj G Tryz.prog 75 (HR n):=
 vcFun_okP [(72,0,BN),(73,0,Cb),(40,0,FG),(108,0,(Jo n)),(42,0,Eg),(43,0,Bq)] [(45,⟨Int,Bb⟩)] false (fun x=>[(6,Km n x)]) Tryz.func75 rfl (by decide) ⟨HM,Hi,Re,h,Rf,Hj,trivial⟩ (fun(x:ST×Int×Int×Bool×List Nd)=>True∧cA BN [srd x.1 (xg x),.str #[(123:UInt8)].toList] fun x_1 y=>inR IntKind.i64 ((Al x_1.1.sg (xh x_1) x_1.2.2.2.2.2).deep+(1:Int))∧Aa (decide ((Al x_1.1.sg (xh x_1) x_1.2.2.2.2.2).deep+(1:Int)>(20:Int))) (eA (Km n x) [.box 0 [sgs x_1.1.sg,.int .i64 (Al x_1.1.sg (xh x_1) x_1.2.2.2.2.2).pos,.bool true,.int .i64 ((Al x_1.1.sg (xh x_1) x_1.2.2.2.2.2).deep+(1:Int)),Au (Al x_1.1.sg (xh x_1) x_1.2.2.2.2.2).nodes],Ab []]∧∀(i:Int×Int×Bool×List Nd×List Int×Nat),mbS x.1.sg n (xg x) (iG i) i.2.2.2.2.1 i.2.2.2.2.2→Aa (!(iG i).bad) (cA Cb [srd x.1 (iG i),.str #[(125:UInt8)].toList] fun x_2 y=>Aa (!isG x_2.1.sg (xh x_2) (4:Int) x_2.2.2.2.2.2) (cA FG [srd x_2.1 (Ah x_2.1.sg (xh x_2) x_2.2.2.2.2.2)] fun x_3 y=>Aa (blG x_3.1.sg (xg x_3)) (cA (Jo n) [srd x_3.1 (xg x_3)] fun x_4 y=>cA Eg [srd x_4.1 (yG y.2),.int .i64 y.1,.bool (decide ((↑(List.length i.2.2.2.2.1):Int)>(0:Int)))] fun x_5 y_1=>∃(x_6:Int),y.1=x_6∧∃(zs:List Int),Ab [x_6]=Ab zs∧Be Bb∧AS (List.length i.2.2.2.2.1+List.length zs) (8:Nat)∧eN (Km n x) i [srd x_5.1 (gBl (xh x_5) x_5.2.2.2.2.2.1 x_5.2.2.2.2.2.2),Ab (i.2.2.2.2.1++zs)]) (cA (Jo n) [srd x_3.1 (xg x_3)] fun x_4 y=>cA Eg [srd x_4.1 (yG y.2),.int .i64 y.1,.bool false] fun x_5 y_1=>∃(x_6:Int),y.1=x_6∧∃(zs:List Int),Ab [x_6]=Ab zs∧Be Bb∧AS (List.length i.2.2.2.2.1+List.length zs) (8:Nat)∧eN (Km n x) i [srd x_5.1 (gBl (xh x_5) x_5.2.2.2.2.2.1 x_5.2.2.2.2.2.2),Ab (i.2.2.2.2.1++zs)])) (inR IntKind.i64 ((Ah x_2.1.sg (xh x_2) x_2.2.2.2.2.2).deep-(1:Int))∧cA Bq [.box 0 [sgs x_2.1.sg,.int .i64 (Ah x_2.1.sg (xh x_2) x_2.2.2.2.2.2).pos,.bool (Ah x_2.1.sg (xh x_2) x_2.2.2.2.2.2).bad,.int .i64 ((Ah x_2.1.sg (xh x_2) x_2.2.2.2.2.2).deep-(1:Int)),Au (Ah x_2.1.sg (xh x_2) x_2.2.2.2.2.2).nodes],.int .i64 (18:Int),.str #[].toList,Ab i.2.2.2.2.1] fun x_3 y=>rA (HR n) x [.int .i64 (Ax (xh x_3)),srd x_3.1 (Ag (xh x_3) {kind:=x_3.2.2.2.2.2.1,text:=x_3.2.2.2.2.2.2.1,kids:=x_3.2.2.2.2.2.2.2,blank:=false})])) (inR IntKind.i64 ((iG i).deep-(1:Int))∧cA Bq [.box 0 [sgs x.1.sg,.int .i64 (iG i).pos,.bool (iG i).bad,.int .i64 ((iG i).deep-(1:Int)),Au (iG i).nodes],.int .i64 (18:Int),.str #[].toList,Ab i.2.2.2.2.1] fun x_2 y=>rA (HR n) x [.int .i64 (Ax (xh x_2)),srd x_2.1 (Ag (xh x_2) {kind:=x_2.2.2.2.2.2.1,text:=x_2.2.2.2.2.2.2.1,kids:=x_2.2.2.2.2.2.2.2,blank:=false})])) (eA (Km n x) [.box 0 [sgs x_1.1.sg,.int .i64 (Al x_1.1.sg (xh x_1) x_1.2.2.2.2.2).pos,.bool (Al x_1.1.sg (xh x_1) x_1.2.2.2.2.2).bad,.int .i64 ((Al x_1.1.sg (xh x_1) x_1.2.2.2.2.2).deep+(1:Int)),Au (Al x_1.1.sg (xh x_1) x_1.2.2.2.2.2).nodes],Ab []]∧∀(i:Int×Int×Bool×List Nd×List Int×Nat),mbS x.1.sg n (xg x) (iG i) i.2.2.2.2.1 i.2.2.2.2.2→Aa (!(iG i).bad) (cA Cb [srd x.1 (iG i),.str #[(125:UInt8)].toList] fun x_2 y=>Aa (!isG x_2.1.sg (xh x_2) (4:Int) x_2.2.2.2.2.2) (cA FG [srd x_2.1 (Ah x_2.1.sg (xh x_2) x_2.2.2.2.2.2)] fun x_3 y=>Aa (blG x_3.1.sg (xg x_3)) (cA (Jo n) [srd x_3.1 (xg x_3)] fun x_4 y=>cA Eg [srd x_4.1 (yG y.2),.int .i64 y.1,.bool (decide ((↑(List.length i.2.2.2.2.1):Int)>(0:Int)))] fun x_5 y_1=>∃(x_6:Int),y.1=x_6∧∃(zs:List Int),Ab [x_6]=Ab zs∧Be Bb∧AS (List.length i.2.2.2.2.1+List.length zs) (8:Nat)∧eN (Km n x) i [srd x_5.1 (gBl (xh x_5) x_5.2.2.2.2.2.1 x_5.2.2.2.2.2.2),Ab (i.2.2.2.2.1++zs)]) (cA (Jo n) [srd x_3.1 (xg x_3)] fun x_4 y=>cA Eg [srd x_4.1 (yG y.2),.int .i64 y.1,.bool false] fun x_5 y_1=>∃(x_6:Int),y.1=x_6∧∃(zs:List Int),Ab [x_6]=Ab zs∧Be Bb∧AS (List.length i.2.2.2.2.1+List.length zs) (8:Nat)∧eN (Km n x) i [srd x_5.1 (gBl (xh x_5) x_5.2.2.2.2.2.1 x_5.2.2.2.2.2.2),Ab (i.2.2.2.2.1++zs)])) (inR IntKind.i64 ((Ah x_2.1.sg (xh x_2) x_2.2.2.2.2.2).deep-(1:Int))∧cA Bq [.box 0 [sgs x_2.1.sg,.int .i64 (Ah x_2.1.sg (xh x_2) x_2.2.2.2.2.2).pos,.bool (Ah x_2.1.sg (xh x_2) x_2.2.2.2.2.2).bad,.int .i64 ((Ah x_2.1.sg (xh x_2) x_2.2.2.2.2.2).deep-(1:Int)),Au (Ah x_2.1.sg (xh x_2) x_2.2.2.2.2.2).nodes],.int .i64 (18:Int),.str #[].toList,Ab i.2.2.2.2.1] fun x_3 y=>rA (HR n) x [.int .i64 (Ax (xh x_3)),srd x_3.1 (Ag (xh x_3) {kind:=x_3.2.2.2.2.2.1,text:=x_3.2.2.2.2.2.2.1,kids:=x_3.2.2.2.2.2.2.2,blank:=false})])) (inR IntKind.i64 ((iG i).deep-(1:Int))∧cA Bq [.box 0 [sgs x.1.sg,.int .i64 (iG i).pos,.bool (iG i).bad,.int .i64 ((iG i).deep-(1:Int)),Au (iG i).nodes],.int .i64 (18:Int),.str #[].toList,Ab i.2.2.2.2.1] fun x_2 y=>rA (HR n) x [.int .i64 (Ax (xh x_2)),srd x_2.1 (Ag (xh x_2) {kind:=x_2.2.2.2.2.2.1,text:=x_2.2.2.2.2.2.2.1,kids:=x_2.2.2.2.2.2.2.2,blank:=false})]))) (fun x=>by kernel_rfl) fun(x:ST×Int×Int×Bool×List Nd) (hx:okQ x.1 (xg x)∧20-(xg x).deep≤(n:Int))=>(by
 dsimp only[cA,eA,eN,Km,Bg,Ab,Au,rA,FG,Eg,HR,Cb,Bq,Jo,BN,Bj,sgs,srd,Av,AB,mvL,lnL,mvE,lnE,Bw]
 obtain⟨s,p,d,b,ns⟩:=x;dsimp only[xg,xh] at hx ⊢
 obtain⟨hx,hn⟩:=hx
 have hx:okQ s ⟨p,d,b,ns⟩:=hx
 have hD:=Ez hx;have hM:=MQ hx;have h1:=hD.1
 have td:=b2L hx
 (repeat' first|(with_reducible first|rfl|exact True.intro|apply AK|apply And.intro|((first|apply Az|apply AI|apply AA|apply AJ)<;>intro _))|(apply Aw<;>intro _)|apply AH|refine Ae () ?_ ?_|((first|apply AO|apply AN|apply AM|apply AL|apply AG|apply AF|apply AE|apply AD|apply AC)<;>try dsimp only)|apply Ae|(refine Prod.forall.2 ?_;intro _;try dsimp only)|(intro _;try dsimp only))
 all_goals(try dsimp only[xg,xh,yG,yS,iG,iF] at*)
 all_goals(try simp only[CM] at*)
 all_goals first
  |(show Nat;skip)
  |rfl
  |exact h1
  |exact b2J hx ‹_›
  |exact b2K hx ‹_›
  |exact Rv hx ‹_›
  |exact Fo (Rv hx ‹_›)
  |exact(VH hx hn ‹_› ‹_› ‹_›).1
  |exact(VH hx hn ‹_› ‹_› ‹_›).2.1
  |exact(VH hx hn ‹_› ‹_› ‹_›).2.2
  |exact Dq h1 ‹_›
  |exact MP VB ‹_›
  |exact MP VB ‹_› ‹_›
  |exact(Rx ‹_› ‹_› ‹_› ‹_› (GD ‹_›)).1
  |exact(Rx ‹_› ‹_› ‹_› ‹_› (GE ‹_›)).1
  |exact b2M hx ‹_› ‹_›
  |exact b2N hx ‹_› ‹_›
  |exact(VJ hx ‹_›).2.1
  |exact(VJ hx ‹_›).2.2.1
  |(simp [AS];done)
  |(have hq:=VI hx (show mbS _ _ _ _ _ _ by assumption);(try simp only[AS,List.length_append,List.length_cons,List.length_nil]);omega)
  |(have hq:=VJ hx (show mbS _ _ _ _ _ _ by assumption);(try dsimp only at hq);(try simp only[AR]);omega)
  |((try simp only[AR]);omega)
  |skip
 all_goals first
  |exact(Rx ‹_› ‹_› ‹_› ‹_› (GD ‹_›)).2
  |exact(Rx ‹_› ‹_› ‹_› ‹_› (GE ‹_›)).2
  |skip)
def Gj(n:Nat):Sig:= {X:=ST×Int×Int×Bool×List Nd,args:=fun x=>[srd x.1 (xg x)],pre:=fun x=>(okQ x.1 (xg x)∧(xg x).bad=false)∧21-(xg x).deep≤(n+1:Nat),Y:=Int×Int×Int×Bool×List Nd,post:=fun x y=>Af x.1.sg (xg x) (stR x.1.sg (n+1) false) (yS y),res:=fun x y=> .int .i64 y.1,outs:=fun x y=>[srd x.1 (yG y.2)],keep:=true}
theorem b3i(n:Nat)(h:Aj G Go.Proofs.Tryz.prog 108 (Jo n)):Aj G Tryz.prog 108 (Gj n):=
 vcFun_okP [(68,0,Iz),(69,0,CF),(43,0,Bq),(70,0,EK),(71,0,GI),(106,0,DV),(107,0,FH),(72,0,BN),(144,0,LC),(75,0,(HR n))] [(45,⟨Int,Bb⟩)] false (fun x=>[]) Tryz.func108 rfl (by decide) ⟨b3g,Kk,Hj,Vd,VK,Ov,Vw,HM,b3h,(a2E n h),trivial⟩ (fun(x:ST×Int×Int×Bool×List Nd)=>True∧cA Iz [srd x.1 (xg x),.int .i64 (5:Int)] fun x_1 y=>Aa (kdG x_1.1.sg (xh x_1) x_1.2.2.2.2.2) (cA CF [srd x.1 (xg x),.int .i64 (5:Int)] fun x_2 y=>cA Bq [srd x_2.1 (Bf x_2.1.sg (xh x_2) x_2.2.2.2.2.2),.int .i64 (19:Int),.str (BA x_2.1.sg (xh x_2) x_2.2.2.2.2.2),Ab []] fun x_3 y=>rA (Gj n) x [.int .i64 (Ax (xh x_3)),srd x_3.1 (Ag (xh x_3) {kind:=x_3.2.2.2.2.2.1,text:=x_3.2.2.2.2.2.2.1,kids:=x_3.2.2.2.2.2.2.2,blank:=false})]) (cA EK [srd x.1 (xg x),.str #[(118:UInt8),(97:UInt8),(114:UInt8)].toList] fun x_2 y=>Aa (isG x_2.1.sg (xh x_2) (1:Int) x_2.2.2.2.2.2) (cA GI [srd x_2.1 (BI x_2.1.sg (xh x_2) x_2.2.2.2.2.2)] fun x_3 y=>rA (Gj n) x [.int .i64 y.1,srd x_3.1 (yG y.2)]) (cA EK [srd x_2.1 (BI x_2.1.sg (xh x_2) x_2.2.2.2.2.2),.str #[(114:UInt8),(101:UInt8),(116:UInt8),(117:UInt8),(114:UInt8),(110:UInt8)].toList] fun x_3 y=>Aa (isG x_3.1.sg (xh x_3) (1:Int) x_3.2.2.2.2.2) (cA DV [srd x_3.1 (BI x_3.1.sg (xh x_3) x_3.2.2.2.2.2),.int .i64 (4:Int),.str #[(59:UInt8)].toList] fun x_4 y=>Aa (!isG x_4.1.sg (xh x_4) x_4.2.2.2.2.2.1 x_4.2.2.2.2.2.2) (cA FH [srd x_4.1 (xh x_4)] fun x_5 y=>∃(x_6:Int),y.1=x_6∧∃(zs:List Int),Ab [x_6]=Ab zs∧Be Bb∧AS ((0:Nat)+List.length zs) (8:Nat)∧cA BN [srd x_5.1 (yG y.2),.str #[(59:UInt8)].toList] fun x_7 y=>cA Bq [srd x_7.1 (Al x_7.1.sg (xh x_7) x_7.2.2.2.2.2),.int .i64 (15:Int),.str #[].toList,Ab ([]++zs)] fun x_8 y=>rA (Gj n) x [.int .i64 (Ax (xh x_8)),srd x_8.1 (Ag (xh x_8) {kind:=x_8.2.2.2.2.2.1,text:=x_8.2.2.2.2.2.2.1,kids:=x_8.2.2.2.2.2.2.2,blank:=false})]) (cA BN [srd x_4.1 (xh x_4),.str #[(59:UInt8)].toList] fun x_5 y=>cA Bq [srd x_5.1 (Al x_5.1.sg (xh x_5) x_5.2.2.2.2.2),.int .i64 (15:Int),.str #[].toList,Ab []] fun x_6 y=>rA (Gj n) x [.int .i64 (Ax (xh x_6)),srd x_6.1 (Ag (xh x_6) {kind:=x_6.2.2.2.2.2.1,text:=x_6.2.2.2.2.2.2.1,kids:=x_6.2.2.2.2.2.2.2,blank:=false})])) (cA EK [srd x_3.1 (BI x_3.1.sg (xh x_3) x_3.2.2.2.2.2),.str #[(105:UInt8),(102:UInt8)].toList] fun x_4 y=>Aa (isG x_4.1.sg (xh x_4) (1:Int) x_4.2.2.2.2.2) (cA LC [srd x_4.1 (BI x_4.1.sg (xh x_4) x_4.2.2.2.2.2)] fun x_5 y=>∃(x_6:Int),y.1=x_6∧cA (HR n) [srd x_5.1 (yG y.2)] fun x_7 y=>∃(x_8:Int),y.1=x_8∧∃(zs:List Int),Ab [x_8]=Ab zs∧Be Bb∧AS (List.length [x_6]+List.length zs) (8:Nat)∧cA EK [srd x_7.1 (yG y.2),.str #[(101:UInt8),(108:UInt8),(115:UInt8),(101:UInt8)].toList] fun x_9 y=>Aa (isG x_9.1.sg (xh x_9) (1:Int) x_9.2.2.2.2.2) (cA (HR n) [srd x_9.1 (BI x_9.1.sg (xh x_9) x_9.2.2.2.2.2)] fun x_10 y=>∃(x_11:Int),y.1=x_11∧∃(zs_1:List Int),Ab [x_11]=Ab zs_1∧Be Bb∧AS (List.length (x_6::List.append._f [] PUnit.unit zs)+List.length zs_1) (8:Nat)∧cA Bq [srd x_10.1 (yG y.2),.int .i64 (16:Int),.str #[].toList,Ab (x_6::List.append._f [] PUnit.unit zs++zs_1)] fun x_12 y=>rA (Gj n) x [.int .i64 (Ax (xh x_12)),srd x_12.1 (Ag (xh x_12) {kind:=x_12.2.2.2.2.2.1,text:=x_12.2.2.2.2.2.2.1,kids:=x_12.2.2.2.2.2.2.2,blank:=false})]) (cA Bq [srd x_9.1 (BI x_9.1.sg (xh x_9) x_9.2.2.2.2.2),.int .i64 (16:Int),.str #[].toList,Ab ([x_6]++zs)] fun x_10 y=>rA (Gj n) x [.int .i64 (Ax (xh x_10)),srd x_10.1 (Ag (xh x_10) {kind:=x_10.2.2.2.2.2.1,text:=x_10.2.2.2.2.2.2.1,kids:=x_10.2.2.2.2.2.2.2,blank:=false})])) (cA EK [srd x_4.1 (BI x_4.1.sg (xh x_4) x_4.2.2.2.2.2),.str #[(119:UInt8),(104:UInt8),(105:UInt8),(108:UInt8),(101:UInt8)].toList] fun x_5 y=>Aa (isG x_5.1.sg (xh x_5) (1:Int) x_5.2.2.2.2.2) (cA LC [srd x_5.1 (BI x_5.1.sg (xh x_5) x_5.2.2.2.2.2)] fun x_6 y=>∃(x_7:Int),y.1=x_7∧cA (HR n) [srd x_6.1 (yG y.2)] fun x_8 y=>∃(x_9:Int),y.1=x_9∧∃(zs:List Int),Ab [x_9]=Ab zs∧Be Bb∧AS (List.length [x_7]+List.length zs) (8:Nat)∧cA Bq [srd x_8.1 (yG y.2),.int .i64 (17:Int),.str #[].toList,Ab ([x_7]++zs)] fun x_10 y=>rA (Gj n) x [.int .i64 (Ax (xh x_10)),srd x_10.1 (Ag (xh x_10) {kind:=x_10.2.2.2.2.2.1,text:=x_10.2.2.2.2.2.2.1,kids:=x_10.2.2.2.2.2.2.2,blank:=false})]) (true=true∧true=true∧∃(x_6:ST×Int×Int×Bool×List Nd×Int),(rOk x_6.1 (xh x_6)∧x_6.2.2.2.2.2≠(0:Int))∧AV.pf [AV.sl false (0:Nat) (4:Nat) Sg (fun(x:Sg)=>fzL._f [.int .i64 x.kind,.str x.text,.int .i64 x.pos,.bool x.blank] ⟨AV.rec (fun(k:IntKind) (n:Int)=>⟨fz._f (AV.int k n) PUnit.unit,PUnit.unit⟩) (fun(b:Bool)=>⟨fz._f (.bool b) PUnit.unit,PUnit.unit⟩) (fun(l:List UInt8)=>⟨fz._f (.str l) PUnit.unit,PUnit.unit⟩) (fun(v:Value)=>⟨fz._f (.val v) PUnit.unit,PUnit.unit⟩) ⟨fz._f AV.any PUnit.unit,PUnit.unit⟩ ⟨fz._f .top PUnit.unit,PUnit.unit⟩ ⟨fz._f .nil PUnit.unit,PUnit.unit⟩ (fun(id:Nat)=>⟨fz._f (AV.hole id) PUnit.unit,PUnit.unit⟩) (fun(id:Nat)=>⟨fz._f (AV.al id) PUnit.unit,PUnit.unit⟩) (fun(id k sz off:Nat)=>⟨fz._f (AV.po id k sz off) PUnit.unit,PUnit.unit⟩) (fun(fs:List AV) (fs_ih:List AV×' AV.below_1 fs)=>⟨fz._f (.agg fs) fs_ih,fs_ih⟩) (fun(vs:List AV) (vs_ih:List AV×' AV.below_1 vs)=>⟨fz._f (.tup vs) vs_ih,vs_ih⟩) (fun(id:Nat) (c:List AV) (c_ih:List AV×' AV.below_1 c)=>⟨fz._f (.box id c) c_ih,c_ih⟩) (fun(x:Value) (c:List AV) (c_ih:List AV×' AV.below_1 c)=>⟨fz._f (AV.bv x c) c_ih,c_ih⟩) (fun(x:Value)=>⟨fz._f (AV.hv x) PUnit.unit,PUnit.unit⟩) (fun(c:List AV) (c_ih:List AV×' AV.below_1 c)=>⟨fz._f (AV.pf c) c_ih,c_ih⟩) (fun(fn:Fn) (caps:List AV) (caps_ih:List AV×' AV.below_1 caps)=>⟨fz._f (AV.clo fn caps) caps_ih,caps_ih⟩) (fun(own:Bool) (id sz:Nat) (α:Type) (f:α→List AV) (xs:List α) (f_ih:(a:α)→List AV×' AV.below_1 (f a))=>⟨fz._f (AV.sl own id sz α f xs) f_ih,f_ih⟩) ⟨fzL._f [] PUnit.unit,PUnit.unit⟩ (fun(head:AV) (tail:List AV) (head_ih:AV×' AV.below head) (tail_ih:List AV×' AV.below_1 tail)=>⟨fzL._f (head::tail) ⟨head_ih,tail_ih⟩,head_ih,tail_ih⟩) (.int .i64 x.kind),AV.rec_1 (fun(k:IntKind) (n:Int)=>⟨fz._f (AV.int k n) PUnit.unit,PUnit.unit⟩) (fun(b:Bool)=>⟨fz._f (.bool b) PUnit.unit,PUnit.unit⟩) (fun(l:List UInt8)=>⟨fz._f (.str l) PUnit.unit,PUnit.unit⟩) (fun(v:Value)=>⟨fz._f (.val v) PUnit.unit,PUnit.unit⟩) ⟨fz._f AV.any PUnit.unit,PUnit.unit⟩ ⟨fz._f .top PUnit.unit,PUnit.unit⟩ ⟨fz._f .nil PUnit.unit,PUnit.unit⟩ (fun(id:Nat)=>⟨fz._f (AV.hole id) PUnit.unit,PUnit.unit⟩) (fun(id:Nat)=>⟨fz._f (AV.al id) PUnit.unit,PUnit.unit⟩) (fun(id k sz off:Nat)=>⟨fz._f (AV.po id k sz off) PUnit.unit,PUnit.unit⟩) (fun(fs:List AV) (fs_ih:List AV×' AV.below_1 fs)=>⟨fz._f (.agg fs) fs_ih,fs_ih⟩) (fun(vs:List AV) (vs_ih:List AV×' AV.below_1 vs)=>⟨fz._f (.tup vs) vs_ih,vs_ih⟩) (fun(id:Nat) (c:List AV) (c_ih:List AV×' AV.below_1 c)=>⟨fz._f (.box id c) c_ih,c_ih⟩) (fun(x:Value) (c:List AV) (c_ih:List AV×' AV.below_1 c)=>⟨fz._f (AV.bv x c) c_ih,c_ih⟩) (fun(x:Value)=>⟨fz._f (AV.hv x) PUnit.unit,PUnit.unit⟩) (fun(c:List AV) (c_ih:List AV×' AV.below_1 c)=>⟨fz._f (AV.pf c) c_ih,c_ih⟩) (fun(fn:Fn) (caps:List AV) (caps_ih:List AV×' AV.below_1 caps)=>⟨fz._f (AV.clo fn caps) caps_ih,caps_ih⟩) (fun(own:Bool) (id sz:Nat) (α:Type) (f:α→List AV) (xs:List α) (f_ih:(a:α)→List AV×' AV.below_1 (f a))=>⟨fz._f (AV.sl own id sz α f xs) f_ih,f_ih⟩) ⟨fzL._f [] PUnit.unit,PUnit.unit⟩ (fun(head:AV) (tail:List AV) (head_ih:AV×' AV.below head) (tail_ih:List AV×' AV.below_1 tail)=>⟨fzL._f (head::tail) ⟨head_ih,tail_ih⟩,head_ih,tail_ih⟩) [.str x.text,.int .i64 x.pos,.bool x.blank]⟩) x_5.1.sg,.int .i64 (BI x_5.1.sg (xh x_5) x_5.2.2.2.2.2).pos,.bool (BI x_5.1.sg (xh x_5) x_5.2.2.2.2.2).bad,.int .i64 (BI x_5.1.sg (xh x_5) x_5.2.2.2.2.2).deep,AV.sl false (0:Nat) (4:Nat) Nd (fun(x:Nd)=>fzL._f [.int .i64 x.kind,.str x.text,Ab x.kids,.bool x.blank] ⟨AV.rec (fun(k:IntKind) (n:Int)=>⟨fz._f (AV.int k n) PUnit.unit,PUnit.unit⟩) (fun(b:Bool)=>⟨fz._f (.bool b) PUnit.unit,PUnit.unit⟩) (fun(l:List UInt8)=>⟨fz._f (.str l) PUnit.unit,PUnit.unit⟩) (fun(v:Value)=>⟨fz._f (.val v) PUnit.unit,PUnit.unit⟩) ⟨fz._f AV.any PUnit.unit,PUnit.unit⟩ ⟨fz._f .top PUnit.unit,PUnit.unit⟩ ⟨fz._f .nil PUnit.unit,PUnit.unit⟩ (fun(id:Nat)=>⟨fz._f (AV.hole id) PUnit.unit,PUnit.unit⟩) (fun(id:Nat)=>⟨fz._f (AV.al id) PUnit.unit,PUnit.unit⟩) (fun(id k sz off:Nat)=>⟨fz._f (AV.po id k sz off) PUnit.unit,PUnit.unit⟩) (fun(fs:List AV) (fs_ih:List AV×' AV.below_1 fs)=>⟨fz._f (.agg fs) fs_ih,fs_ih⟩) (fun(vs:List AV) (vs_ih:List AV×' AV.below_1 vs)=>⟨fz._f (.tup vs) vs_ih,vs_ih⟩) (fun(id:Nat) (c:List AV) (c_ih:List AV×' AV.below_1 c)=>⟨fz._f (.box id c) c_ih,c_ih⟩) (fun(x:Value) (c:List AV) (c_ih:List AV×' AV.below_1 c)=>⟨fz._f (AV.bv x c) c_ih,c_ih⟩) (fun(x:Value)=>⟨fz._f (AV.hv x) PUnit.unit,PUnit.unit⟩) (fun(c:List AV) (c_ih:List AV×' AV.below_1 c)=>⟨fz._f (AV.pf c) c_ih,c_ih⟩) (fun(fn:Fn) (caps:List AV) (caps_ih:List AV×' AV.below_1 caps)=>⟨fz._f (AV.clo fn caps) caps_ih,caps_ih⟩) (fun(own:Bool) (id sz:Nat) (α:Type) (f:α→List AV) (xs:List α) (f_ih:(a:α)→List AV×' AV.below_1 (f a))=>⟨fz._f (AV.sl own id sz α f xs) f_ih,f_ih⟩) ⟨fzL._f [] PUnit.unit,PUnit.unit⟩ (fun(head:AV) (tail:List AV) (head_ih:AV×' AV.below head) (tail_ih:List AV×' AV.below_1 tail)=>⟨fzL._f (head::tail) ⟨head_ih,tail_ih⟩,head_ih,tail_ih⟩) (.int .i64 x.kind),AV.rec_1 (fun(k:IntKind) (n:Int)=>⟨fz._f (AV.int k n) PUnit.unit,PUnit.unit⟩) (fun(b:Bool)=>⟨fz._f (.bool b) PUnit.unit,PUnit.unit⟩) (fun(l:List UInt8)=>⟨fz._f (.str l) PUnit.unit,PUnit.unit⟩) (fun(v:Value)=>⟨fz._f (.val v) PUnit.unit,PUnit.unit⟩) ⟨fz._f AV.any PUnit.unit,PUnit.unit⟩ ⟨fz._f .top PUnit.unit,PUnit.unit⟩ ⟨fz._f .nil PUnit.unit,PUnit.unit⟩ (fun(id:Nat)=>⟨fz._f (AV.hole id) PUnit.unit,PUnit.unit⟩) (fun(id:Nat)=>⟨fz._f (AV.al id) PUnit.unit,PUnit.unit⟩) (fun(id k sz off:Nat)=>⟨fz._f (AV.po id k sz off) PUnit.unit,PUnit.unit⟩) (fun(fs:List AV) (fs_ih:List AV×' AV.below_1 fs)=>⟨fz._f (.agg fs) fs_ih,fs_ih⟩) (fun(vs:List AV) (vs_ih:List AV×' AV.below_1 vs)=>⟨fz._f (.tup vs) vs_ih,vs_ih⟩) (fun(id:Nat) (c:List AV) (c_ih:List AV×' AV.below_1 c)=>⟨fz._f (.box id c) c_ih,c_ih⟩) (fun(x:Value) (c:List AV) (c_ih:List AV×' AV.below_1 c)=>⟨fz._f (AV.bv x c) c_ih,c_ih⟩) (fun(x:Value)=>⟨fz._f (AV.hv x) PUnit.unit,PUnit.unit⟩) (fun(c:List AV) (c_ih:List AV×' AV.below_1 c)=>⟨fz._f (AV.pf c) c_ih,c_ih⟩) (fun(fn:Fn) (caps:List AV) (caps_ih:List AV×' AV.below_1 caps)=>⟨fz._f (AV.clo fn caps) caps_ih,caps_ih⟩) (fun(own:Bool) (id sz:Nat) (α:Type) (f:α→List AV) (xs:List α) (f_ih:(a:α)→List AV×' AV.below_1 (f a))=>⟨fz._f (AV.sl own id sz α f xs) f_ih,f_ih⟩) ⟨fzL._f [] PUnit.unit,PUnit.unit⟩ (fun(head:AV) (tail:List AV) (head_ih:AV×' AV.below head) (tail_ih:List AV×' AV.below_1 tail)=>⟨fzL._f (head::tail) ⟨head_ih,tail_ih⟩,head_ih,tail_ih⟩) [.str x.text,Ab x.kids,.bool x.blank]⟩) (BI x_5.1.sg (xh x_5) x_5.2.2.2.2.2).nodes]=AV.pf [sgs x_6.1.sg,.int .i64 (xh x_6).pos,.bool (xh x_6).bad,.int .i64 (xh x_6).deep,nds (xh x_6).nodes]∧(1:Int)=x_6.2.2.2.2.2∧∃(y0:Unit),(∀(y:Unit),True→AV.bool (kdG x_6.1.sg (xh x_6) x_6.2.2.2.2.2)=AV.bool (kdG x_6.1.sg (xh x_6) x_6.2.2.2.2.2))∧true=true∧Aa (kdG x_6.1.sg (xh x_6) x_6.2.2.2.2.2) (inR IntKind.i64 ((BI x_5.1.sg (xh x_5) x_5.2.2.2.2.2).pos+(1:Int))∧Aa (decide ((BI x_5.1.sg (xh x_5) x_5.2.2.2.2.2).pos+(1:Int)<(↑(List.length x_5.1.sg):Int))) (inR IntKind.i64 ((BI x_5.1.sg (xh x_5) x_5.2.2.2.2.2).pos+(1:Int))∧((0:Int)≤(BI x_5.1.sg (xh x_5) x_5.2.2.2.2.2).pos+(1:Int)∧(BI x_5.1.sg (xh x_5) x_5.2.2.2.2.2).pos+(1:Int)<(↑(List.length x_5.1.sg):Int))∧∀(e:Sg),x_5.1.sg[Int.toNat ((BI x_5.1.sg (xh x_5) x_5.2.2.2.2.2).pos+(1:Int))]? =some e→Aa (e.kind==(4:Int)) (inR IntKind.i64 ((BI x_5.1.sg (xh x_5) x_5.2.2.2.2.2).pos+(1:Int))∧((0:Int)≤(BI x_5.1.sg (xh x_5) x_5.2.2.2.2.2).pos+(1:Int)∧(BI x_5.1.sg (xh x_5) x_5.2.2.2.2.2).pos+(1:Int)<(↑(List.length x_5.1.sg):Int))∧∀(e:Sg),x_5.1.sg[Int.toNat ((BI x_5.1.sg (xh x_5) x_5.2.2.2.2.2).pos+(1:Int))]? =some e→Aa (e.text== #[(61:UInt8)].toList) (cA CF [srd x_5.1 (BI x_5.1.sg (xh x_5) x_5.2.2.2.2.2),.int .i64 (1:Int)] fun x_7 y=>cA BN [srd x_7.1 (Bf x_7.1.sg (xh x_7) x_7.2.2.2.2.2),.str #[(61:UInt8)].toList] fun x_8 y=>cA FH [srd x_8.1 (Al x_8.1.sg (xh x_8) x_8.2.2.2.2.2)] fun x_9 y=>cA BN [srd x_9.1 (yG y.2),.str #[(59:UInt8)].toList] fun x_10 y_1=>∃(x_11:Int),y.1=x_11∧cA Bq [srd x_10.1 (Al x_10.1.sg (xh x_10) x_10.2.2.2.2.2),.int .i64 (13:Int),.str (BA x_7.1.sg (xh x_7) x_7.2.2.2.2.2),Ab [x_11]] fun x_12 y=>rA (Gj n) x [.int .i64 (Ax (xh x_12)),srd x_12.1 (Ag (xh x_12) {kind:=x_12.2.2.2.2.2.1,text:=x_12.2.2.2.2.2.2.1,kids:=x_12.2.2.2.2.2.2.2,blank:=false})]) (cA FH [srd x_5.1 (BI x_5.1.sg (xh x_5) x_5.2.2.2.2.2)] fun x_7 y=>cA BN [srd x_7.1 (yG y.2),.str #[(59:UInt8)].toList] fun x_8 y_1=>∃(x_9:Int),y.1=x_9∧cA Bq [srd x_8.1 (Al x_8.1.sg (xh x_8) x_8.2.2.2.2.2),.int .i64 (14:Int),.str #[].toList,Ab [x_9]] fun x_10 y=>rA (Gj n) x [.int .i64 (Ax (xh x_10)),srd x_10.1 (Ag (xh x_10) {kind:=x_10.2.2.2.2.2.1,text:=x_10.2.2.2.2.2.2.1,kids:=x_10.2.2.2.2.2.2.2,blank:=false})])) (cA FH [srd x_5.1 (BI x_5.1.sg (xh x_5) x_5.2.2.2.2.2)] fun x_7 y=>cA BN [srd x_7.1 (yG y.2),.str #[(59:UInt8)].toList] fun x_8 y_1=>∃(x_9:Int),y.1=x_9∧cA Bq [srd x_8.1 (Al x_8.1.sg (xh x_8) x_8.2.2.2.2.2),.int .i64 (14:Int),.str #[].toList,Ab [x_9]] fun x_10 y=>rA (Gj n) x [.int .i64 (Ax (xh x_10)),srd x_10.1 (Ag (xh x_10) {kind:=x_10.2.2.2.2.2.1,text:=x_10.2.2.2.2.2.2.1,kids:=x_10.2.2.2.2.2.2.2,blank:=false})])) (cA FH [srd x_5.1 (BI x_5.1.sg (xh x_5) x_5.2.2.2.2.2)] fun x_7 y=>cA BN [srd x_7.1 (yG y.2),.str #[(59:UInt8)].toList] fun x_8 y_1=>∃(x_9:Int),y.1=x_9∧cA Bq [srd x_8.1 (Al x_8.1.sg (xh x_8) x_8.2.2.2.2.2),.int .i64 (14:Int),.str #[].toList,Ab [x_9]] fun x_10 y=>rA (Gj n) x [.int .i64 (Ax (xh x_10)),srd x_10.1 (Ag (xh x_10) {kind:=x_10.2.2.2.2.2.1,text:=x_10.2.2.2.2.2.2.1,kids:=x_10.2.2.2.2.2.2.2,blank:=false})])) (cA FH [srd x_5.1 (BI x_5.1.sg (xh x_5) x_5.2.2.2.2.2)] fun x_7 y=>cA BN [srd x_7.1 (yG y.2),.str #[(59:UInt8)].toList] fun x_8 y_1=>∃(x_9:Int),y.1=x_9∧cA Bq [srd x_8.1 (Al x_8.1.sg (xh x_8) x_8.2.2.2.2.2),.int .i64 (14:Int),.str #[].toList,Ab [x_9]] fun x_10 y=>rA (Gj n) x [.int .i64 (Ax (xh x_10)),srd x_10.1 (Ag (xh x_10) {kind:=x_10.2.2.2.2.2.1,text:=x_10.2.2.2.2.2.2.1,kids:=x_10.2.2.2.2.2.2.2,blank:=false})]))))))) (fun x=>by kernel_rfl) fun(x:ST×Int×Int×Bool×List Nd) (hx:(okQ x.1 (xg x)∧(xg x).bad=false)∧21-(xg x).deep≤(n+1:Nat))=>(by
 dsimp only[cA,Bg,nds,Ab,Au,rA,HR,LC,DV,Iz,Bq,Gj,CF,FH,GI,BN,EK,Bj,sgs,srd,srf,Av,AB,mvL,lnL,mvE,lnE]
 obtain⟨s,p,d,b,ns⟩:=x;dsimp only[xg,xh] at hx ⊢
 obtain⟨⟨hx,hb⟩,hd⟩:=hx
 have hx:okQ s ⟨p,d,b,ns⟩:=hx
 have hD:=Ez hx;have hM:=MQ hx;have h1:=hD.1
 (repeat' first|(show AV.pf _=AV.pf _;first|exact a2D|(with_unfolding_all exact a2D)|(with_unfolding_all rfl))|(with_reducible first|rfl|exact True.intro|apply AK|apply And.intro|((first|apply Az|apply AI|apply AA|apply AJ)<;>intro _))|(apply Aw<;>intro _)|apply AH|refine Ae () ?_ ?_|((first|apply AO|apply AN|apply AM|apply AL|apply AG|apply AF|apply AE|apply AD|apply AC)<;>try dsimp only)|apply Ae|(refine Prod.forall.2 ?_;intro _;try dsimp only)|(intro _;try dsimp only))
 all_goals(try dsimp only[xg,xh,yG,yS,iG,iF] at*)
 all_goals(try simp only[CM] at*)
 all_goals(try(have e:=Jm (show isG s.sg ⟨p,d,b,ns⟩ 1 [118,97,114]=false by assumption);simp only[e] at*))
 all_goals(try(have e:=Jn (show isG s.sg ⟨p,d,b,ns⟩ 1 [118,97,114]=true by assumption);simp only[e] at*))
 all_goals(try(have e:=Jm (show isG s.sg ⟨p,d,b,ns⟩ 1 [114,101,116,117,114,110]=false by assumption);simp only[e] at*))
 all_goals(try(have e:=Jn (show isG s.sg ⟨p,d,b,ns⟩ 1 [114,101,116,117,114,110]=true by assumption);simp only[e] at*))
 all_goals(try(have e:=Jm (show isG s.sg ⟨p,d,b,ns⟩ 1 [105,102]=false by assumption);simp only[e] at*))
 all_goals(try(have e:=Jn (show isG s.sg ⟨p,d,b,ns⟩ 1 [105,102]=true by assumption);simp only[e] at*))
 all_goals(try(have e:=Jm (show isG s.sg ⟨p,d,b,ns⟩ 1 [119,104,105,108,101]=false by assumption);simp only[e] at*))
 all_goals(try(have e:=Jn (show isG s.sg ⟨p,d,b,ns⟩ 1 [119,104,105,108,101]=true by assumption);simp only[e] at*))
 all_goals first
  |rfl
  |exact h1
  |exact hM
  |omega
  |(simp;done)
  |exact b2O hx ‹_›
  |exact Hk h1 (by omega)
  |exact Gi hx ‹_›
  |exact Ez (Gi hx ‹_›)
  |exact(Ez (Gi hx ‹_›)).1
  |exact b2P hx ‹_› ‹_› ‹_›
  |exact b2R hx ‹_› ‹_› ‹_› ‹_› ‹_›
  |exact b2Q hx ‹_› ‹_› ‹_› ‹_›
  |exact Dq h1 ‹_›
  |exact(Ef (Dq h1 ‹_›)).1
  |exact(Ef (Ez (Gi hx ‹_›)).1).1
  |exact b3c hx ‹_› ‹_› ‹_› ‹_› ‹_› (b3b (x:=⟨p,d,b,ns⟩) hb ‹_› ‹_› (b2V ‹_› ‹_›) (b2X ‹_› ‹_›)) ‹_›
  |exact Ry hx ‹_› ‹_› ‹_› ‹_› ‹_› (b2Z ‹_›) ‹_›
  |exact Ry hx ‹_› ‹_› ‹_› ‹_› ‹_› (b3a (x:=⟨p,d,b,ns⟩) ‹_›) ‹_›
  |exact Ry hx ‹_› ‹_› ‹_› ‹_› ‹_› (a2y (x:=⟨p,d,b,ns⟩) hb ‹_› (.inl (b2W ‹_› ‹_›))) ‹_›
  |exact Ry hx ‹_› ‹_› ‹_› ‹_› ‹_› (a2y (x:=⟨p,d,b,ns⟩) hb ‹_› (.inr (b2Y ‹_› ‹_›))) ‹_›
  |(have hq:=DK h1;dsimp only at hq;(try simp only[AR]);omega)
  |exact(a2z hx).1
  |exact Ez (a2z hx).2
  |exact hD
  |(simp [AS];done)
  |exact(show AS 2 8 by simp [AS])
  |exact(show AS 3 8 by simp [AS])
  |skip
 all_goals(try(have hc:=(show Bm s.sg (Ai ⟨p,d,b,ns⟩) (Di s.sg) _ by assumption);have k0:=Gi hx (show isG s.sg ⟨p,d,b,ns⟩ 1 _=true by assumption);have k1:=b3d k0 hc;have k2:=b3e (n:=n) (x:=⟨p,d,b,ns⟩) hd hc))
 all_goals first
  |exact k1
  |exact k2
  |exact(Ez (MR k1 ‹_›)).1
  |exact a2B (Ez (MR k1 ‹_›)).1
  |exact Gi (MR k1 ‹_›) ‹_›
  |exact a2C (MR k1 ‹_›)
  |(have hh:=b3f (m:=[101,108,115,101]) k2 (show Af s.sg _ (BH s.sg _) _ by assumption);exact hh)
  |exact Dq h1 ‹_›
  |exact b2S hx ‹_› ‹_› ‹_› ‹_› ‹_› ‹_› ‹_›
  |exact b2T hx ‹_› ‹_› ‹_› ‹_› ‹_› ‹_› ‹_› ‹_›
  |exact b2U hx ‹_› ‹_› ‹_› ‹_› ‹_› ‹_› ‹_›
  |exact(Ez (MR (a2C (MR k1 ‹_›)) ‹_›)).1
  |exact h1
  |skip)
end Go.My
end
section
set_option linter.unusedVariables false
set_option linter.unusedSimpArgs false
namespace Go.My
open Go.Eng Go.Proofs
variable {G:GInv}
theorem b3j(n:Nat):Aj G Go.Proofs.Tryz.prog 108 (Jo n):=by
 induction n with
 |zero=>exact Gf Tryz.func108 rfl (by decide) (fun x h=>by have h1:=h.1.1.1.2;have h2:=h.2;omega)
 |succ n ih=>exact b3i n ih
def LD:Sig:= {X:=ST×Int×Int×Bool×List Nd,args:=fun x=>[srd x.1 (xg x)],pre:=fun x=>okQ x.1 (xg x),Y:=Int×Int×Int×Bool×List Nd,post:=fun x y=>Af x.1.sg (xg x) (EH x.1.sg) (yS y),res:=fun x y=> .int .i64 y.1,outs:=fun x y=>[srd x.1 (yG y.2)],keep:=true}
theorem a2F{s:ST}{g:Gs}(h:okQ s g):okQ s g∧20-g.deep≤(stN:Int):=by
 have h1:=h.1.1.2.2.1.1
 exact⟨h,by unfold stN;omega⟩
theorem a2G:Aj G Go.Proofs.Tryz.prog 75 LD:=
 have c:=a2E (G:=G) stN (b3j stN)
 ⟨⟨c.1.1,fun x y hx hy=>c.1.2 x y (a2F hx) hy⟩,fun x hx=>c.2 x (a2F hx)⟩
theorem a2H{s:ST}{x:Gs}{v:List Int×Gs}(h:okQ s x)(hv:vlQ s.sg (Bz s.sg) [41] [] (Al s.sg (Bf s.sg x 1) [40]) v):okQ s v.2:=by
 have a:=Ef (m:=[40]) (Hk (k:=1) h.1.1 (by omega))
 have e:(Bf s.sg x 1).deep=x.deep:=by unfold Bf;split<;>rfl
 obtain⟨b1,b2,b3,b4⟩:=Vl h.1.1.1 hv
 exact⟨⟨b1,by have:=h.1.2;omega⟩,h.2⟩
theorem a2I{s:ST}{x:Gs}{v:List Int×Gs}{q:Int×Gs}(h:okQ s x)(hv:vlQ s.sg (Bz s.sg) [41] [] (Al s.sg (Bf s.sg x 1) [40]) v)(hq:Af s.sg v.2 (EH s.sg) q):
 Af s.sg x (EX s.sg false) (Ax q.2,Ag q.2 ⟨20,BA s.sg x 1,v.1++[q.1],false⟩):=by
 rw[HO.1] at hv;rw[HO.2]
 obtain⟨l,⟨a,b⟩,rfl⟩:=hv
 exact a1c (l:=l) h.1.1.1 h.1.1.2 a b hq
def clS(sg:List Sg)(x y:Gs)(ks:List Int)(N:Nat):Prop:=Iv sg (CS sg) [125] (Al sg (Bf sg (Ai x) 1) [123]) y ks N∧y.deep=x.deep
theorem a2J{s:ST}{x:Gs}(h:okQ s (Ai x)):clS s.sg x (Al s.sg (Bf s.sg (Ai x) 1) [123]) [] (s.sg.length+1):=by
 have a:=Hk (k:=1) h.1.1 (by omega)
 refine⟨QH (Ef a).1.2,?_⟩
 rw[(Ef a).2];unfold Bf;split<;>rfl
theorem b3k{s:ST}{x:Gs}(h:okQ s x)(h1:isG s.sg x 1 [118,97,114]=false)(h2:isG s.sg (BI s.sg x [118,97,114]) 1 [99,108,97,115,115]=true):
 clS s.sg x (Al s.sg (Bf s.sg (BI s.sg (BI s.sg x [118,97,114]) [99,108,97,115,115]) 1) [123]) [] (s.sg.length+1):=by
 rw[Jm h1] at h2 ⊢
 rw[Jn h2];exact a2J (Gi h h2)
theorem b3l{s:ST}{x:Gs}(h:okQ s (Ai x)):rOk s (Bf s.sg (Ai x) 1)∧rOk s (Al s.sg (Bf s.sg (Ai x) 1) [123]):=
 have a:=Hk (k:=1) h.1.1 (by omega)
 ⟨a,(Ef a).1⟩
theorem VL{s:ST}{x y:Gs}{ks:List Int}{N:Nat}(h:okQ s (Ai x))(hj:clS s.sg x y ks N):okQ s y:=⟨⟨⟨h.1.1.1,hj.1.1.1⟩,by have:=hj.2;have:=h.1.2;simp only[Ai] at*;omega⟩,h.2⟩
theorem a2K{s:ST}{x y:Gs}{ks:List Int}{N:Nat}(h:okQ s (Ai x))(hj:clS s.sg x y ks N)(hb:y.bad=false)(hq:isG s.sg y 4 [125]=false):okQ s (Ah s.sg y [125])∧(Ah s.sg y [125]).bad=false:=by
 rw[CZ hq];exact⟨VL h hj,hb⟩
theorem VM{s:ST}{x y:Gs}{ks:List Int}{N:Nat}(h:okQ s (Ai x))(hj:clS s.sg x y ks N):ks.length≤3001:=by
 have:=hj.1.2.2.1;have:=hj.1.1.1.1;have:=h.1.1.1.1;omega
theorem Kn{s:ST}{x y:Gs}{ks:List Int}{N:Nat}{b:Bool}{z:Int×Gs}(hj:clS s.sg x y ks N)(hb:y.bad=false)(hq:isG s.sg y 4 [125]=false)(hz:Af s.sg (Ah s.sg y [125]) (CS s.sg false) z)(e:b=(blG s.sg (Ah s.sg y [125])&&decide (0<(ks.length:Int)))):
 clS s.sg x (gBl z.2 z.1 b) (ks++[z.1]) (N-1)∧N-1<N:=by
 rw[CZ hq] at hz e
 rw[VF hb] at e
 have hz2:Af s.sg y (CS s.sg b) (z.1,gBl z.2 z.1 b):=VE VC hz
 subst e
 obtain⟨a,b⟩:=Hd (QK hj.1 hb hq (z:=(z.1,gBl z.2 z.1 ((pkG s.sg y 0).blank&&decide (0<(ks.length:Int))))) (by
  have:decide (0<ks.length)=decide (0<(ks.length:Int)):=by simp
  rw[this];exact hz2))
 have:=(CC hz2).1
 exact⟨⟨a,by have:=hj.2;simp only at*;omega⟩,b⟩
theorem a2L{s:ST}{x:Gs}{l:List Int×Gs}(h:okQ s (Ai x))(hl:Bm s.sg (Al s.sg (Bf s.sg (Ai x) 1) [123]) (CK s.sg (CS s.sg) [125] (s.sg.length+1) []) l)(hll:l.1.length≤3001):
 Af s.sg (Ai x) (Fk s.sg false) (Ax (Al s.sg l.2 [125]),Ag (Al s.sg l.2 [125]) ⟨21,BA s.sg (Ai x) 1,l.1,false⟩):=by
 rw[HO.1] at hl;rw[HO.2]
 exact HN hl.1 (DF (Hg h.1.1.1) (by omega)) (a1d h.1.1.1 h.1.1.2 hl hll)
theorem b3m{s:ST}{x y:Gs}{ks:List Int}{N:Nat}(h:okQ s (Ai x))(hj:clS s.sg x y ks N)(hq:isG s.sg y 4 [125]=true):
 Af s.sg (Ai x) (Fk s.sg false) (Ax (Ah s.sg y [125]),Ag (Ah s.sg y [125]) ⟨21,BA s.sg (Ai x) 1,ks,false⟩):=by
 rw[Da hq,←Jj hq];exact a2L (l:=(ks,y)) h (QJ hj.1 hq) (VM h hj)
theorem b3n{s:ST}{x y:Gs}{ks:List Int}{N:Nat}(h:okQ s (Ai x))(hj:clS s.sg x y ks N)(hb:y.bad=true):
 Af s.sg (Ai x) (Fk s.sg false) (Ax y,Ag y ⟨21,BA s.sg (Ai x) 1,ks,false⟩):=by
 have a:=a2L (l:=(ks,y)) h (QI hj.1 hb) (VM h hj)
 simp only[Rh hb] at a;exact a
theorem b3o{s:ST}{x:Gs}(h:okQ s x)(hk:kdG s.sg x 5=true):Af s.sg x (CS s.sg false) (Ax (Bf s.sg x 5),Ag (Bf s.sg x 5) ⟨19,BA s.sg x 5,[],false⟩):=by
 have hn:=hk
 rw[Ow (by omega)] at hn
 exact MM h.1.1.1 h.1.1.2 (by omega) hk (a1e h.1.1.1 h.1.1.2 (by simpa using hn))
theorem b3p{s:ST}{x:Gs}(h:okQ s x)(hk:kdG s.sg x 5=true):Af s.sg x (Dn s.sg false) (Ax (Bf s.sg x 5),Ag (Bf s.sg x 5) ⟨19,BA s.sg x 5,[],false⟩):=by
 have hn:=hk
 rw[Ow (by omega)] at hn
 exact MM h.1.1.1 h.1.1.2 (by omega) hk (a1h h.1.1.1 h.1.1.2 (by simpa using hn))
theorem b3q{s:ST}{x:Gs}{z:Int×Gs}(h:okQ s x)(hk:kdG s.sg x 5=false)(hq:isG s.sg x 1 [118,97,114]=true)(hz:Af s.sg (Ai x) (Dm s.sg false) z):Af s.sg x (CS s.sg false) z:=a1f h.1.1.2 (GH hk) hq hz
theorem b3r{s:ST}{x:Gs}{z:Int×Gs}(h:okQ s x)(hk:kdG s.sg x 5=false)(hq:isG s.sg x 1 [118,97,114]=true)(hz:Af s.sg (Ai x) (Dm s.sg false) z):Af s.sg x (Dn s.sg false) z:=a1i h.1.1.2 (GH hk) hq hz
theorem b3s{s:ST}{x:Gs}{z:Int×Gs}(h:okQ s x)(hk:kdG s.sg x 5=false)(hq:isG s.sg x 1 [118,97,114]=false)(hz:Af s.sg x (EX s.sg false) z):Af s.sg x (CS s.sg false) z:=a1g h.1.1.2 (GH hk) hq hz
theorem b3t{s:ST}{x:Gs}{z:Int×Gs}(h:okQ s x)(hk:kdG s.sg x 5=false)(h1:isG s.sg x 1 [118,97,114]=false)(hq:isG s.sg x 1 [99,108,97,115,115]=false)(hz:Af s.sg x (EX s.sg false) z):Af s.sg x (Dn s.sg false) z:=a1k h.1.1.2 (GH hk) h1 hq hz
theorem a2M{s:ST}{x:Gs}{z:Int×Gs}(h:okQ s x)(hk:kdG s.sg x 5=false)(h1:isG s.sg x 1 [118,97,114]=false)(hq:isG s.sg x 1 [99,108,97,115,115]=true)(hz:Af s.sg (Ai x) (Fk s.sg false) z):Af s.sg x (Dn s.sg false) z:=a1j h.1.1.2 (GH hk) h1 hq hz
def a2N:Sig:= {X:=ST×Int×Int×Bool×List Nd,args:=fun x=>[srd x.1 (xg x),.bool false],pre:=fun x=>False,Y:=Int×Int×Int×Bool×List Nd,post:=fun x y=>True,res:=fun x y=> .int .i64 y.1,outs:=fun x y=>[srd x.1 (yG y.2),.top],keep:=true}
theorem b3u:Aj G Go.Proofs.Tryz.prog 41 a2N:=Gf Tryz.func41 rfl (by decide) (fun x h=>h)
attribute [local irreducible] pE Bl CP fnR Af Bm gsOk Al Bs Ag BX CY Ah Cz Dj Ax BB pkG isG nmG kdG Bf BA Bz vlQ BI gBl blG Dm Gd Di Ca BH stR CK okQ sgM clS CS Dn EX Fk EH
def Jp:Sig:= {X:=ST×Int×Int×Bool×List Nd,args:=fun x=>[srd x.1 (xg x),.bool false],pre:=fun x=>okQ x.1 (xg x)∧(xg x).bad=false,Y:=Int×Int×Int×Bool×List Nd,post:=fun x y=>Af x.1.sg (xg x) (CS x.1.sg false) (yS y),res:=fun x y=> .int .i64 y.1,outs:=fun x y=>[srd x.1 (yG y.2),.top],keep:=true}
def b3v(x:ST×Int×Int×Bool×List Nd):LS:= {ι:=Int×Int×Bool×List Nd×List Int×Nat,inv:=fun i=>False,regs:=fun i=>[(0,srd x.1 (iG i)),(5,.str (BA x.1.sg (Ai (xg x)) 1)),(6,Ab i.2.2.2.2.1)],als:=[],meas:=fun i=>i.2.2.2.2.2}
theorem b3w:Aj G Tryz.prog 41 Jp:=
 vcFun_okP [(68,0,DW),(69,0,CF),(43,0,Bq),(70,0,EK),(71,0,GI),(72,0,BN),(73,0,Cb),(40,0,FG),(41,0,a2N),(42,0,Eg),(74,0,Gh),(75,0,LD)] [(45,⟨Int,Bb⟩)] false (fun x=>[(9,b3v x)]) Tryz.func41 rfl (by decide) ⟨Rd,Kk,Hj,Vd,VK,HM,Hi,Re,b3u,Rf,Vp,a2G,trivial⟩ (fun(x:ST×Int×Int×Bool×List Nd)=>True∧cA DW [srd x.1 (xg x),.int .i64 (5:Int)] fun x_1 y=>Aa (kdG x_1.1.sg (xh x_1) x_1.2.2.2.2.2) (cA CF [srd x_1.1 (xh x_1),.int .i64 (5:Int)] fun x_2 y=>cA Bq [srd x_2.1 (Bf x_2.1.sg (xh x_2) x_2.2.2.2.2.2),.int .i64 (19:Int),.str (BA x_2.1.sg (xh x_2) x_2.2.2.2.2.2),Ab []] fun x_3 y=>rA Jp x [.int .i64 (Ax (xh x_3)),srd x_3.1 (Ag (xh x_3) {kind:=x_3.2.2.2.2.2.1,text:=x_3.2.2.2.2.2.2.1,kids:=x_3.2.2.2.2.2.2.2,blank:=false}),.top]) (cA EK [srd x_1.1 (xh x_1),.str #[(118:UInt8),(97:UInt8),(114:UInt8)].toList] fun x_2 y=>Aa (isG x_2.1.sg (xh x_2) (1:Int) x_2.2.2.2.2.2) (cA GI [srd x_2.1 (BI x_2.1.sg (xh x_2) x_2.2.2.2.2.2)] fun x_3 y=>rA Jp x [.int .i64 y.1,srd x_3.1 (yG y.2),.top]) (cA CF [srd x_2.1 (BI x_2.1.sg (xh x_2) x_2.2.2.2.2.2),.int .i64 (1:Int)] fun x_3 y=>cA Gh [srd x_3.1 (Bf x_3.1.sg (xh x_3) x_3.2.2.2.2.2)] fun x_4 y=>cA LD [srd x_4.1 (yG y.2)] fun x_5 y_1=>∃(x_6:Int),y_1.1=x_6∧∃(zs:List Int),Ab [x_6]=Ab zs∧Be Bb∧AS (List.length y.1+List.length zs) (8:Nat)∧cA Bq [srd x_5.1 (yG y_1.2),.int .i64 (20:Int),.str (BA x_3.1.sg (xh x_3) x_3.2.2.2.2.2),Ab (y.1++zs)] fun x_7 y=>rA Jp x [.int .i64 (Ax (xh x_7)),srd x_7.1 (Ag (xh x_7) {kind:=x_7.2.2.2.2.2.1,text:=x_7.2.2.2.2.2.2.1,kids:=x_7.2.2.2.2.2.2.2,blank:=false}),.top]))) (fun x=>by kernel_rfl) fun(x:ST×Int×Int×Bool×List Nd) (hx:okQ x.1 (xg x)∧(xg x).bad=false)=>(by
 dsimp only[cA,Bg,Ab,Au,rA,LD,DW,Jp,Gh,Bq,CF,GI,EK,Bj,sgs,srd,Av,AB,mvL,lnL,mvE,lnE]
 obtain⟨s,p,d,b,ns⟩:=x;dsimp only[xg,xh] at hx ⊢
 obtain⟨hx,hb⟩:=hx
 have hx:okQ s ⟨p,d,b,ns⟩:=hx
 have hD:=Ez hx;have hM:=MQ hx;have h1:=hD.1;have hs:=h1.1
 (repeat' first|(with_reducible first|rfl|exact True.intro|apply AK|apply And.intro|((first|apply Az|apply AI|apply AA|apply AJ)<;>intro _))|(apply Aw<;>intro _)|apply AH|refine Ae () ?_ ?_|((first|apply AO|apply AN|apply AM|apply AL|apply AG|apply AF|apply AE|apply AD|apply AC)<;>try dsimp only)|apply Ae|(refine Prod.forall.2 ?_;intro _;try dsimp only)|(intro _;try dsimp only))
 all_goals(try dsimp only[xg,xh,yG,yS,iG,iF] at*)
 all_goals(try simp only[CM] at*)
 all_goals(try(have e:=Jm (show isG s.sg ⟨p,d,b,ns⟩ 1 [118,97,114]=false by assumption);simp only[e] at*))
 all_goals(try(have e:=Jn (show isG s.sg ⟨p,d,b,ns⟩ 1 [118,97,114]=true by assumption);simp only[e] at*))
 all_goals first
  |rfl
  |exact h1
  |omega
  |contradiction
  |exact b3o hx ‹_›
  |exact Hk h1 (by omega)
  |exact Gi hx ‹_›
  |exact b3q hx ‹_› ‹_› ‹_›
  |exact a2H hx ‹_›
  |exact Dq h1 ‹_›
  |exact b3s hx ‹_› ‹_› (a2I hx ‹_› ‹_›)
  |(have hq:=Vs hs (show vlQ _ _ _ [] _ _ by assumption);(try simp only[AS,List.length_append,List.length_cons,List.length_nil] at*);omega)
  |skip)
def HS:Sig:= {X:=ST×Int×Int×Bool×List Nd,args:=fun x=>[srd x.1 (xg x),.bool true],pre:=fun x=>okQ x.1 (xg x)∧(xg x).bad=false,Y:=Int×Int×Int×Bool×List Nd,post:=fun x y=>Af x.1.sg (xg x) (Dn x.1.sg false) (yS y),res:=fun x y=> .int .i64 y.1,outs:=fun x y=>[srd x.1 (yG y.2),.top],keep:=true}
def OA(x:ST×Int×Int×Bool×List Nd):LS:= {ι:=Int×Int×Bool×List Nd×List Int×Nat,inv:=fun i=>clS x.1.sg (xg x) (iG i) i.2.2.2.2.1 i.2.2.2.2.2,regs:=fun i=>[(0,srd x.1 (iG i)),(5,.str (BA x.1.sg (Ai (xg x)) 1)),(6,Ab i.2.2.2.2.1)],als:=[],meas:=fun i=>i.2.2.2.2.2}
theorem b3x:Aj G Tryz.prog 41 HS:=
 vcFun_okP [(68,0,DW),(69,0,CF),(43,0,Bq),(70,0,EK),(71,0,GI),(72,0,BN),(73,0,Cb),(40,0,FG),(41,0,Jp),(42,0,Eg),(74,0,Gh),(75,0,LD)] [(45,⟨Int,Bb⟩)] false (fun x=>[(9,OA x)]) Tryz.func41 rfl (by decide) ⟨Rd,Kk,Hj,Vd,VK,HM,Hi,Re,b3w,Rf,Vp,a2G,trivial⟩ (fun(x:ST×Int×Int×Bool×List Nd)=>True∧cA DW [srd x.1 (xg x),.int .i64 (5:Int)] fun x_1 y=>Aa (kdG x_1.1.sg (xh x_1) x_1.2.2.2.2.2) (cA CF [srd x_1.1 (xh x_1),.int .i64 (5:Int)] fun x_2 y=>cA Bq [srd x_2.1 (Bf x_2.1.sg (xh x_2) x_2.2.2.2.2.2),.int .i64 (19:Int),.str (BA x_2.1.sg (xh x_2) x_2.2.2.2.2.2),Ab []] fun x_3 y=>rA HS x [.int .i64 (Ax (xh x_3)),srd x_3.1 (Ag (xh x_3) {kind:=x_3.2.2.2.2.2.1,text:=x_3.2.2.2.2.2.2.1,kids:=x_3.2.2.2.2.2.2.2,blank:=false}),.top]) (cA EK [srd x_1.1 (xh x_1),.str #[(118:UInt8),(97:UInt8),(114:UInt8)].toList] fun x_2 y=>Aa (isG x_2.1.sg (xh x_2) (1:Int) x_2.2.2.2.2.2) (cA GI [srd x_2.1 (BI x_2.1.sg (xh x_2) x_2.2.2.2.2.2)] fun x_3 y=>rA HS x [.int .i64 y.1,srd x_3.1 (yG y.2),.top]) (cA EK [srd x_2.1 (BI x_2.1.sg (xh x_2) x_2.2.2.2.2.2),.str #[(99:UInt8),(108:UInt8),(97:UInt8),(115:UInt8),(115:UInt8)].toList] fun x_3 y=>Aa (isG x_3.1.sg (xh x_3) (1:Int) x_3.2.2.2.2.2) (cA CF [srd x_3.1 (BI x_3.1.sg (xh x_3) x_3.2.2.2.2.2),.int .i64 (1:Int)] fun x_4 y=>cA BN [srd x_4.1 (Bf x_4.1.sg (xh x_4) x_4.2.2.2.2.2),.str #[(123:UInt8)].toList] fun x_5 y=>eA (OA x) [srd x_5.1 (Al x_5.1.sg (xh x_5) x_5.2.2.2.2.2),.str (BA x_4.1.sg (xh x_4) x_4.2.2.2.2.2),Ab []]∧∀(i:Int×Int×Bool×List Nd×List Int×Nat),clS x.1.sg (xg x) (iG i) i.2.2.2.2.1 i.2.2.2.2.2→Aa (!(iG i).bad) (cA Cb [srd x.1 (iG i),.str #[(125:UInt8)].toList] fun x_6 y=>Aa (!isG x_6.1.sg (xh x_6) (4:Int) x_6.2.2.2.2.2) (cA FG [srd x_6.1 (Ah x_6.1.sg (xh x_6) x_6.2.2.2.2.2)] fun x_7 y=>Aa (blG x_7.1.sg (xg x_7)) (cA Jp [srd x_7.1 (xg x_7),.bool false] fun x_8 y=>cA Eg [srd x_8.1 (yG y.2),.int .i64 y.1,.bool (decide ((↑(List.length i.2.2.2.2.1):Int)>(0:Int)))] fun x_9 y_1=>∃(x_10:Int),y.1=x_10∧∃(zs:List Int),Ab [x_10]=Ab zs∧Be Bb∧AS (List.length i.2.2.2.2.1+List.length zs) (8:Nat)∧eN (OA x) i [srd x_9.1 (gBl (xh x_9) x_9.2.2.2.2.2.1 x_9.2.2.2.2.2.2),.str (BA x.1.sg (Ai (xg x)) (1:Int)),Ab (i.2.2.2.2.1++zs)]) (cA Jp [srd x_7.1 (xg x_7),.bool false] fun x_8 y=>cA Eg [srd x_8.1 (yG y.2),.int .i64 y.1,.bool false] fun x_9 y_1=>∃(x_10:Int),y.1=x_10∧∃(zs:List Int),Ab [x_10]=Ab zs∧Be Bb∧AS (List.length i.2.2.2.2.1+List.length zs) (8:Nat)∧eN (OA x) i [srd x_9.1 (gBl (xh x_9) x_9.2.2.2.2.2.1 x_9.2.2.2.2.2.2),.str (BA x.1.sg (Ai (xg x)) (1:Int)),Ab (i.2.2.2.2.1++zs)])) (cA Bq [srd x_6.1 (Ah x_6.1.sg (xh x_6) x_6.2.2.2.2.2),.int .i64 (21:Int),.str (BA x.1.sg (Ai (xg x)) (1:Int)),Ab i.2.2.2.2.1] fun x_7 y=>rA HS x [.int .i64 (Ax (xh x_7)),srd x_7.1 (Ag (xh x_7) {kind:=x_7.2.2.2.2.2.1,text:=x_7.2.2.2.2.2.2.1,kids:=x_7.2.2.2.2.2.2.2,blank:=false}),.top])) (cA Bq [srd x.1 (iG i),.int .i64 (21:Int),.str (BA x.1.sg (Ai (xg x)) (1:Int)),Ab i.2.2.2.2.1] fun x_6 y=>rA HS x [.int .i64 (Ax (xh x_6)),srd x_6.1 (Ag (xh x_6) {kind:=x_6.2.2.2.2.2.1,text:=x_6.2.2.2.2.2.2.1,kids:=x_6.2.2.2.2.2.2.2,blank:=false}),.top])) (cA CF [srd x_3.1 (BI x_3.1.sg (xh x_3) x_3.2.2.2.2.2),.int .i64 (1:Int)] fun x_4 y=>cA Gh [srd x_4.1 (Bf x_4.1.sg (xh x_4) x_4.2.2.2.2.2)] fun x_5 y=>cA LD [srd x_5.1 (yG y.2)] fun x_6 y_1=>∃(x_7:Int),y_1.1=x_7∧∃(zs:List Int),Ab [x_7]=Ab zs∧Be Bb∧AS (List.length y.1+List.length zs) (8:Nat)∧cA Bq [srd x_6.1 (yG y_1.2),.int .i64 (20:Int),.str (BA x_4.1.sg (xh x_4) x_4.2.2.2.2.2),Ab (y.1++zs)] fun x_8 y=>rA HS x [.int .i64 (Ax (xh x_8)),srd x_8.1 (Ag (xh x_8) {kind:=x_8.2.2.2.2.2.1,text:=x_8.2.2.2.2.2.2.1,kids:=x_8.2.2.2.2.2.2.2,blank:=false}),.top])))) (fun x=>by kernel_rfl) fun(x:ST×Int×Int×Bool×List Nd) (hx:okQ x.1 (xg x)∧(xg x).bad=false)=>(by
 dsimp only[cA,eA,eN,OA,Bg,Ab,Au,rA,LD,FG,Eg,DW,Cb,HS,Jp,Gh,Bq,CF,GI,BN,EK,Bj,sgs,srd,Av,AB,mvL,lnL,mvE,lnE,Bw]
 obtain⟨s,p,d,b,ns⟩:=x;dsimp only[xg,xh] at hx ⊢
 obtain⟨hx,hb⟩:=hx
 have hx:okQ s ⟨p,d,b,ns⟩:=hx
 have hD:=Ez hx;have hM:=MQ hx;have h1:=hD.1;have hs:=h1.1
 (repeat' first|(with_reducible first|rfl|exact True.intro|apply AK|apply And.intro|((first|apply Az|apply AI|apply AA|apply AJ)<;>intro _))|(apply Aw<;>intro _)|apply AH|refine Ae () ?_ ?_|((first|apply AO|apply AN|apply AM|apply AL|apply AG|apply AF|apply AE|apply AD|apply AC)<;>try dsimp only)|apply Ae|(refine Prod.forall.2 ?_;intro _;try dsimp only)|(intro _;try dsimp only))
 all_goals(try dsimp only[xg,xh,yG,yS,iG,iF] at*)
 all_goals(try simp only[CM] at*)
 all_goals first
  |(show Nat;skip)
  |exact b3k hx ‹_› ‹_›
  |exact(Kn ‹_› ‹_› ‹_› ‹_› (GD ‹_›)).1
  |exact(Kn ‹_› ‹_› ‹_› ‹_› (GE ‹_›)).1
  |skip
 all_goals(try(first|exact(Kn ‹_› ‹_› ‹_› ‹_› (GD ‹_›)).2|exact(Kn ‹_› ‹_› ‹_› ‹_› (GE ‹_›)).2))
 all_goals(try(have e:=Jm (show isG s.sg ⟨p,d,b,ns⟩ 1 [118,97,114]=false by assumption);simp only[e] at*))
 all_goals(try(have e:=Jn (show isG s.sg ⟨p,d,b,ns⟩ 1 [118,97,114]=true by assumption);simp only[e] at*))
 all_goals(try(have e:=Jm (show isG s.sg ⟨p,d,b,ns⟩ 1 [99,108,97,115,115]=false by assumption);simp only[e] at*))
 all_goals(try(have e:=Jn (show isG s.sg ⟨p,d,b,ns⟩ 1 [99,108,97,115,115]=true by assumption);simp only[e] at*))
 all_goals(try(have hw:=Gi hx (show isG s.sg ⟨p,d,b,ns⟩ 1 [99,108,97,115,115]=true by assumption)))
 all_goals first
  |(show Nat;skip)
  |rfl
  |exact h1
  |omega
  |contradiction
  |exact b3p hx ‹_›
  |exact Hk h1 (by omega)
  |exact Gi hx ‹_›
  |exact b3r hx ‹_› ‹_› ‹_›
  |exact a2H hx ‹_›
  |exact(Ez hw).1
  |exact(b3l hw).1
  |exact a2J hw
  |exact(Ez (VL hw ‹_›)).1
  |exact(a2K hw ‹_› ‹_› ‹_›).1
  |exact(a2K hw ‹_› ‹_› ‹_›).2
  |exact Fo (Ez (VL hw ‹_›)).1
  |exact Dq h1 ‹_›
  |exact MP VC ‹_›
  |exact MP VC ‹_› ‹_›
  |exact(Kn ‹_› ‹_› ‹_› ‹_› (GD ‹_›)).1
  |exact(Kn ‹_› ‹_› ‹_› ‹_› (GE ‹_›)).1
  |exact a2M hx ‹_› ‹_› ‹_› (b3m hw ‹_› ‹_›)
  |exact a2M hx ‹_› ‹_› ‹_› (b3n hw ‹_› ‹_›)
  |exact b3t hx ‹_› ‹_› ‹_› (a2I hx ‹_› ‹_›)
  |(have hq:=Vs hs (show vlQ _ _ _ [] _ _ by assumption);(try simp only[AS,List.length_append,List.length_cons,List.length_nil] at*);omega)
  |(have hq:=VM hw (show clS _ _ _ _ _ by assumption);(try simp only[AS,List.length_append,List.length_cons,List.length_nil]);omega)
  |skip
 all_goals first
  |exact(Kn ‹_› ‹_› ‹_› ‹_› (GD ‹_›)).2
  |exact(Kn ‹_› ‹_› ‹_› ‹_› (GE ‹_›)).2
  |skip)
end Go.My
end
section
set_option linter.unusedVariables false
set_option linter.unusedSimpArgs false
namespace Go.My
open Go.Eng Go.Proofs
variable {G:GInv}
theorem a2O{c:UInt8}(h1:Cu c=false)(h2:Bt c=false):BO c=false:=by simp [BO,h1,h2]
theorem b3y{c:UInt8}(h1:Cu c=true):BO c=true:=by simp [BO,h1]
theorem b3z{c:UInt8}(h1:Bt c=true):BO c=true:=by simp [BO,h1]
theorem b3A{s:List UInt8}:CD s≤s.length:=by
 unfold CD
 cases h:DN isQ (s.drop 1) with
 |none=>simp
 |some i=>
  simp only
  split
  ·have:=TG h;simp at this;omega
  ·omega
theorem b3B{s:List UInt8}:Cs s≤s.length:=by
 unfold Cs
 split
 ·split
  ·exact QT
  ·omega
 ·omega
theorem b3C{s:List UInt8}:(FF s).length≤2:=by
 rw[a1M]
 split
 ·simp;omega
 ·split
  ·simp;omega
  ·simp
theorem b3D{x:List UInt8×Int}(h0:0≤x.2)(h1:x.2<x.1.length):(Cs (x.1.drop x.2.toNat):Int)≤x.1.length-x.2∧(CD (x.1.drop x.2.toNat):Int)≤x.1.length-x.2:=by
 have a:= @b3B (x.1.drop x.2.toNat);have b:= @b3A (x.1.drop x.2.toNat)
 simp at a b;omega
theorem a2P{x:List UInt8×Int}{i:Int}{c d e:UInt8}(h0:0≤x.2)(hf:Cu c=false)(hc:x.1[x.2.toNat]? =some c)(hg:Bt d=true)(hd:x.1[x.2.toNat]? =some d)(h:rwI Bt x i)(hz:Bt e=false)(he:x.1[i.toNat]? =some e):
 (i-x.2>12→sgR x 0 [] 0 false 0)∧(¬i-x.2>12→sgR x 2 (List.drop (Int.toNat x.2) (List.take (Int.toNat i) x.1)) x.2 false (i-x.2)):=by
 rw[hc] at hd;cases hd
 exact Ou h0 hc hf hg h (.inr ⟨_,he,hz⟩)
theorem a2Q{t:List UInt8}{i br:Int}{l:List Sg}{n:Nat}{c c2:UInt8}{k p m:Int}{tx:List UInt8}{b:Bool}(h32:(c.toNat:Int)≠32)(hc:t[i.toNat]? =some c)(h10:(c2.toNat:Int)≠10)(hc2:t[i.toNat]? =some c2)(h:sgJ t i br l n)(hi:i<t.length)(hs:sgR (t,i) k tx p b m)(hm:m≠0):
 sgJ t (i+m) 0 (l++[⟨k,tx,p,decide (br>1)⟩]) (n-1)∧n-1<n:=by
 rw[hc] at hc2;cases hc2
 rcases hs with⟨h1,⟨rfl,rfl,rfl,rfl⟩,rfl⟩|hs
 ·exact UT hc h hi (by omega) (by omega) h1
 ·exact(hm hs.2).elim
theorem a2R{t:List UInt8}{i br:Int}{l:List Sg}{n:Nat}{c c2:UInt8}{k p m:Int}{tx:List UInt8}{b:Bool}(h32:(c.toNat:Int)≠32)(hc:t[i.toNat]? =some c)(h10:(c2.toNat:Int)≠10)(hc2:t[i.toNat]? =some c2)(h:sgJ t i br l n)(hi:i<t.length)(hs:sgR (t,i) k tx p b m)(hm:m=0):Br t=none:=by
 rw[hc] at hc2;cases hc2
 rcases hs with⟨h1,_,h2⟩|hs
 ·have a:=(a1D h1).1;rw[hm] at h2;rw[←h2] at a;omega
 ·exact UU hc h hi (by omega) (by omega) hs.1
theorem b3E{t:List UInt8}{i br:Int}{l:List Sg}{n:Nat}{k p m:Int}{tx:List UInt8}{b:Bool}(h:sgJ t i br l n)(hs:sgR (t,i) k tx p b m):0≤m∧m≤t.length-i:=by
 rcases hs with⟨h1,_,h2⟩|hs
 ·have a:=US h h1;simp only at h2;omega
 ·have:=Ji h;omega
attribute [local irreducible] rwI sgR Bc Cs CD FF
def Rz:Sig:= {X:=List UInt8×Int,args:=fun x=>[.str x.1,.int .i64 x.2],pre:=fun x=>0≤x.2∧x.2<x.1.length∧x.1.length<2^62,Y:=Int×List UInt8×Int×Bool×Int,post:=fun x y=>sgR x y.1 y.2.1 y.2.2.1 y.2.2.2.1 y.2.2.2.2,res:=fun x y=> .tup [.agg [.int .i64 y.1,.str y.2.1,.int .i64 y.2.2.1,.bool y.2.2.2.1],.int .i64 y.2.2.2.2],outs:=fun x y=>[.top,.top],keep:=false}
def OB(x:List UInt8×Int):LS:= {ι:=Int,inv:=fun i=>rwI BO x i,regs:=fun i=>[(0,.str x.1),(1,.int .i64 x.2),(4,.box 0 [.int .i64 0,.str [],.int .i64 0,.bool false]),(6,.int .i64 i)],als:=[],meas:=fun i=>x.1.length-i.toNat}
def RA(x:List UInt8×Int):LS:= {ι:=Int,inv:=fun i=>rwI Bt x i,regs:=fun i=>[(0,.str x.1),(1,.int .i64 x.2),(4,.box 0 [.int .i64 0,.str [],.int .i64 0,.bool false]),(6,.int .i64 i)],als:=[],meas:=fun i=>x.1.length-i.toNat}
theorem b3F:Aj G Tryz.prog 45 Rz:=
 vcFun_okP [(76,0,Gv),(77,0,Ij),(78,0,ET),(79,0,Fw),(80,0,Hv),(81,0,Lw)] [] false (fun x=>[(6,OB x),(12,RA x)]) Tryz.func45 rfl (by decide) ⟨Yt,Yo,XY,TF,Ys,b1g,trivial⟩ (fun(x:List UInt8×Int)=>(∀(y:Int×List UInt8×Int×Bool×Int),sgR x y.1 y.2.1 y.2.2.1 y.2.2.2.1 y.2.2.2.2→((True∧True∧True∧True∧True)∧True∧True)∧True∧True∧True)∧cA Gv [.str x.1,.int .i64 x.2] fun x_1 y=>Aa (decide ((↑(Cs (List.drop (Int.toNat x_1.2) x_1.1)):Int)>(0:Int))) (inR IntKind.i64 (x.2+(↑(Cs (List.drop (Int.toNat x_1.2) x_1.1)):Int))∧((0:Int)≤x.2∧x.2≤x.2+(↑(Cs (List.drop (Int.toNat x_1.2) x_1.1)):Int)∧x.2+(↑(Cs (List.drop (Int.toNat x_1.2) x_1.1)):Int)≤(↑(List.length x.1):Int))∧cA Ij [.str (List.drop (Int.toNat x.2) (List.take (Int.toNat (x.2+(↑(Cs (List.drop (Int.toNat x_1.2) x_1.1)):Int))) x.1))] fun x_2 y=>∃(y:Int×List UInt8×Int×Bool×Int),sgR x y.1 y.2.1 y.2.2.1 y.2.2.2.1 y.2.2.2.2∧(5:Int)=y.1∧CH x_2=y.2.1∧x.2=y.2.2.1∧false=y.2.2.2.1∧(↑(Cs (List.drop (Int.toNat x_1.2) x_1.1)):Int)=y.2.2.2.2∧True) (((0:Int)≤x.2∧x.2<(↑(List.length x.1):Int))∧∀(c:UInt8),x.1[Int.toNat x.2]? =some c→cA ET [AV.int IntKind.u8 (↑(UInt8.toNat c):Int)] fun x_2 y=>Aa (Cu x_2) (eA (OB x) [.str x.1,.int .i64 x.2,.box 0 [.int .i64 (0:Int),.str #[].toList,.int .i64 (0:Int),.bool false],.int .i64 x.2]∧∀(i:Int),rwI BO x i→Aa (decide (i<(↑(List.length x.1):Int))) (((0:Int)≤i∧i<(↑(List.length x.1):Int))∧∀(c:UInt8),x.1[Int.toNat i]? =some c→cA ET [AV.int IntKind.u8 (↑(UInt8.toNat c):Int)] fun x_3 y=>Aa (Cu x_3) (inR IntKind.i64 (i+(1:Int))∧eN (OB x) i [.str x.1,.int .i64 x.2,.box 0 [.int .i64 (0:Int),.str [],.int .i64 (0:Int),.bool false],.int .i64 (i+(1:Int))]) (((0:Int)≤i∧i<(↑(List.length x.1):Int))∧∀(c:UInt8),x.1[Int.toNat i]? =some c→cA Fw [AV.int IntKind.u8 (↑(UInt8.toNat c):Int)] fun x_4 y=>Aa (Bt x_4) (inR IntKind.i64 (i+(1:Int))∧eN (OB x) i [.str x.1,.int .i64 x.2,.box 0 [.int .i64 (0:Int),.str [],.int .i64 (0:Int),.bool false],.int .i64 (i+(1:Int))]) (inR IntKind.i64 (i-x.2)∧Aa (decide (i-x.2>(30:Int))) (∃(y:Int×List UInt8×Int×Bool×Int),sgR x y.1 y.2.1 y.2.2.1 y.2.2.2.1 y.2.2.2.2∧(0:Int)=y.1∧ #[].toList=y.2.1∧(0:Int)=y.2.2.1∧false=y.2.2.2.1∧(0:Int)=y.2.2.2.2∧True) (((0:Int)≤x.2∧x.2≤i∧i≤(↑(List.length x.1):Int))∧inR IntKind.i64 (i-x.2)∧∃(y:Int×List UInt8×Int×Bool×Int),sgR x y.1 y.2.1 y.2.2.1 y.2.2.2.1 y.2.2.2.2∧(1:Int)=y.1∧List.drop (Int.toNat x.2) (List.take (Int.toNat i) x.1)=y.2.1∧x.2=y.2.2.1∧false=y.2.2.2.1∧i-x.2=y.2.2.2.2∧True)))) (inR IntKind.i64 (i-x.2)∧Aa (decide (i-x.2>(30:Int))) (∃(y:Int×List UInt8×Int×Bool×Int),sgR x y.1 y.2.1 y.2.2.1 y.2.2.2.1 y.2.2.2.2∧(0:Int)=y.1∧ #[].toList=y.2.1∧(0:Int)=y.2.2.1∧false=y.2.2.2.1∧(0:Int)=y.2.2.2.2∧True) (((0:Int)≤x.2∧x.2≤i∧i≤(↑(List.length x.1):Int))∧inR IntKind.i64 (i-x.2)∧∃(y:Int×List UInt8×Int×Bool×Int),sgR x y.1 y.2.1 y.2.2.1 y.2.2.2.1 y.2.2.2.2∧(1:Int)=y.1∧List.drop (Int.toNat x.2) (List.take (Int.toNat i) x.1)=y.2.1∧x.2=y.2.2.1∧false=y.2.2.2.1∧i-x.2=y.2.2.2.2∧True))) (((0:Int)≤x.2∧x.2<(↑(List.length x.1):Int))∧∀(c:UInt8),x.1[Int.toNat x.2]? =some c→cA Fw [AV.int IntKind.u8 (↑(UInt8.toNat c):Int)] fun x_3 y=>Aa (Bt x_3) (eA (RA x) [.str x.1,.int .i64 x.2,.box 0 [.int .i64 (0:Int),.str #[].toList,.int .i64 (0:Int),.bool false],.int .i64 x.2]∧∀(i:Int),rwI Bt x i→Aa (decide (i<(↑(List.length x.1):Int))) (((0:Int)≤i∧i<(↑(List.length x.1):Int))∧∀(c:UInt8),x.1[Int.toNat i]? =some c→cA Fw [AV.int IntKind.u8 (↑(UInt8.toNat c):Int)] fun x_4 y=>Aa (Bt x_4) (inR IntKind.i64 (i+(1:Int))∧eN (RA x) i [.str x.1,.int .i64 x.2,.box 0 [.int .i64 (0:Int),.str [],.int .i64 (0:Int),.bool false],.int .i64 (i+(1:Int))]) (inR IntKind.i64 (i-x.2)∧Aa (decide (i-x.2>(12:Int))) (∃(y:Int×List UInt8×Int×Bool×Int),sgR x y.1 y.2.1 y.2.2.1 y.2.2.2.1 y.2.2.2.2∧(0:Int)=y.1∧ #[].toList=y.2.1∧(0:Int)=y.2.2.1∧false=y.2.2.2.1∧(0:Int)=y.2.2.2.2∧True) (((0:Int)≤x.2∧x.2≤i∧i≤(↑(List.length x.1):Int))∧inR IntKind.i64 (i-x.2)∧∃(y:Int×List UInt8×Int×Bool×Int),sgR x y.1 y.2.1 y.2.2.1 y.2.2.2.1 y.2.2.2.2∧(2:Int)=y.1∧List.drop (Int.toNat x.2) (List.take (Int.toNat i) x.1)=y.2.1∧x.2=y.2.2.1∧false=y.2.2.2.1∧i-x.2=y.2.2.2.2∧True))) (inR IntKind.i64 (i-x.2)∧Aa (decide (i-x.2>(12:Int))) (∃(y:Int×List UInt8×Int×Bool×Int),sgR x y.1 y.2.1 y.2.2.1 y.2.2.2.1 y.2.2.2.2∧(0:Int)=y.1∧ #[].toList=y.2.1∧(0:Int)=y.2.2.1∧false=y.2.2.2.1∧(0:Int)=y.2.2.2.2∧True) (((0:Int)≤x.2∧x.2≤i∧i≤(↑(List.length x.1):Int))∧inR IntKind.i64 (i-x.2)∧∃(y:Int×List UInt8×Int×Bool×Int),sgR x y.1 y.2.1 y.2.2.1 y.2.2.2.1 y.2.2.2.2∧(2:Int)=y.1∧List.drop (Int.toNat x.2) (List.take (Int.toNat i) x.1)=y.2.1∧x.2=y.2.2.1∧false=y.2.2.2.1∧i-x.2=y.2.2.2.2∧True))) (((0:Int)≤x.2∧x.2<(↑(List.length x.1):Int))∧∀(c:UInt8),x.1[Int.toNat x.2]? =some c→Aa ((↑(UInt8.toNat c):Int)==(39:Int)) (cA Hv [.str x.1,.int .i64 x.2] fun x_4 y=>inR IntKind.i64 (x.2+(↑(CD (List.drop (Int.toNat x_4.2) x_4.1)):Int))∧((0:Int)≤x.2∧x.2≤x.2+(↑(CD (List.drop (Int.toNat x_4.2) x_4.1)):Int)∧x.2+(↑(CD (List.drop (Int.toNat x_4.2) x_4.1)):Int)≤(↑(List.length x.1):Int))∧∃(y:Int×List UInt8×Int×Bool×Int),sgR x y.1 y.2.1 y.2.2.1 y.2.2.2.1 y.2.2.2.2∧(3:Int)=y.1∧List.drop (Int.toNat x.2) (List.take (Int.toNat (x.2+(↑(CD (List.drop (Int.toNat x_4.2) x_4.1)):Int))) x.1)=y.2.1∧x.2=y.2.2.1∧false=y.2.2.2.1∧(↑(CD (List.drop (Int.toNat x_4.2) x_4.1)):Int)=y.2.2.2.2∧True) (cA Lw [.str x.1,.int .i64 x.2] fun x_4 y=>∃(y:Int×List UInt8×Int×Bool×Int),sgR x y.1 y.2.1 y.2.2.1 y.2.2.2.1 y.2.2.2.2∧(4:Int)=y.1∧FF (List.drop (Int.toNat x_4.2) x_4.1)=y.2.1∧x.2=y.2.2.1∧false=y.2.2.2.1∧(↑(List.length (FF (List.drop (Int.toNat x_4.2) x_4.1))):Int)=y.2.2.2.2∧True))))) (fun x=>by kernel_rfl) fun(x:List UInt8×Int) (hx:0≤x.2∧x.2<x.1.length∧x.1.length<2^62)=>(by
 dsimp only[cA,eA,eN,RA,OB,Fw,ET,Gv,Hv,Lw,Ij,Av,AB,mvL,lnL,mvE,lnE,Bw]
 obtain⟨h1,h2,h3⟩:=hx
 have hn:=b3D h1 h2
 (repeat' first|(with_reducible first|rfl|exact True.intro|apply AK|apply And.intro|((first|apply Az|apply AI|apply AA|apply AJ)<;>intro _))|(apply Aw<;>intro _)|apply AH|refine Ae () ?_ ?_|((first|apply AO|apply AN|apply AM|apply AL|apply AG|apply AF|apply AE|apply AD|apply AC)<;>try dsimp only)|apply Ae|(refine Prod.forall.2 ?_;intro _;try dsimp only)|(intro _;try dsimp only))
 all_goals(try((repeat(rename x.1[_]? =some _=>hq;revert hq;rename x.1[_]? =some _=>hr;intro hq;rw[hr] at hq;cases hq))))
 all_goals first
  |rfl
  |omega
  |exact b1j h1 ‹_›
  |exact b1h (by omega)
  |exact Vb h1 ‹_› ‹_› ‹_› (b3y ‹_›)
  |exact Vb h1 ‹_› ‹_› ‹_› (b3z ‹_›)
  |exact Vb h1 ‹_› ‹_› ‹_› ‹_›
  |exact(Rb h1 ‹_› ‹_› ‹_› (.inl ‹_›)).1 ‹_›
  |exact(Rb h1 ‹_› ‹_› ‹_› (.inl ‹_›)).2 ‹_›
  |exact(Rb h1 ‹_› ‹_› ‹_› (.inr ⟨_,by assumption,a2O ‹_› ‹_›⟩)).1 ‹_›
  |exact(Rb h1 ‹_› ‹_› ‹_› (.inr ⟨_,by assumption,a2O ‹_› ‹_›⟩)).2 ‹_›
  |exact(Ou h1 ‹_› ‹_› ‹_› ‹_› (.inl ‹_›)).1 ‹_›
  |exact(Ou h1 ‹_› ‹_› ‹_› ‹_› (.inl ‹_›)).2 ‹_›
  |exact(Ou h1 ‹_› ‹_› ‹_› ‹_› (.inr ⟨_,by assumption,by assumption⟩)).1 ‹_›
  |exact(Ou h1 ‹_› ‹_› ‹_› ‹_› (.inr ⟨_,by assumption,by assumption⟩)).2 ‹_›
  |exact(a2P h1 ‹_› ‹_› ‹_› ‹_› ‹_› ‹_› ‹_›).1 ‹_›
  |exact(a2P h1 ‹_› ‹_› ‹_› ‹_› ‹_› ‹_› ‹_›).2 ‹_›
  |exact b1l h1 ‹_› ‹_› ‹_› ‹_›
  |exact b1m h1 ‹_› ‹_› ‹_› ‹_› ‹_›
  |(have hq:=b1i (show rwI _ _ _ by assumption);(try simp only[AR]);omega)
  |(have hq:= @b3C (x.1.drop x.2.toNat);(try simp only[AR]);omega)
  |(simp only[List.length_drop,List.length_take];omega)
  |skip)
attribute [local irreducible] sgJ Br
def HT:Sig:= {X:=List UInt8,args:=fun x=>[.str x],pre:=fun x=>x.length<2^62,Y:=List Sg×Int,post:=fun x y=>sgQ x y.1,res:=fun x y=> .tup [sgs y.1,.int .i64 y.2,.bool (Br x).isSome],outs:=fun x y=>[.top],keep:=true}
def MS(x:List UInt8):LS:= {ι:=Int×Int×List Sg×Nat,inv:=fun i=>sgJ x i.1 i.2.1 i.2.2.1 i.2.2.2,regs:=fun i=>[(0,.str x),(5,As i.2.2.1),(6,.int .i64 i.1),(7,.int .i64 i.2.1)],als:=[],meas:=fun i=>i.2.2.2}
theorem a2S:Aj G Tryz.prog 18 HT:=
 vcFun_okP [(45,0,Rz)] [(36,⟨Sg,sgA⟩)] false (fun x=>[(6,MS x)]) Tryz.func18 rfl (by decide) ⟨b3F,trivial⟩ (fun(x:List UInt8)=>True∧Aa (decide ((↑(List.length x):Int)>(3000:Int))) (rA HT x [.tup [As [],.int .i64 (3000:Int),.bool false],.top]) (eA (MS x) [.str x,As [],.int .i64 (0:Int),.int .i64 (0:Int)]∧∀(i:Int×Int×List Sg×Nat),sgJ x i.1 i.2.1 i.2.2.1 i.2.2.2→Aa (decide (i.1<(↑(List.length x):Int))) (((0:Int)≤i.1∧i.1<(↑(List.length x):Int))∧∀(c:UInt8),x[Int.toNat i.1]? =some c→Aa ((↑(UInt8.toNat c):Int)==(32:Int)) (inR IntKind.i64 (i.1+(1:Int))∧eN (MS x) i [.str x,As i.2.2.1,.int .i64 (i.1+(1:Int)),.int .i64 i.2.1]) (((0:Int)≤i.1∧i.1<(↑(List.length x):Int))∧∀(c:UInt8),x[Int.toNat i.1]? =some c→Aa ((↑(UInt8.toNat c):Int)==(10:Int)) (inR IntKind.i64 (i.2.1+(1:Int))∧inR IntKind.i64 (i.1+(1:Int))∧eN (MS x) i [.str x,As i.2.2.1,.int .i64 (i.1+(1:Int)),.int .i64 (i.2.1+(1:Int))]) (cA Rz [.str x,.int .i64 i.1] fun x_1 y=>Aa (y.2.2.2.2==(0:Int)) (rA HT x [.tup [As [],.int .i64 i.1,.bool false],.top]) (∃(x_2:Sg),y.1=x_2.kind∧y.2.1=x_2.text∧y.2.2.1=x_2.pos∧decide (i.2.1>(1:Int))=x_2.blank∧∃(zs:List Sg),As [x_2]=As zs∧Be sgA∧AS (List.length i.2.2.1+List.length zs) (40:Nat)∧inR IntKind.i64 (i.1+y.2.2.2.2)∧eN (MS x) i [.str x,As (i.2.2.1++zs),.int .i64 (i.1+y.2.2.2.2),.int .i64 (0:Int)])))) (rA HT x [.tup [As i.2.2.1,.int .i64 (0:Int),.bool true],.top]))) (fun x=>by kernel_rfl) fun(x:List UInt8) (hx:x.length<2^62)=>(by
 dsimp only[cA,eA,eN,MS,As,rA,Rz,HT,Bj,sgs,Av,AB,mvL,lnL,mvE,lnE,Bw]
 have hx:x.length<2^62:=hx
 (repeat' first|(with_reducible first|rfl|exact True.intro|apply AK|apply And.intro|((first|apply Az|apply AI|apply AA|apply AJ)<;>intro _))|(apply Aw<;>intro _)|apply AH|refine Ae () ?_ ?_|((first|apply AO|apply AN|apply AM|apply AL|apply AG|apply AF|apply AE|apply AD|apply AC)<;>try dsimp only)|apply Ae|(refine Prod.forall.2 ?_;intro _;try dsimp only)|(intro _;try dsimp only))
 all_goals first
  |(show Nat;skip)
  |rfl
  |exact a1E ‹_›
  |exact(Kh (QX ‹_›)).2
  |exact(Kh (QX ‹_›)).1.symm
  |exact(QU ‹_› ‹_› ‹_› (by omega)).1
  |exact(QV ‹_› ‹_› ‹_› (by omega)).1
  |exact(a2Q ‹_› ‹_› ‹_› ‹_› ‹_› ‹_› ‹_› ‹_›).1
  |exact(Kh (a2R ‹_› ‹_› ‹_› ‹_› ‹_› ‹_› ‹_› ‹_›)).2
  |exact(Kh (a2R ‹_› ‹_› ‹_› ‹_› ‹_› ‹_› ‹_› ‹_›)).1.symm
  |exact(QW ‹_› ‹_›).2
  |exact(QW ‹_› ‹_›).1.symm
  |(have hq:=Ji (show sgJ _ _ _ _ _ by assumption);(try simp only[AR]);omega)
  |(have hj:=(show sgJ _ _ _ _ _ by assumption);have hq:=Ji hj;have hz:=b3E hj ‹_›;(try simp only[AR]);omega)
  |(have hq:=Ji (show sgJ _ _ _ _ _ by assumption);(try simp only[AS,List.length_append,List.length_cons,List.length_nil]);omega)
  |(simp [AS];done)
  |skip
 all_goals first
  |exact(QU ‹_› ‹_› ‹_› (by omega)).2
  |exact(QV ‹_› ‹_› ‹_› (by omega)).2
  |exact(a2Q ‹_› ‹_› ‹_› ‹_› ‹_› ‹_› ‹_› ‹_›).2
  |rfl
  |skip)
end Go.My
end
section
set_option linter.unusedVariables false
set_option linter.unusedSimpArgs false
namespace Go.My
open Go.Eng Go.Proofs
variable {G:GInv}
theorem b3G{s:List UInt8}:CH s <+: s:=by
 have h:=List.dropWhile_suffix (fun c:UInt8=>decide (c.toNat=32)) (l:=s.reverse)
 unfold CH
 rw[←List.reverse_suffix,List.reverse_reverse];exact h
theorem VN{c:UInt8}{a s t:List UInt8}(h:t <+: c::s)(ht:t=a)(ha:a≠[]):a.head? =some c:=by
 subst ht
 match t with
 |[]=>exact(ha rfl).elim
 |d::r=>
  obtain⟨k,hk⟩:=h
  simp at hk
  simp [hk.1]
theorem b3H{s:List UInt8}(h:(Bc s).ok=true)(ht:(Bc s).text=[41]∨(Bc s).text=[61,62]∨(Bc s).text=[44]):(Bc s).kind=4:=by
 match s with
 |[]=>cases h
 |b::s=>
  have key:∀t:List UInt8,t <+: b::s→(t=[41]∨t=[61,62]∨t=[44])→b=41∨b=61∨b=44:=by
   intro t hp ht
   rcases ht with ht|ht|ht
   ·have:=VN hp ht (by simp);simp at this;exact .inl this.symm
   ·have:=VN hp ht (by simp);simp at this;exact .inr (.inl this.symm)
   ·have:=VN hp ht (by simp);simp at this;exact .inr (.inr this.symm)
  unfold Bc at h ht ⊢
  simp only at h ht ⊢
  split
  ·rename_i hb
   rw[if_pos hb] at ht
   rcases key _ (List.takeWhile_prefix _) ht with rfl|rfl|rfl<;>exact absurd hb (by decide)
  ·rename_i hb
   rw[if_neg hb] at h ht
   split
   ·rename_i hb2
    rw[if_pos hb2] at ht
    rcases key _ (List.takeWhile_prefix _) ht with rfl|rfl|rfl<;>exact absurd hb2 (by decide)
   ·rename_i hb2
    rw[if_neg hb2] at h ht
    split
    ·rename_i hb3
     rw[if_pos hb3] at ht h
     simp only at ht h
     have hp:(Dw (b::s)).1 <+: b::s:=by
      unfold Dw;split
      ·exact List.nil_prefix
      ·exact List.take_prefix _ _
     rcases key _ hp ht with rfl|rfl|rfl<;>exact absurd hb3 (by decide)
    ·rename_i hb3
     rw[if_neg hb3] at h ht
     split
     ·rename_i hb4
      rw[if_pos hb4] at ht
      have hb5:b=47:=by
       cases s with
       |nil=>simp at hb4
       |cons c s=>simp at hb4;exact hb4.1
      rcases key _ (b3G.trans (List.takeWhile_prefix _)) ht with rfl|rfl|rfl<;>exact absurd hb5 (by decide)
     ·rename_i hb4
      rw[if_neg hb4] at h
      split
      ·rfl
      ·rename_i hb5
       rw[if_neg hb5] at h
       split
       ·rfl
       ·rename_i hb6
        rw[if_neg hb6] at h;cases h
theorem RB{t:List UInt8}:∀(n:Nat) (i br:Int) (l:List Sg),EG t n i br=some l→sgM l
 |0,_,_,_,h=>by cases h
 |n+1,i,br,l,h=>by
  rw[EG] at h
  split at h
  ·simp at h;subst h;intro e he;simp at he
  ·split at h
   ·exact RB n _ _ _ h
   ·split at h
    ·exact RB n _ _ _ h
    ·split at h
     ·rename_i hok
      rw[Option.map_eq_some_iff] at h
      obtain⟨l',h1,rfl⟩:=h
      intro e he ht
      simp only[List.mem_cons] at he
      rcases he with rfl|he
      ·exact b3H hok ht
      ·exact RB n _ _ _ h1 e he ht
     ·cases h
theorem b3I{t:List UInt8}{l:List Sg}(h:Br t=some l):sgM l:=by
 rw[Br] at h
 split at h
 ·cases h
 ·exact RB _ _ _ _ h
def frI(t:List UInt8)(l:List Sg)(y:Gs)(ks:List Int)(ms:List (Int×Int))(N:Nat):Prop:=(Br t=some l∧sgB l)∧Du l y ks ms N
theorem b3J{t:List UInt8}{l:List Sg}(h:sgQ t l)(hn:(Br t).isSome=true):frI t l ⟨0,0,false,[]⟩ [] [] (l.length+1):=⟨Kj h hn,a1G⟩
theorem VO{t:List UInt8}{s:ST}{y:Gs}{ks:List Int}{ms:List (Int×Int)}{N:Nat}(h:frI t s.sg y ks ms N):okQ s y:=⟨UW h.1.2 h.2,b3I h.1.1⟩
theorem RC{t:List UInt8}{l:List Sg}{y:Gs}{ks:List Int}{ms:List (Int×Int)}{N:Nat}{b:Bool}{z:Int×Gs}(h:frI t l y ks ms N)(hb:y.bad=false)(hl:y.pos<l.length)(hz:Af l y (Dn l false) z)(e:b=(blG l y&&decide (0<(ks.length:Int)))):
 frI t l (gBl z.2 z.1 b) (ks++[z.1]) (ms++[(y.pos,(gBl z.2 z.1 b).pos)]) (N-1)∧N-1<N:=by
 rw[VF hb] at e
 have hz2:Af l y (Dn l b) (z.1,gBl z.2 z.1 b):=VE VD hz
 obtain⟨a,c⟩:=UV h.2 hb hl hz2 e
 exact⟨⟨h.1,a⟩,c⟩
theorem b3K{t:List UInt8}{l:List Sg}{y:Gs}{ks:List Int}{ms:List (Int×Int)}{N:Nat}(h:frI t l y ks ms N):ks.length≤3001∧0≤y.pos∧y.pos≤l.length:=by
 have:=UX h.1.2 h.2;omega
def frE(l:List Sg)(y:Gs):Prop:=y.bad=true∨¬y.pos<l.length
theorem MT{l:List Sg}{y:Gs}(h:y.bad=true):frE l y:= .inl h
theorem MU{l:List Sg}{y:Gs}(h:¬y.pos<l.length):frE l y:= .inr h
theorem MV:BE []:=⟨by simp,by simp⟩
theorem RD{t:List UInt8}{l:List Sg}{y:Gs}{ks:List Int}{ms:List (Int×Int)}{N:Nat}(h:frI t l y ks ms N):sgQ t l∧(Br t).isSome=true:=⟨.inl h.1,by rw[h.1.1];rfl⟩
theorem RE{t:List UInt8}{l:List Sg}{y:Gs}{ks:List Int}{ms:List (Int×Int)}{N:Nat}(h:frI t l y ks ms N)(he:frE l y)(hb:(Ag y ⟨22,[],ks,false⟩).bad=true):CB t=none:=UZ (a1I (RD h).1 (RD h).2 ⟨h.2,he⟩ hb) hb
theorem Ko{t:List UInt8}{l:List Sg}{y:Gs}{ks:List Int}{ms:List (Int×Int)}{N:Nat}(h:frI t l y ks ms N)(he:frE l y)(hb:(Ag y ⟨22,[],ks,false⟩).bad=false):
 (De (Ag y ⟨22,[],ks,false⟩).nodes=false→CB t=none)∧(De (Ag y ⟨22,[],ks,false⟩).nodes=true→CB t=some (Ag y ⟨22,[],ks,false⟩).nodes):=by
 have a:=a1J (RD h).1 (RD h).2 ⟨h.2,he⟩ hb
 refine⟨fun h2=>UZ a (by simp only[BK,h2];rfl),fun h2=>(b0U a (by simp only[BK,h2];rfl)).1⟩
theorem OC{t:List UInt8}{l:List Sg}{y:Gs}{ks:List Int}{ms:List (Int×Int)}{N:Nat}(h:frI t l y ks ms N):BE (Ag y ⟨22,[],ks,false⟩).nodes∧(Ag y ⟨22,[],ks,false⟩).nodes.length≤1073741824∧0≤(Ag y ⟨22,[],ks,false⟩).pos:=by
 have a:=Ir h.2.1 (QY h.1.2 h.2)
 have b:=UY a
 exact⟨b.1,by omega,a.1.1⟩
theorem a2T{t:List UInt8}(h:(Br t).isSome=false):CB t=none:=by
 rw[CB]
 cases hs:Br t with
 |none=>rfl
 |some l=>rw[hs] at h;cases h
theorem b3L{T0 T1 T2 T3:Type}{p q:ST×T0×T1×T2×T3→Prop}(a:List Sg)(v0:T0)(v1:T1)(v2:T2)(v3:T3)(h2:q (⟨a,0,[]⟩,v0,v1,v2,v3))(h1:p (⟨a,0,[]⟩,v0,v1,v2,v3)):∃x,p x∧q x:=⟨_,h1,h2⟩
theorem b3M{T0 T1 T2 T3 T4 T5:Type}{p q:ST×T0×T1×T2×T3×T4×T5→Prop}(a:List Sg)(v0:T0)(v1:T1)(v2:T2)(v3:T3)(v4:T4)(v5:T5)(h2:q (⟨a,0,[]⟩,v0,v1,v2,v3,v4,v5))(h1:p (⟨a,0,[]⟩,v0,v1,v2,v3,v4,v5)):∃x,p x∧q x:=⟨_,h1,h2⟩
theorem b3N{T0 T1 T2 T3 T4 T5 T6:Type}{p q:ST×T0×T1×T2×T3×T4×T5×T6→Prop}(a:List Sg)(v0:T0)(v1:T1)(v2:T2)(v3:T3)(v4:T4)(v5:T5)(v6:T6)(h2:q (⟨a,0,[]⟩,v0,v1,v2,v3,v4,v5,v6))(h1:p (⟨a,0,[]⟩,v0,v1,v2,v3,v4,v5,v6)):∃x,p x∧q x:=⟨_,h1,h2⟩
attribute [local irreducible] frI frE gBl blG Ag Ax gsOk Af Dn CB Br De sgM okQ
def Gk:Sig:= {X:=List UInt8,args:=fun x=>[.str x],pre:=fun x=>x.length<2^62,Y:=List Nd×Int,post:=fun x y=>y.1=(CB x).getD []∧BE y.1,res:=fun x y=> .tup [nds y.1,.int .i64 y.2,.bool (CB x).isSome],outs:=fun x y=>[.top],keep:=true}
def OD(x:List UInt8):LS:= {ι:=List Sg×Int×Int×Bool×List Nd×List Int×List (Int×Int)×Nat,inv:=fun i=>frI x i.1 (iF i.2) i.2.2.2.2.2.1 i.2.2.2.2.2.2.1 i.2.2.2.2.2.2.2,regs:=fun i=>[(0,.str x),(5,Au []),(6,sgs i.1),(9,srd ⟨i.1,0,[]⟩ (iF i.2)),(10,Ab i.2.2.2.2.2.1)],als:=[],meas:=fun i=>i.2.2.2.2.2.2.2}
theorem b3O:Aj G Tryz.prog 16 Gk:=
 vcFun_okP [(18,0,HT),(40,0,FG),(41,0,HS),(42,0,Eg),(43,0,Bq),(44,0,HA)] [(36,⟨Sg,sgA⟩),(45,⟨Int,Bb⟩),(32,⟨Nd,ndA true⟩)] false (fun x=>[(7,OD x)]) Tryz.func16 rfl (by decide) ⟨a2S,Re,b3x,Rf,Hj,a8z,trivial⟩ (fun(x:List UInt8)=>True∧cA HT [.str x] fun x_1 y=>Aa (!Option.isSome (Br x_1)) (rA Gk x [.tup [Au [],.int .i64 y.2,.bool false],.top]) (eA (OD x) [.str x,Au [],sgs y.1,.box 0 [sgs y.1,.int .i64 (0:Int),.bool false,.int .i64 (0:Int),.nil],Ab []]∧∀(i:List Sg×Int×Int×Bool×List Nd×List Int×List (Int×Int)×Nat),frI x i.1 (iF i.2) i.2.2.2.2.2.1 i.2.2.2.2.2.2.1 i.2.2.2.2.2.2.2→Aa (!(iF i.2).bad) (Aa (decide ((iF i.2).pos<(↑(List.length i.1):Int))) (cA FG [.box 0 [sgs i.1,.int .i64 (iF i.2).pos,.bool (iF i.2).bad,.int .i64 (iF i.2).deep,Au (iF i.2).nodes]] fun x_2 y=>Aa (blG x_2.1.sg (xg x_2)) (cA HS [srd x_2.1 (xg x_2),.bool true] fun x_3 y=>cA Eg [srd x_3.1 (yG y.2),.int .i64 y.1,.bool (decide ((↑(List.length i.2.2.2.2.2.1):Int)>(0:Int)))] fun x_4 y_1=>∃(x_5:Int),y.1=x_5∧∃(zs:List Int),Ab [x_5]=Ab zs∧Be Bb∧AS (List.length i.2.2.2.2.2.1+List.length zs) (8:Nat)∧eN (OD x) i [.str x,Au [],sgs i.1,srd x_4.1 (gBl (xh x_4) x_4.2.2.2.2.2.1 x_4.2.2.2.2.2.2),Ab (i.2.2.2.2.2.1++zs)]) (cA HS [srd x_2.1 (xg x_2),.bool true] fun x_3 y=>cA Eg [srd x_3.1 (yG y.2),.int .i64 y.1,.bool false] fun x_4 y_1=>∃(x_5:Int),y.1=x_5∧∃(zs:List Int),Ab [x_5]=Ab zs∧Be Bb∧AS (List.length i.2.2.2.2.2.1+List.length zs) (8:Nat)∧eN (OD x) i [.str x,Au [],sgs i.1,srd x_4.1 (gBl (xh x_4) x_4.2.2.2.2.2.1 x_4.2.2.2.2.2.2),Ab (i.2.2.2.2.2.1++zs)])) (cA Bq [.box 0 [sgs i.1,.int .i64 (iF i.2).pos,.bool (iF i.2).bad,.int .i64 (iF i.2).deep,Au (iF i.2).nodes],.int .i64 (22:Int),.str #[].toList,Ab i.2.2.2.2.2.1] fun x_2 y=>Aa (Ag (xh x_2) {kind:=x_2.2.2.2.2.2.1,text:=x_2.2.2.2.2.2.2.1,kids:=x_2.2.2.2.2.2.2.2,blank:=false}).bad (Aa (decide ((Ag (xh x_2) {kind:=x_2.2.2.2.2.2.1,text:=x_2.2.2.2.2.2.2.1,kids:=x_2.2.2.2.2.2.2.2,blank:=false}).pos<(↑(List.length i.1):Int))) (true=true∧true=true∧((0:Int)≤(Ag (xh x_2) {kind:=x_2.2.2.2.2.2.1,text:=x_2.2.2.2.2.2.2.1,kids:=x_2.2.2.2.2.2.2.2,blank:=false}).pos∧(Ag (xh x_2) {kind:=x_2.2.2.2.2.2.1,text:=x_2.2.2.2.2.2.2.1,kids:=x_2.2.2.2.2.2.2.2,blank:=false}).pos<(↑(List.length i.1):Int))∧∀(e:Sg),i.1[Int.toNat (Ag (xh x_2) {kind:=x_2.2.2.2.2.2.1,text:=x_2.2.2.2.2.2.2.1,kids:=x_2.2.2.2.2.2.2.2,blank:=false}).pos]? =some e→rA Gk x [.tup [Au [],.int .i64 e.pos,.bool false],.top]) (rA Gk x [.tup [Au [],.int .i64 (↑(List.length x):Int),.bool false],.top])) (cA HA [Au (Ag (xh x_2) {kind:=x_2.2.2.2.2.2.1,text:=x_2.2.2.2.2.2.2.1,kids:=x_2.2.2.2.2.2.2.2,blank:=false}).nodes] fun x_3 y=>Aa (!De x_3) (rA Gk x [.tup [Au [],.int .i64 (0:Int),.bool false],.top]) (rA Gk x [.tup [Au (Ag (xh x_2) {kind:=x_2.2.2.2.2.2.1,text:=x_2.2.2.2.2.2.2.1,kids:=x_2.2.2.2.2.2.2.2,blank:=false}).nodes,.int .i64 (0:Int),.bool true],.top])))) (cA Bq [.box 0 [sgs i.1,.int .i64 (iF i.2).pos,.bool (iF i.2).bad,.int .i64 (iF i.2).deep,Au (iF i.2).nodes],.int .i64 (22:Int),.str #[].toList,Ab i.2.2.2.2.2.1] fun x_2 y=>Aa (Ag (xh x_2) {kind:=x_2.2.2.2.2.2.1,text:=x_2.2.2.2.2.2.2.1,kids:=x_2.2.2.2.2.2.2.2,blank:=false}).bad (Aa (decide ((Ag (xh x_2) {kind:=x_2.2.2.2.2.2.1,text:=x_2.2.2.2.2.2.2.1,kids:=x_2.2.2.2.2.2.2.2,blank:=false}).pos<(↑(List.length i.1):Int))) (true=true∧true=true∧((0:Int)≤(Ag (xh x_2) {kind:=x_2.2.2.2.2.2.1,text:=x_2.2.2.2.2.2.2.1,kids:=x_2.2.2.2.2.2.2.2,blank:=false}).pos∧(Ag (xh x_2) {kind:=x_2.2.2.2.2.2.1,text:=x_2.2.2.2.2.2.2.1,kids:=x_2.2.2.2.2.2.2.2,blank:=false}).pos<(↑(List.length i.1):Int))∧∀(e:Sg),i.1[Int.toNat (Ag (xh x_2) {kind:=x_2.2.2.2.2.2.1,text:=x_2.2.2.2.2.2.2.1,kids:=x_2.2.2.2.2.2.2.2,blank:=false}).pos]? =some e→rA Gk x [.tup [Au [],.int .i64 e.pos,.bool false],.top]) (rA Gk x [.tup [Au [],.int .i64 (↑(List.length x):Int),.bool false],.top])) (cA HA [Au (Ag (xh x_2) {kind:=x_2.2.2.2.2.2.1,text:=x_2.2.2.2.2.2.2.1,kids:=x_2.2.2.2.2.2.2.2,blank:=false}).nodes] fun x_3 y=>Aa (!De x_3) (rA Gk x [.tup [Au [],.int .i64 (0:Int),.bool false],.top]) (rA Gk x [.tup [Au (Ag (xh x_2) {kind:=x_2.2.2.2.2.2.1,text:=x_2.2.2.2.2.2.2.1,kids:=x_2.2.2.2.2.2.2.2,blank:=false}).nodes,.int .i64 (0:Int),.bool true],.top]))))) (fun x=>by kernel_rfl) fun(x:List UInt8) (hx:x.length<2^62)=>(by
 dsimp only[cA,eA,eN,OD,Bg,nds,Ab,Au,As,rA,FG,Eg,HS,Bq,Gk,HT,HA,Bj,sgs,srd,Av,AB,mvL,lnL,mvE,lnE,Bw]
 have hx:x.length<2^62:=hx
 (repeat' first|(apply b3N<;>try dsimp only)|(apply b3M<;>try dsimp only)|(apply b3L<;>try dsimp only)|(with_reducible first|rfl|exact True.intro|apply AK|apply And.intro|((first|apply Az|apply AI|apply AA|apply AJ)<;>intro _))|(apply Aw<;>intro _)|apply AH|refine Ae () ?_ ?_|((first|apply AO|apply AN|apply AM|apply AL|apply AG|apply AF|apply AE|apply AD|apply AC)<;>try dsimp only)|apply Ae|(refine Prod.forall.2 ?_;intro _;try dsimp only)|(intro _;try dsimp only))
 all_goals(try dsimp only[xg,xh,yG,yS,iG,iF] at*)
 all_goals(try simp only[CM] at*)
 all_goals first
  |(show Nat;skip)
  |(show List (Int×Int);skip)
  |rfl
  |exact hx
  |exact b3J ‹_› ‹_›
  |(rw[a2T ‹_›];rfl)
  |(rw[a2T ‹_›];exact MV)
  |exact(RC ‹_› ‹_› ‹_› ‹_› (GD ‹_›)).1
  |exact(RC ‹_› ‹_› ‹_› ‹_› (GE ‹_›)).1
  |exact VO (s:=⟨_,0,[]⟩) ‹_›
  |exact(Ez (VO (s:=⟨_,0,[]⟩) ‹_›)).1
  |exact Dq (Ez (VO (s:=⟨_,0,[]⟩) ‹_›)).1 ‹_›
  |exact MP VD ‹_›
  |exact MP VD ‹_› ‹_›
  |assumption
  |omega
  |exact(OC ‹_›).1
  |exact(OC ‹_›).2.1
  |(rw[RE ‹_› (MT ‹_›) ‹_›];rfl)
  |(rw[RE ‹_› (MT ‹_›) ‹_›];exact MV)
  |(rw[(Ko ‹_› (MT ‹_›) ‹_›).1 ‹_›];rfl)
  |(rw[(Ko ‹_› (MT ‹_›) ‹_›).2 ‹_›];rfl)
  |(rw[(Ko ‹_› (MT ‹_›) ‹_›).1 ‹_›];exact MV)
  |(rw[(Ko ‹_› (MT ‹_›) ‹_›).2 ‹_›];exact(OC ‹_›).1)
  |(rw[RE ‹_› (MU ‹_›) ‹_›];rfl)
  |(rw[RE ‹_› (MU ‹_›) ‹_›];exact MV)
  |(rw[(Ko ‹_› (MU ‹_›) ‹_›).1 ‹_›];rfl)
  |(rw[(Ko ‹_› (MU ‹_›) ‹_›).2 ‹_›];rfl)
  |(rw[(Ko ‹_› (MU ‹_›) ‹_›).1 ‹_›];exact MV)
  |(rw[(Ko ‹_› (MU ‹_›) ‹_›).2 ‹_›];exact(OC ‹_›).1)
  |(have hq:=(OC (show frI _ _ _ _ _ _ by assumption)).2.2;omega)
  |exact MV
  |(simp [AS];done)
  |(have hq:=b3K (show frI _ _ _ _ _ _ by assumption);(try simp only[AS,List.length_append,List.length_cons,List.length_nil]);omega)
  |skip
 all_goals first
  |exact(RC ‹_› ‹_› ‹_› ‹_› (GD ‹_›)).2
  |exact(RC ‹_› ‹_› ‹_› ‹_› (GE ‹_›)).2
  |rfl
  |skip)
end Go.My
end
section
set_option linter.unusedVariables false
set_option linter.unusedSimpArgs false
namespace Go.My
open Go.Eng Go.Proofs
variable {G:GInv}
def eqF{α:Type}(p:α→α→Bool):List α→List α→Bool
 |[],[]=>true
 |x::a,y::b=>p x y&&eqF p a b
 |_,_=>false
def eqW{α:Type}(p:α→α→Bool)(a b:List α)(i:Int):Prop:=((0≤i∧i≤a.length)∧a.length=b.length)∧eqF p a b=eqF p (a.drop i.toNat) (b.drop i.toNat)
def b3P(x y:Sg):Bool:=decide (x.kind=y.kind)&&(x.text==y.text)
attribute [local irreducible] eqW
end Go.My
end
section
set_option linter.unusedVariables false
set_option linter.unusedSimpArgs false
namespace Go.My
open Go.Eng Go.Proofs
variable {G:GInv}
def Dk(l:List Sg)(i:Int):Bool:=decide (i+1<l.length)&&(Ew l i 4 [44]&&(Ew l (i+1) 4 [41]||Ew l (i+1) 4 [93]))
def Eh(l:List Sg):Nat→List Sg
 |0=>[]
 |n+1=>if Dk l n then Eh l n else Eh l n++[sgO l n]
theorem VP{l:List Sg}:∀ {n:Nat},(Eh l n).length≤n
 |0=>Nat.le_refl _
 |n+1=>by
  have:= @VP l n
  rw[Eh];split
  ·omega
  ·simp;omega
theorem b3Q{l:List Sg}{i:Int}(h0:0≤i)(h:Dk l i=true):Eh l i.toNat=Eh l (i+1).toNat:=by
 have e:((i.toNat:Nat):Int)=i:=by omega
 rw[show(i+1).toNat=i.toNat+1 by omega,Eh,e,if_pos h]
theorem a2U{l:List Sg}{i:Int}(h0:0≤i)(h:Dk l i=false):Eh l i.toNat++[sgO l i]=Eh l (i+1).toNat:=by
 have e:((i.toNat:Nat):Int)=i:=by omega
 rw[show(i+1).toNat=i.toNat+1 by omega,Eh,e,if_neg (by simp [h])]
def OE(l:List Sg):Nat→List (List UInt8)
 |0=>[]
 |n+1=>if(sgO l n).kind=5 then OE l n++[(sgO l n).text] else OE l n
def Ct(l:List Sg):List Sg:=Eh l l.length
def b3R(l:List Sg):List (List UInt8):=OE l l.length
def lfI(l:List Sg)(i:Int)(o:List Sg):Prop:=(0≤i∧i≤l.length)∧o=Eh l i.toNat
theorem a2V{l:List Sg}:lfI l 0 []:=⟨by omega,rfl⟩
theorem RF{l:List Sg}{i:Int}{o:List Sg}(h:lfI l i o):(0≤i∧i≤l.length)∧o.length≤l.length:=by
 refine⟨h.1,?_⟩
 rw[h.2];have:= @VP l i.toNat;have:=h.1;omega
theorem VQ{l:List Sg}{i:Int}{o:List Sg}(h:lfI l i o)(hi:i<l.length)(hs:Dk l i=true):lfI l (i+1) o:=⟨by have:=h.1;omega,by rw[h.2];exact b3Q h.1.1 hs⟩
theorem a2W{l:List Sg}{i:Int}{o:List Sg}{e:Sg}(h:lfI l i o)(hi:i<l.length)(he:l[i.toNat]? =some e)(hs:Dk l i=false):lfI l (i+1) (o++[e]):=⟨by have:=h.1;omega,by rw[h.2,←Ga he];exact a2U h.1.1 hs⟩
theorem b3S{l:List Sg}{i:Int}{o:List Sg}(h:lfI l i o)(hi:i<l.length)(hs:Dk l i=false):lfI l (i+1) (o++[sgO l i]):=⟨by have:=h.1;omega,by rw[h.2];exact a2U h.1.1 hs⟩
theorem RG{l:List Sg}{i:Int}{o:List Sg}(h:lfI l i o)(hi:¬i<l.length):o=Ct l:=by
 rw[h.2,Ct,show i.toNat=l.length by have:=h.1;omega]
def ntI(l:List Sg)(i:Int)(o:List (List UInt8)):Prop:=(0≤i∧i≤l.length)∧o=OE l i.toNat
theorem b3T{l:List Sg}:(Ct l).length≤l.length:= @VP l l.length
attribute [local irreducible] Eh OE lfI ntI Ct b3R
def HU:Sig:= {X:=List Sg×Int,args:=fun x=>[sgs x.1,.int .i64 x.2],pre:=fun x=>(0≤x.2∧x.2<x.1.length)∧x.1.length<2^62,Y:=Unit,post:=fun x y=>True,res:=fun x y=> .bool (Dk x.1 x.2),outs:=fun x y=>[.top,.top],keep:=false}
theorem b3U:Aj G Tryz.prog 94 HU:=
 vcFun_okP [] [] false (fun x=>[]) Tryz.func94 rfl (by decide) trivial (fun(x:List Sg×Int)=>(∀(y:Unit),True→True∧True∧True∧True)∧inR IntKind.i64 (x.2+(1:Int))∧Aa (decide (x.2+(1:Int)≥(↑(List.length x.1):Int))) (rA HU x [.bool false,.top,.top]) (((0:Int)≤x.2∧x.2<(↑(List.length x.1):Int))∧∀(e:Sg),x.1[Int.toNat x.2]? =some e→Aa (e.kind != (4:Int)) (rA HU x [.bool false,.top,.top]) (((0:Int)≤x.2∧x.2<(↑(List.length x.1):Int))∧∀(e:Sg),x.1[Int.toNat x.2]? =some e→Aa (!e.text== #[(44:UInt8)].toList) (rA HU x [.bool false,.top,.top]) (inR IntKind.i64 (x.2+(1:Int))∧((0:Int)≤x.2+(1:Int)∧x.2+(1:Int)<(↑(List.length x.1):Int))∧∀(e:Sg),x.1[Int.toNat (x.2+(1:Int))]? =some e→Aa (e.kind==(4:Int)) (Aa (e.text== #[(41:UInt8)].toList) (rA HU x [.bool true,.top,.top]) (rA HU x [.bool (e.text== #[(93:UInt8)].toList),.top,.top])) (rA HU x [.bool false,.top,.top]))))) (fun x=>by kernel_rfl) fun(x:List Sg×Int) (hx:(0≤x.2∧x.2<x.1.length)∧x.1.length<2^62)=>(by
 dsimp only[rA,HU,Bj,sgs,Av,AB]
 obtain⟨h1,h2⟩:=hx
 (repeat' first|(with_reducible first|rfl|exact True.intro|apply AK|apply And.intro|((first|apply Az|apply AI|apply AA|apply AJ)<;>intro _))|(apply Aw<;>intro _)|apply AH|refine Ae () ?_ ?_|((first|apply AO|apply AN|apply AM|apply AL|apply AG|apply AF|apply AE|apply AD|apply AC)<;>try dsimp only)|apply Ae|(refine Prod.forall.2 ?_;intro _;try dsimp only)|(intro _;try dsimp only))
 all_goals(repeat(rename x.1[_]? =some _=>hq;have hq2:=Ga hq;clear hq;subst hq2))
 all_goals first
  |rfl
  |((try simp only[AR]);omega)
  |(rw[Bool.eq_iff_iff];simp [Dk,Ew, *];done)
  |(rw[Bool.eq_iff_iff];simp [Dk,Ew, *];omega)
  |skip)
def VR:Sig:= {X:=List Sg,args:=fun x=>[sgs x],pre:=fun x=>x.length<2^30,Y:=Unit,post:=fun x y=>True,res:=fun x y=>sgs (Ct x),outs:=fun x y=>[.top],keep:=true}
def OF(x:List Sg):LS:= {ι:=Int×List Sg,inv:=fun i=>lfI x i.1 i.2,regs:=fun i=>[(0,sgs x),(3,As i.2),(6,sgs x),(7,.int .i64 x.length),(8,.int .i64 i.1)],als:=[],meas:=fun i=>x.length-i.1.toNat}
theorem iLeft_ok:Aj G Tryz.prog 52 VR:=
 vcFun_okP [(94,0,HU)] [(36,⟨Sg,sgA⟩)] false (fun x=>[(3,OF x)]) Tryz.func52 rfl (by decide) ⟨b3U,trivial⟩ (fun(x:List Sg)=>True∧eA (OF x) [sgs x,.nil,sgs x,.int .i64 (↑(List.length x):Int),.int .i64 (0:Int)]∧∀(i:Int×List Sg),lfI x i.1 i.2→Aa (decide (i.1<(↑(List.length x):Int))) (((0:Int)≤i.1∧i.1<(↑(List.length x):Int))∧∀(e:Sg),x[Int.toNat i.1]? =some e→cA HU [sgs x,.int .i64 i.1] fun x_1 y=>Aa (!Dk x_1.1 x_1.2) (∃(x_2:Sg),e.kind=x_2.kind∧e.text=x_2.text∧e.pos=x_2.pos∧e.blank=x_2.blank∧∃(zs:List Sg),As [x_2]=As zs∧Be sgA∧AS (List.length i.2+List.length zs) (40:Nat)∧inR IntKind.i64 (i.1+(1:Int))∧eN (OF x) i [sgs x,As (i.2++zs),sgs x,.int .i64 (↑(List.length x):Int),.int .i64 (i.1+(1:Int))]) (inR IntKind.i64 (i.1+(1:Int))∧eN (OF x) i [sgs x,As i.2,sgs x,.int .i64 (↑(List.length x):Int),.int .i64 (i.1+(1:Int))])) (rA VR x [As i.2,.top])) (fun x=>by kernel_rfl) fun(x:List Sg) (hx:x.length<2^30)=>(by
 dsimp only[cA,eA,eN,OF,As,rA,VR,HU,Bj,sgs,Av,AB,mvL,lnL,mvE,lnE,Bw]
 have hx:x.length<2^30:=hx
 (repeat' first|(with_reducible first|rfl|exact True.intro|apply AK|apply And.intro|((first|apply Az|apply AI|apply AA|apply AJ)<;>intro _))|(apply Aw<;>intro _)|apply AH|refine Ae () ?_ ?_|((first|apply AO|apply AN|apply AM|apply AL|apply AG|apply AF|apply AE|apply AD|apply AC)<;>try dsimp only)|apply Ae|(refine Prod.forall.2 ?_;intro _;try dsimp only)|(intro _;try dsimp only))
 all_goals first
  |rfl
  |exact a2V
  |exact VQ ‹_› ‹_› ‹_›
  |exact a2W ‹_› ‹_› ‹_› ‹_›
  |exact RG ‹_› ‹_›
  |exact congrArg _ (RG ‹_› ‹_›)
  |omega
  |(have hq:=RF (show lfI _ _ _ by assumption);(try simp only[AR]);omega)
  |(have hq:=RF (show lfI _ _ _ by assumption);(try simp only[AS,List.length_append,List.length_cons,List.length_nil]);omega)
  |skip)
def MW:Sig:= {X:=List Sg,args:=fun x=>[sgs x],pre:=fun x=>x.length<2^30,Y:=Unit,post:=fun x y=>True,res:=fun x y=>sgs (Ct x),outs:=fun x y=>[.top],keep:=true}
def IA(x:List Sg):LS:= {ι:=Int×List Sg,inv:=fun i=>lfI x i.1 i.2,regs:=fun i=>[(0,sgs x),(3,As i.2),(4,.int .i64 i.1)],als:=[],meas:=fun i=>x.length-i.1.toNat}
theorem b3V:Aj G Tryz.prog 35 MW:=
 vcFun_okP [] [(36,⟨Sg,sgA⟩)] false (fun x=>[(3,IA x)]) Tryz.func35 rfl (by decide) trivial (fun(x:List Sg)=>True∧eA (IA x) [sgs x,As [],.int .i64 (0:Int)]∧∀(i:Int×List Sg),lfI x i.1 i.2→Aa (decide (i.1<(↑(List.length x):Int))) (((0:Int)≤i.1∧i.1<(↑(List.length x):Int))∧∀(e:Sg),x[Int.toNat i.1]? =some e→Aa (e.kind==(4:Int)) (((0:Int)≤i.1∧i.1<(↑(List.length x):Int))∧∀(e:Sg),x[Int.toNat i.1]? =some e→Aa (e.text== #[(44:UInt8)].toList) (inR IntKind.i64 (i.1+(1:Int))∧Aa (decide (i.1+(1:Int)<(↑(List.length x):Int))) (inR IntKind.i64 (i.1+(1:Int))∧((0:Int)≤i.1+(1:Int)∧i.1+(1:Int)<(↑(List.length x):Int))∧∀(e:Sg),x[Int.toNat (i.1+(1:Int))]? =some e→Aa (e.kind==(4:Int)) (inR IntKind.i64 (i.1+(1:Int))∧((0:Int)≤i.1+(1:Int)∧i.1+(1:Int)<(↑(List.length x):Int))∧∀(e:Sg),x[Int.toNat (i.1+(1:Int))]? =some e→Aa (e.text== #[(41:UInt8)].toList) (inR IntKind.i64 (i.1+(1:Int))∧eN (IA x) i [sgs x,As i.2,.int .i64 (i.1+(1:Int))]) (inR IntKind.i64 (i.1+(1:Int))∧((0:Int)≤i.1+(1:Int)∧i.1+(1:Int)<(↑(List.length x):Int))∧∀(e:Sg),x[Int.toNat (i.1+(1:Int))]? =some e→Aa (e.text== #[(93:UInt8)].toList) (inR IntKind.i64 (i.1+(1:Int))∧eN (IA x) i [sgs x,As i.2,.int .i64 (i.1+(1:Int))]) (((0:Int)≤i.1∧i.1<(↑(List.length x):Int))∧∀(e:Sg),x[Int.toNat i.1]? =some e→∃(x_1:Sg),e.kind=x_1.kind∧e.text=x_1.text∧e.pos=x_1.pos∧e.blank=x_1.blank∧∃(zs:List Sg),As [x_1]=As zs∧Be sgA∧AS (List.length i.2+List.length zs) (40:Nat)∧inR IntKind.i64 (i.1+(1:Int))∧eN (IA x) i [sgs x,As (i.2++zs),.int .i64 (i.1+(1:Int))]))) (((0:Int)≤i.1∧i.1<(↑(List.length x):Int))∧∀(e:Sg),x[Int.toNat i.1]? =some e→∃(x_1:Sg),e.kind=x_1.kind∧e.text=x_1.text∧e.pos=x_1.pos∧e.blank=x_1.blank∧∃(zs:List Sg),As [x_1]=As zs∧Be sgA∧AS (List.length i.2+List.length zs) (40:Nat)∧inR IntKind.i64 (i.1+(1:Int))∧eN (IA x) i [sgs x,As (i.2++zs),.int .i64 (i.1+(1:Int))])) (((0:Int)≤i.1∧i.1<(↑(List.length x):Int))∧∀(e:Sg),x[Int.toNat i.1]? =some e→∃(x_1:Sg),e.kind=x_1.kind∧e.text=x_1.text∧e.pos=x_1.pos∧e.blank=x_1.blank∧∃(zs:List Sg),As [x_1]=As zs∧Be sgA∧AS (List.length i.2+List.length zs) (40:Nat)∧inR IntKind.i64 (i.1+(1:Int))∧eN (IA x) i [sgs x,As (i.2++zs),.int .i64 (i.1+(1:Int))])) (((0:Int)≤i.1∧i.1<(↑(List.length x):Int))∧∀(e:Sg),x[Int.toNat i.1]? =some e→∃(x_1:Sg),e.kind=x_1.kind∧e.text=x_1.text∧e.pos=x_1.pos∧e.blank=x_1.blank∧∃(zs:List Sg),As [x_1]=As zs∧Be sgA∧AS (List.length i.2+List.length zs) (40:Nat)∧inR IntKind.i64 (i.1+(1:Int))∧eN (IA x) i [sgs x,As (i.2++zs),.int .i64 (i.1+(1:Int))])) (((0:Int)≤i.1∧i.1<(↑(List.length x):Int))∧∀(e:Sg),x[Int.toNat i.1]? =some e→∃(x_1:Sg),e.kind=x_1.kind∧e.text=x_1.text∧e.pos=x_1.pos∧e.blank=x_1.blank∧∃(zs:List Sg),As [x_1]=As zs∧Be sgA∧AS (List.length i.2+List.length zs) (40:Nat)∧inR IntKind.i64 (i.1+(1:Int))∧eN (IA x) i [sgs x,As (i.2++zs),.int .i64 (i.1+(1:Int))])) (rA MW x [As i.2,.top])) (fun x=>by kernel_rfl) fun(x:List Sg) (hx:x.length<2^30)=>(by
 dsimp only[eA,eN,IA,As,rA,MW,Bj,sgs,Av,AB,Bw]
 have hx:x.length<2^30:=hx
 (repeat' first|(with_reducible first|rfl|exact True.intro|apply AK|apply And.intro|((first|apply Az|apply AI|apply AA|apply AJ)<;>intro _))|(apply Aw<;>intro _)|apply AH|refine Ae () ?_ ?_|((first|apply AO|apply AN|apply AM|apply AL|apply AG|apply AF|apply AE|apply AD|apply AC)<;>try dsimp only)|apply Ae|(refine Prod.forall.2 ?_;intro _;try dsimp only)|(intro _;try dsimp only))
 all_goals first
  |rfl
  |exact a2V
  |exact VQ ‹_› ‹_› ‹_›
  |exact a2W ‹_› ‹_› ‹_› ‹_›
  |exact RG ‹_› ‹_›
  |exact congrArg _ (RG ‹_› ‹_›)
  |omega
  |(have hq:=RF (show lfI _ _ _ by assumption);(try simp only[AR]);omega)
  |(have hq:=RF (show lfI _ _ _ by assumption);(try simp only[AS,List.length_append,List.length_cons,List.length_nil]);omega)
  |skip
 all_goals(repeat(rename x[_]? =some _=>hq;have hq2:=Ga hq;clear hq;subst hq2))
 all_goals first
  |(refine VQ ‹_› ‹_› ?_;simp [Dk,Ew, *];done)
  |(refine b3S ‹_› ‹_› ?_;simp [Dk,Ew, *];done)
  |skip)
def kwF(p q:List Sg):Bool:=eqF b3P (Ct p) (Ct q)
def sgD(t:List UInt8):List Sg:=(Br t).getD []
theorem b3W{t:List UInt8}{l:List Sg}(h:sgQ t l):l=sgD t∧l.length<2^30:=by
 rcases h with h|h
 ·exact⟨by rw[sgD,h.1];rfl,by have:=h.2.1;omega⟩
 ·exact⟨by rw[sgD,h.1,h.2];rfl,by rw[h.2];simp⟩
attribute [local irreducible] CB Br kwF sgD eqF
end Go.My
end
