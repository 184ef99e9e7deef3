/- A part of the proof: the engine and the contracts, joined. -/
import Derived.Test.YtjmoahjpdapjkaaGreatDoorQJ
section
set_option linter.unusedVariables false
set_option linter.unusedSimpArgs false
namespace Go.My
open Go.Eng Go.Proofs
variable {G:GInv}
def okQ(s:ST)(x:Gs):Prop:=okD s x∧sgM s.sg
theorem EA{s:ST}{x:Gs}(h:okQ s x):okD s x:=h.1
theorem MR{s:ST}{x:Gs}(h:okQ s x):sgM s.sg:=h.2
theorem Jn{sg:List Sg}{x:Gs}{m:List UInt8}(h:isG sg x 1 m=false):BI sg x m=x:=by simp [BI,h]
theorem Jo{sg:List Sg}{x:Gs}{m:List UInt8}(h:isG sg x 1 m=true):BI sg x m=Ai x:=by simp [BI,h]
theorem Gj{s:ST}{x:Gs}{m:List UInt8}(h:okQ s x)(hq:isG s.sg x 1 m=true):okQ s (Ai x):=⟨Lq h.1 hq,h.2⟩
theorem VH{s:ST}{x:Gs}(h:okQ s x):rOk s (Bf s.sg x 1)∧rOk s (Ah s.sg (Bf s.sg x 1) [61]):=by
 have a:=Hl (k:=1) h.1.1 (by omega);exact⟨a,Fp a⟩
theorem b2H{s:ST}{x:Gs}(h:okQ s x)(hq:isG s.sg (Bf s.sg x 1) 4 [61]=true):okQ s (Ah s.sg (Bf s.sg x 1) [61]):=by
 rw[HP.1] at hq ⊢
 exact⟨UL h.1.1 h.1.2 hq,h.2⟩
theorem b2I{s:ST}{x:Gs}{z:Int×Gs}(h:okQ s x)(hq:isG s.sg (Bf s.sg x 1) 4 [61]=true)(hz:Af s.sg (Ah s.sg (Bf s.sg x 1) [61]) (Cb s.sg) z):
 Af s.sg x (Dn s.sg false) (Ax (Al s.sg z.2 [59]),Ag (Al s.sg z.2 [59]) ⟨12,BA s.sg x 1,[z.1],false⟩):=by
 rw[HP.1] at hq hz;rw[HP.2]
 exact HO (Ez hz) (DG (Hh h.1.1.1) (by simp)) (a1m h.1.1 hq hz)
theorem b2J{s:ST}{x:Gs}(h:okQ s x)(hq:isG s.sg (Bf s.sg x 1) 4 [61]=false):
 Af s.sg x (Dn s.sg false) (Ax (Al s.sg (Ah s.sg (Bf s.sg x 1) [61]) [59]),Ag (Al s.sg (Ah s.sg (Bf s.sg x 1) [61]) [59]) ⟨12,BA s.sg x 1,[],false⟩):=by
 rw[HP.1] at hq ⊢;rw[HP.2]
 exact HO (a1n h.1.1 hq).2 (DG (Hh h.1.1.1) (by simp)) (a1o h.1.1 hq)
def mbS(sg:List Sg)(n:Nat)(x y:Gs)(ks:List Int)(N:Nat):Prop:=
 Iw sg (stR sg n) [125] (pkX (Al sg x [123])) y ks N∧y.deep=x.deep+1∧(y.bad=false→x.deep≠20)
theorem a2x{s:ST}{x:Gs}{n:Nat}(h:okQ s x):mbS s.sg n x (pkX (Al s.sg x [123])) [] (s.sg.length+1):=by
 have t:=FF (m:=[123]) h.1.1.2
 obtain⟨p1,p2,p3⟩:= @Oe (Al s.sg x [123])
 have t1:=t.1;have t2:=t.2.1;have hd:=h.1.2
 refine⟨QI ⟨by simp only[pkX] at*;rw[p1];exact t1.1,by simp only[pkX] at*;rw[p2];have:=t1.2.1;omega,?_⟩,by simp only[pkX] at*;rw[p2];omega,fun hb=>by have:=(p3 hb).2;omega⟩
 have e:(pkX (Al s.sg x [123])).nodes=(Al s.sg x [123]).nodes:=by unfold pkX;split<;>rfl
 rw[e];exact t1.2.2
theorem b2K{s:ST}{x:Gs}{n:Nat}(h:okQ s x)(h20:(Al s.sg x [123]).deep+1>20):mbS s.sg n x ⟨(Al s.sg x [123]).pos,(Al s.sg x [123]).deep+1,true,(Al s.sg x [123]).nodes⟩ [] (s.sg.length+1):=by
 have a:=a2x (n:=n) h
 have t2:=(FF (m:=[123]) h.1.1.2).2.1;have hd:=h.1.2
 have e:pkX (Al s.sg x [123])=⟨(Al s.sg x [123]).pos,(Al s.sg x [123]).deep+1,true,(Al s.sg x [123]).nodes⟩:=by rw[pkX,if_pos (by omega)];rfl
 rw[←e];exact a
theorem b2L{s:ST}{x:Gs}{n:Nat}(h:okQ s x)(h20:¬(Al s.sg x [123]).deep+1>20):mbS s.sg n x ⟨(Al s.sg x [123]).pos,(Al s.sg x [123]).deep+1,(Al s.sg x [123]).bad,(Al s.sg x [123]).nodes⟩ [] (s.sg.length+1):=by
 have a:=a2x (n:=n) h
 have e:pkX (Al s.sg x [123])=⟨(Al s.sg x [123]).pos,(Al s.sg x [123]).deep+1,(Al s.sg x [123]).bad,(Al s.sg x [123]).nodes⟩:=by rw[pkX,if_neg (by omega)];rfl
 rw[←e];exact a
theorem b2M{s:ST}{x:Gs}(h:okQ s x):0≤(Al s.sg x [123]).deep∧(Al s.sg x [123]).deep≤20:=by
 have t:=FF (m:=[123]) h.1.1.2
 have:=t.1.2.1;have:=t.2.1;have:=h.1.2;omega
theorem Rx{s:ST}{x y:Gs}{n:Nat}{ks:List Int}{N:Nat}(h:okQ s x)(hj:mbS s.sg n x y ks N):rOk s y:=⟨h.1.1.1,hj.1.1.1⟩
theorem VI{s:ST}{x y:Gs}{n:Nat}{ks:List Int}{N:Nat}(h:okQ s x)(h2:20-x.deep≤(n:Int))(hj:mbS s.sg n x y ks N)(hb:y.bad=false)(hq:isG s.sg y 4 [125]=false):okQ s (Ah s.sg y [125])∧(Ah s.sg y [125]).bad=false∧21-(Ah s.sg y [125]).deep≤(n:Int):=by
 rw[Da hq]
 have:=hj.2.1;have:=hj.2.2 hb;have:=h.1.2
 exact⟨⟨⟨Rx h hj,by omega⟩,h.2⟩,hb,by omega⟩
theorem VJ{s:ST}{x y:Gs}{n:Nat}{ks:List Int}{N:Nat}(h:okQ s x)(hj:mbS s.sg n x y ks N):ks.length≤3001:=by
 have:=hj.1.2.2.1;have:=hj.1.1.1.1;have:=h.1.1.1.1;omega
theorem Ry{s:ST}{x y:Gs}{n:Nat}{ks:List Int}{N:Nat}{b:Bool}{z:Int×Gs}(hj:mbS s.sg n x y ks N)(hb:y.bad=false)(hq:isG s.sg y 4 [125]=false)(hz:Af s.sg (Ah s.sg y [125]) (stR s.sg n false) z)(e:b=(blG s.sg (Ah s.sg y [125])&&decide (0<(ks.length:Int)))):
 mbS s.sg n x (gBl z.2 z.1 b) (ks++[z.1]) (N-1)∧N-1<N:=by
 rw[Da hq] at hz e
 rw[VG hb] at e
 have hz2:Af s.sg y (stR s.sg n b) (z.1,gBl z.2 z.1 b):=VF VC hz
 subst e
 obtain⟨a,b⟩:=He (QL hj.1 hb hq (z:=(z.1,gBl z.2 z.1 ((pkG s.sg y 0).blank&&decide (0<(ks.length:Int))))) (by
  have:decide (0<ks.length)=decide (0<(ks.length:Int)):=by simp
  rw[this];exact hz2))
 have:=(CD hz2).1
 exact⟨⟨a,by have:=hj.2.1;simp only at*;omega,fun hw=>hj.2.2 hb⟩,b⟩
theorem b2N{s:ST}{x y:Gs}{n:Nat}{ks:List Int}{N:Nat}(h:okQ s x)(hj:mbS s.sg n x y ks N)(hq:isG s.sg y 4 [125]=true):
 Af s.sg x (BH s.sg (stR s.sg n)) (Ax (gDp (Ah s.sg y [125]) (-1)),Ag (gDp (Ah s.sg y [125]) (-1)) ⟨18,[],ks,false⟩):=by
 rw[Db hq,←Jk hq]
 exact a2w (l:=(ks,y)) h.1.1.2 h.1.2 (QK hj.1 hq) (VJ h hj)
theorem b2O{s:ST}{x y:Gs}{n:Nat}{ks:List Int}{N:Nat}(h:okQ s x)(hj:mbS s.sg n x y ks N)(hb:y.bad=true):
 Af s.sg x (BH s.sg (stR s.sg n)) (Ax (gDp y (-1)),Ag (gDp y (-1)) ⟨18,[],ks,false⟩):=by
 have a:=a2w (l:=(ks,y)) h.1.1.2 h.1.2 (QJ hj.1 hb) (VJ h hj)
 simp only[Ri hb] at a;exact a
theorem VK{s:ST}{x y:Gs}{n:Nat}{ks:List Int}{N:Nat}(h:okQ s x)(hj:mbS s.sg n x y ks N):(1≤y.deep∧y.deep≤21)∧rOk s (gDp y (-1))∧rOk s (gDp (Ah s.sg y [125]) (-1))∧(Ah s.sg y [125]).deep=y.deep:=by
 have h1:=hj.2.1;have h2:=h.1.1.2.2.1;have h3:=h.1.2
 have a:=Rx h hj
 have b:=Fp (m:=[125]) a
 have e:(Ah s.sg y [125]).deep=y.deep:=by unfold Ah;split<;>rfl
 refine⟨by omega,⟨a.1,a.2.1,by simp only[gDp];omega,a.2.2.2⟩,⟨b.1,b.2.1,by simp only[gDp];omega,b.2.2.2⟩,e⟩
theorem b2P{s:ST}{x:Gs}{n:Nat}(h:okQ s x)(hk:kdG s.sg x 5=true):Af s.sg x (stR s.sg (n+1) false) (Ax (Bf s.sg x 5),Ag (Bf s.sg x 5) ⟨19,BA s.sg x 5,[],false⟩):=by
 have hn:=hk
 rw[Ox (by omega)] at hn
 exact MN h.1.1.1 h.1.1.2 (by omega) hk (a0Z h.1.1.1 h.1.1.2 (by simpa using hn))
theorem GI{sg:List Sg}{x:Gs}(h:kdG sg x 5=false):(pkG sg x 0).kind≠5:=Jm h (by omega)
theorem b2Q{s:ST}{x:Gs}{n:Nat}{z:Int×Gs}(h:okQ s x)(hk:kdG s.sg x 5=false)(hq:isG s.sg x 1 [118,97,114]=true)(hz:Af s.sg (Ai x) (Dn s.sg false) z):Af s.sg x (stR s.sg (n+1) false) z:=a1a h.1.1.2 (GI hk) hq hz
theorem b2R{s:ST}{x:Gs}{n:Nat}(h:okQ s x)(hk:kdG s.sg x 5=false)(h1:isG s.sg x 1 [118,97,114]=false)(hq:isG s.sg x 1 [114,101,116,117,114,110]=true)(hs:isG s.sg (Ai x) 4 [59]=true):
 Af s.sg x (stR s.sg (n+1) false) (Ax (Al s.sg (Ai x) [59]),Ag (Al s.sg (Ai x) [59]) ⟨15,[],[],false⟩):=by
 have o:=(Gj h hq).1.1.2
 exact UF h.1.1.2 (GI hk) h1 hq (HO o (DG (by simp) (by simp)) (a0P o hs))
theorem b2S{s:ST}{x:Gs}{n:Nat}{z:Int×Gs}(h:okQ s x)(hk:kdG s.sg x 5=false)(h1:isG s.sg x 1 [118,97,114]=false)(hq:isG s.sg x 1 [114,101,116,117,114,110]=true)(hs:isG s.sg (Ai x) 4 [59]=false)(hz:Af s.sg (Ai x) (Cb s.sg) z):
 Af s.sg x (stR s.sg (n+1) false) (Ax (Al s.sg z.2 [59]),Ag (Al s.sg z.2 [59]) ⟨15,[],[z.1],false⟩):=by
 have o:=(Gj h hq).1.1.2
 exact UF h.1.1.2 (GI hk) h1 hq (HO (Ez hz) (DG (by simp) (by simp)) (a0Q o hs hz))
theorem b2T{s:ST}{x:Gs}{n:Nat}{c q:Int×Gs}(h:okQ s x)(hk:kdG s.sg x 5=false)(h1:isG s.sg x 1 [118,97,114]=false)(h2:isG s.sg x 1 [114,101,116,117,114,110]=false)(hq:isG s.sg x 1 [105,102]=true)
 (hc:Bm s.sg (Ai x) (Dj s.sg) c) (hb:Af s.sg c.2 (BH s.sg (stR s.sg n)) q) (he:isG s.sg q.2 1 [101,108,115,101]=false):
 Af s.sg x (stR s.sg (n+1) false) (Ax (BI s.sg q.2 [101,108,115,101]),Ag (BI s.sg q.2 [101,108,115,101]) ⟨16,[],[c.1,q.1],false⟩):=by
 rw[Jn he]
 exact UG h.1.1.2 (GI hk) h1 h2 hq (a0V (Gj h hq).1.1.2 hc hb he)
theorem b2U{s:ST}{x:Gs}{n:Nat}{c q r:Int×Gs}(h:okQ s x)(hk:kdG s.sg x 5=false)(h1:isG s.sg x 1 [118,97,114]=false)(h2:isG s.sg x 1 [114,101,116,117,114,110]=false)(hq:isG s.sg x 1 [105,102]=true)
 (hc:Bm s.sg (Ai x) (Dj s.sg) c) (hb:Af s.sg c.2 (BH s.sg (stR s.sg n)) q) (he:isG s.sg q.2 1 [101,108,115,101]=true) (hr:Af s.sg (BI s.sg q.2 [101,108,115,101]) (BH s.sg (stR s.sg n)) r):
 Af s.sg x (stR s.sg (n+1) false) (Ax r.2,Ag r.2 ⟨16,[],[c.1,q.1,r.1],false⟩):=by
 rw[Jo he] at hr
 exact UG h.1.1.2 (GI hk) h1 h2 hq (a0W (Gj h hq).1.1.2 hc hb he hr)
theorem b2V{s:ST}{x:Gs}{n:Nat}{c q:Int×Gs}(h:okQ s x)(hk:kdG s.sg x 5=false)(h1:isG s.sg x 1 [118,97,114]=false)(h2:isG s.sg x 1 [114,101,116,117,114,110]=false)(h3:isG s.sg x 1 [105,102]=false)(hq:isG s.sg x 1 [119,104,105,108,101]=true)
 (hc:Bm s.sg (Ai x) (Dj s.sg) c) (hb:Af s.sg c.2 (BH s.sg (stR s.sg n)) q):Af s.sg x (stR s.sg (n+1) false) (Ax q.2,Ag q.2 ⟨17,[],[c.1,q.1],false⟩):=a1u h.1 (GI hk) h1 h2 h3 hq hc hb
theorem b2W{sg:List Sg}{i k:Int}{e:Sg}(hk:e.kind=k)(he:sg[i.toNat]? =some e):(sgO sg i).kind=k:=by rw[Gb he];exact hk
theorem b2X{sg:List Sg}{i k:Int}{e:Sg}(hk:e.kind≠k)(he:sg[i.toNat]? =some e):(sgO sg i).kind≠k:=by rw[Gb he];exact hk
theorem b2Y{sg:List Sg}{i:Int}{e:Sg}{m:List UInt8}(hk:e.text=m)(he:sg[i.toNat]? =some e):((sgO sg i).text==m)=true:=by rw[Gb he];simpa using hk
theorem b2Z{sg:List Sg}{i:Int}{e:Sg}{m:List UInt8}(hk:e.text≠m)(he:sg[i.toNat]? =some e):((sgO sg i).text==m)=false:=by rw[Gb he];simpa using hk
theorem b3a{sg:List Sg}{x:Gs}(hk:kdG sg x 1=false):seG sg x=false:=by rw[Iy] at hk;simp [seG,hk]
theorem a2y{sg:List Sg}{x:Gs}{e:Sg}(hb:x.bad=false)(hl:x.pos+1<sg.length)(he:sgO sg (x.pos+1)=e):pkG sg x 1=e:=by
 rw[pkG,if_neg (by simp [hb];omega),he]
theorem b3b{sg:List Sg}{x:Gs}(hl:¬x.pos+1<sg.length):seG sg x=false:=by
 have:pkG sg x 1=Ed:=by rw[pkG,if_pos (.inr (by omega))]
 simp [seG,this,Ed]
theorem a2z{sg:List Sg}{x:Gs}(hb:x.bad=false)(hl:x.pos+1<sg.length)(hk:(sgO sg (x.pos+1)).kind≠4∨((sgO sg (x.pos+1)).text==[61])=false):seG sg x=false:=by
 rw[seG,a2y hb hl rfl]
 rcases hk with hk|hk<;>simp [hk]
theorem b3c{sg:List Sg}{x:Gs}(hb:x.bad=false)(hl:x.pos+1<sg.length)(h1:kdG sg x 1=true)(hk:(sgO sg (x.pos+1)).kind=4)(ht:((sgO sg (x.pos+1)).text==[61])=true):seG sg x=true:=by
 rw[Iy] at h1
 rw[seG,a2y hb hl rfl];simp [h1,hk,ht]
theorem b3d{s:ST}{x:Gs}{n:Nat}{z:Int×Gs}(h:okQ s x)(hk:kdG s.sg x 5=false)(h1:isG s.sg x 1 [118,97,114]=false)(h2:isG s.sg x 1 [114,101,116,117,114,110]=false)(h3:isG s.sg x 1 [105,102]=false)(h4:isG s.sg x 1 [119,104,105,108,101]=false)
 (he:seG s.sg x=true) (hz:Af s.sg (Al s.sg (Bf s.sg x 1) [61]) (Cb s.sg) z):Af s.sg x (stR s.sg (n+1) false) (Ax (Al s.sg z.2 [59]),Ag (Al s.sg z.2 [59]) ⟨13,BA s.sg x 1,[z.1],false⟩):=by
 rw[HP.1] at hz;rw[HP.2]
 exact a1b h.1.1.2 (GI hk) h1 h2 h3 h4 he (HO (Ez hz) (DG (Hh h.1.1.1) (by simp)) (a0X h.1.1.1 h.1.1.2 hz))
theorem Rz{s:ST}{x:Gs}{n:Nat}{z:Int×Gs}(h:okQ s x)(hk:kdG s.sg x 5=false)(h1:isG s.sg x 1 [118,97,114]=false)(h2:isG s.sg x 1 [114,101,116,117,114,110]=false)(h3:isG s.sg x 1 [105,102]=false)(h4:isG s.sg x 1 [119,104,105,108,101]=false)
 (he:seG s.sg x=false) (hz:Af s.sg x (Cb s.sg) z):Af s.sg x (stR s.sg (n+1) false) (Ax (Al s.sg z.2 [59]),Ag (Al s.sg z.2 [59]) ⟨14,[],[z.1],false⟩):=
 a1c h.1.1.2 (GI hk) h1 h2 h3 h4 he (HO (Ez hz) (DG (by simp) (by simp)) (a0Y h.1.1.2 hz))
theorem a2A{s:ST}{x:Gs}(h:okQ s x):rOk s (Al s.sg (Bf s.sg x 1) [61])∧okQ s (Al s.sg (Bf s.sg x 1) [61]):=by
 have a:=Eg (m:=[61]) (Hl (k:=1) h.1.1 (by omega))
 have e:(Bf s.sg x 1).deep=x.deep:=by unfold Bf;split<;>rfl
 exact⟨a.1,⟨a.1,by have:=h.1.2;omega⟩,h.2⟩
theorem b3e{α:Type}{s:ST}{x:Gs}{f:Ps→Option (α×Ps)}{y:α×Gs}(h:okQ s x)(hy:Bm s.sg x f y):okQ s y.2:=⟨Lp h.1 hy,h.2⟩
theorem MS{α:Type}{s:ST}{x:Gs}{f:Ps→Option (α×Ps)}{y:α×Gs}(h:okQ s x)(hy:Af s.sg x f y):okQ s y.2:=⟨Lp h.1 hy.1,h.2⟩
theorem b3f{α:Type}{s:ST}{x:Gs}{n:Nat}{f:Ps→Option (α×Ps)}{y:α×Gs}(h:21-x.deep≤((n+1:Nat):Int))(hy:Bm s.sg (Ai x) f y):20-y.2.deep≤(n:Int):=by
 have:=hy.2.1;simp only[Ai] at this;omega
theorem a2B{sg:List Sg}{x:Gs}{m:List UInt8}:(BI sg x m).deep=x.deep:=by unfold BI;split<;>rfl
theorem a2C{s:ST}{x:Gs}{m:List UInt8}(h:rOk s x):rOk s (BI s.sg x m):=by
 unfold BI;split
 ·rename_i hq;exact⟨h.1,EZ h.2 (Cz hq (by omega)).2⟩
 ·exact h
theorem a2D{s:ST}{x:Gs}{m:List UInt8}(h:okQ s x):okQ s (BI s.sg x m):=⟨⟨a2C h.1.1,by rw[a2B];exact h.1.2⟩,h.2⟩
theorem b3g{α:Type}{s:ST}{x:Gs}{n:Nat}{m:List UInt8}{f:Ps→Option (α×Ps)}{y:α×Gs}(h:20-x.deep≤(n:Int))(hy:Af s.sg x f y):20-(BI s.sg y.2 m).deep≤(n:Int):=by
 rw[a2B];exact a1v h hy
def Jp(n:Nat):Sig:= {X:=ST×Int×Int×Bool×List Nd,args:=fun x=>[srd x.1 (xg x)],pre:=fun x=>(okQ x.1 (xg x)∧(xg x).bad=false)∧21-(xg x).deep≤n,Y:=Int×Int×Int×Bool×List Nd,post:=fun x y=>Af x.1.sg (xg x) (stR x.1.sg n false) (yS y),res:=fun x y=> .int .i64 y.1,outs:=fun x y=>[srd x.1 (yG y.2)],keep:=true}
attribute [local irreducible] pE Bl CQ fnR Af Bm gsOk Al Bs Ag BZ CZ Ah CA Dk Ax BB pkG isG nmG kdG Bf BA Bz vlQ BI gBl blG Dn Ge Dj Cb BH stR CL mbS seG okQ sgM
def srf(s:ST)(g:Gs):AV:= .pf [sgs s.sg,.int .i64 g.pos,.bool g.bad,.int .i64 g.deep,nds g.nodes]
theorem a2E{l:List Sg}{p d:Int}{b:Bool}{ns:List Nd}:AV.pf (fzL [AV.sl false 0 4 Sg sgA l,.int .i64 p,.bool b,.int .i64 d,AV.sl true 0 4 Nd (ndA true) ns])=AV.pf [AV.sl false 0 4 Sg sgA l,.int .i64 p,.bool b,.int .i64 d,AV.sl false 0 4 Nd (ndA false) ns]:=rfl
def IA:Sig:= {X:=ST×Int×Int×Bool×List Nd×Int,args:=fun x=>[srf x.1 (xh x),.int .i64 x.2.2.2.2.2],pre:=fun x=>rOk x.1 (xh x)∧x.2.2.2.2.2≠0,Y:=Unit,post:=fun x y=>True,res:=fun x y=> .bool (kdG x.1.sg (xh x) x.2.2.2.2.2),outs:=fun x y=>[.top,.top],keep:=false}
theorem b3h:Aj G Tryz.prog 68 IA:=
 vcFun_okP [(105,0,FV)] [] false (fun x=>[]) Tryz.func68 rfl (by decide) ⟨TN,trivial⟩ (fun(x:ST×Int×Int×Bool×List Nd×Int)=>(∀(y:Unit),True→True∧True∧True∧True)∧true=true∧true=true∧Aa (!(xh x).bad) (Aa (decide ((xh x).pos<(↑(List.length x.1.sg):Int))) (((0:Int)≤(xh x).pos∧(xh x).pos<(↑(List.length x.1.sg):Int))∧∀(e:Sg),x.1.sg[Int.toNat (xh x).pos]? =some e→Aa (e.kind==x.2.2.2.2.2) (Aa (x.2.2.2.2.2 != (1:Int)) (rA IA x [.bool true,.top,.top]) (((0:Int)≤(xh x).pos∧(xh x).pos<(↑(List.length x.1.sg):Int))∧∀(e:Sg),x.1.sg[Int.toNat (xh x).pos]? =some e→∃(x_1:List UInt8),True∧e.text=x_1∧∃(y0:Unit),(∀(y:Unit),True→AV.bool (kw x_1)=AV.bool (kw x_1))∧true=true∧rA IA x [.bool !kw x_1,.top,.top])) (rA IA x [.bool false,.top,.top])) (rA IA x [.bool false,.top,.top])) (rA IA x [.bool false,.top,.top])) (fun x=>by kernel_rfl) fun(x:ST×Int×Int×Bool×List Nd×Int) (hx:rOk x.1 (xh x)∧x.2.2.2.2.2≠0)=>(by
 dsimp only[Bg,nds,rA,IA,Bj,sgs,srf,Av,AB]
 obtain⟨s,p,d,b,ns,k⟩:=x;dsimp only[xg,xh] at hx ⊢
 obtain⟨h1,h2⟩:=hx;have hs:=DL h1;dsimp only at hs
 (repeat' first|(with_reducible first|rfl|exact True.intro|apply AK|apply And.intro|((first|apply Az|apply AI|apply AA|apply AJ)<;>intro _))|(apply Aw<;>intro _)|apply AH|refine Ae () ?_ ?_|((first|apply AO|apply AN|apply AM|apply AL|apply AG|apply AF|apply AE|apply AD|apply AC)<;>try dsimp only)|apply Ae|(refine Prod.forall.2 ?_;intro _;try dsimp only)|(intro _;try dsimp only))
 all_goals(try(repeat(rename s.sg[_]? =some _=>hq;revert hq;rename s.sg[_]? =some _=>hr;intro hq;rw[hr] at hq;cases hq)))
 all_goals first
  |rfl
  |exact(ML h2 (.inl ‹_›)).symm
  |exact(ML h2 (.inr (by simp only;omega))).symm
  |(rw[a1U ‹_› ‹_› (by simp only;omega)];simp [*];done)
  |((try simp only[AR]);omega)
  |skip)
def GJ:Sig:= {X:=ST×Int×Int×Bool×List Nd,args:=fun x=>[srd x.1 (xg x)],pre:=fun x=>okQ x.1 (xg x),Y:=Int×Int×Int×Bool×List Nd,post:=fun x y=>Af x.1.sg (xg x) (Dn x.1.sg false) (yS y),res:=fun x y=> .int .i64 y.1,outs:=fun x y=>[srd x.1 (yG y.2)],keep:=true}
theorem VL:Aj G Tryz.prog 71 GJ:=
 vcFun_okP [(69,0,CG),(73,0,Cc),(107,0,FI),(72,0,BO),(43,0,Bq)] [(45,⟨Int,Bb⟩)] false (fun x=>[]) Tryz.func71 rfl (by decide) ⟨Kl,Hj,Vx,HN,Hk,trivial⟩ (fun(x:ST×Int×Int×Bool×List Nd)=>True∧cA CG [srd x.1 (xg x),.int .i64 (1:Int)] fun x_1 y=>cA Cc [srd x_1.1 (Bf x_1.1.sg (xh x_1) x_1.2.2.2.2.2),.str #[(61:UInt8)].toList] fun x_2 y=>Aa (isG x_2.1.sg (xh x_2) (4:Int) x_2.2.2.2.2.2) (cA FI [srd x_2.1 (Ah x_2.1.sg (xh x_2) x_2.2.2.2.2.2)] fun x_3 y=>∃(x_4:Int),y.1=x_4∧∃(zs:List Int),Ab [x_4]=Ab zs∧Be Bb∧AS ((0:Nat)+List.length zs) (8:Nat)∧cA BO [srd x_3.1 (yG y.2),.str #[(59:UInt8)].toList] fun x_5 y=>cA Bq [srd x_5.1 (Al x_5.1.sg (xh x_5) x_5.2.2.2.2.2),.int .i64 (12:Int),.str (BA x_1.1.sg (xh x_1) x_1.2.2.2.2.2),Ab ([]++zs)] fun x_6 y=>rA GJ x [.int .i64 (Ax (xh x_6)),srd x_6.1 (Ag (xh x_6) {kind:=x_6.2.2.2.2.2.1,text:=x_6.2.2.2.2.2.2.1,kids:=x_6.2.2.2.2.2.2.2,blank:=false})]) (cA BO [srd x_2.1 (Ah x_2.1.sg (xh x_2) x_2.2.2.2.2.2),.str #[(59:UInt8)].toList] fun x_3 y=>cA Bq [srd x_3.1 (Al x_3.1.sg (xh x_3) x_3.2.2.2.2.2),.int .i64 (12:Int),.str (BA x_1.1.sg (xh x_1) x_1.2.2.2.2.2),Ab []] fun x_4 y=>rA GJ x [.int .i64 (Ax (xh x_4)),srd x_4.1 (Ag (xh x_4) {kind:=x_4.2.2.2.2.2.1,text:=x_4.2.2.2.2.2.2.1,kids:=x_4.2.2.2.2.2.2.2,blank:=false})])) (fun x=>by kernel_rfl) fun(x:ST×Int×Int×Bool×List Nd) (hx:okQ x.1 (xg x))=>(by
 dsimp only[cA,Bg,Ab,Au,rA,Cc,Bq,CG,FI,GJ,BO,Bj,sgs,srd,Av,AB,mvL,lnL,mvE,lnE]
 obtain⟨s,p,d,b,ns⟩:=x;dsimp only[xg,xh] at hx ⊢
 have hx:okQ s ⟨p,d,b,ns⟩:=hx
 have hD:=EA hx;have hM:=MR hx;have h1:=hD.1
 (repeat' first|(with_reducible first|rfl|exact True.intro|apply AK|apply And.intro|((first|apply Az|apply AI|apply AA|apply AJ)<;>intro _))|(apply Aw<;>intro _)|apply AH|refine Ae () ?_ ?_|((first|apply AO|apply AN|apply AM|apply AL|apply AG|apply AF|apply AE|apply AD|apply AC)<;>try dsimp only)|apply Ae|(refine Prod.forall.2 ?_;intro _;try dsimp only)|(intro _;try dsimp only))
 all_goals(try dsimp only[xg,xh,yG,yS,iG,iF] at*)
 all_goals(try simp only[CN] at*)
 all_goals first
  |rfl
  |exact h1
  |omega
  |exact(VH hx).1
  |exact(VH hx).2
  |exact EA (b2H hx ‹_›)
  |exact hM
  |exact Dr h1 ‹_›
  |exact(Eg (Dr h1 ‹_›)).1
  |exact(Eg (VH hx).2).1
  |exact b2I hx ‹_› ‹_›
  |exact b2J hx ‹_›
  |(simp [AS];done)
  |skip)
def LD:Sig:= {X:=ST×Int×Int×Bool×List Nd,args:=fun x=>[srd x.1 (xg x)],pre:=fun x=>okQ x.1 (xg x),Y:=Int×Int×Int×Bool×List Nd,post:=fun x y=>Bm x.1.sg (xg x) (Dj x.1.sg) (yS y),res:=fun x y=> .int .i64 y.1,outs:=fun x y=>[srd x.1 (yG y.2)],keep:=true}
theorem b3i:Aj G Tryz.prog 144 LD:=
 vcFun_okP [(107,0,FI),(72,0,BO)] [] false (fun x=>[]) Tryz.func144 rfl (by decide) ⟨Vx,HN,trivial⟩ (fun(x:ST×Int×Int×Bool×List Nd)=>True∧cA BO [srd x.1 (xg x),.str #[(40:UInt8)].toList] fun x_1 y=>cA FI [srd x_1.1 (Al x_1.1.sg (xh x_1) x_1.2.2.2.2.2)] fun x_2 y=>cA BO [srd x_2.1 (yG y.2),.str #[(41:UInt8)].toList] fun x_3 y_1=>rA LD x [.int .i64 y.1,srd x_3.1 (Al x_3.1.sg (xh x_3) x_3.2.2.2.2.2)]) (fun x=>by kernel_rfl) fun(x:ST×Int×Int×Bool×List Nd) (hx:okQ x.1 (xg x))=>(by
 dsimp only[cA,Bg,Au,rA,LD,FI,BO,Bj,sgs,srd,Av,AB,mvL,lnL,mvE,lnE]
 obtain⟨s,p,d,b,ns⟩:=x;dsimp only[xg,xh] at hx ⊢
 have hx:okQ s ⟨p,d,b,ns⟩:=hx
 have hD:=EA hx;have hM:=MR hx;have h1:=hD.1
 have t:=Eg (m:=[40]) h1;have hd:=hD.2;dsimp only at hd
 (repeat' first|(with_reducible first|rfl|exact True.intro|apply AK|apply And.intro|((first|apply Az|apply AI|apply AA|apply AJ)<;>intro _))|(apply Aw<;>intro _)|apply AH|refine Ae () ?_ ?_|((first|apply AO|apply AN|apply AM|apply AL|apply AG|apply AF|apply AE|apply AD|apply AC)<;>try dsimp only)|apply Ae|(refine Prod.forall.2 ?_;intro _;try dsimp only)|(intro _;try dsimp only))
 all_goals(try dsimp only[xg,xh,yG,yS,iG,iF] at*)
 all_goals(try simp only[CN] at*)
 all_goals first
  |rfl
  |exact h1
  |exact t.1
  |exact hM
  |exact⟨t.1,by rw[t.2];exact hd⟩
  |exact Dr h1 ‹_›
  |exact a0R h1.2 ‹_›
  |skip)
def HS(n:Nat):Sig:= {X:=ST×Int×Int×Bool×List Nd,args:=fun x=>[srd x.1 (xg x)],pre:=fun x=>okQ x.1 (xg x)∧20-(xg x).deep≤(n:Int),Y:=Int×Int×Int×Bool×List Nd,post:=fun x y=>Af x.1.sg (xg x) (BH x.1.sg (stR x.1.sg n)) (yS y),res:=fun x y=> .int .i64 y.1,outs:=fun x y=>[srd x.1 (yG y.2)],keep:=true}
def Kn(n:Nat)(x:ST×Int×Int×Bool×List Nd):LS:= {ι:=Int×Int×Bool×List Nd×List Int×Nat,inv:=fun i=>mbS x.1.sg n (xg x) (iG i) i.2.2.2.2.1 i.2.2.2.2.2,regs:=fun i=>[(0,srd x.1 (iG i)),(3,Ab i.2.2.2.2.1)],als:=[],meas:=fun i=>i.2.2.2.2.2}
theorem a2F(n:Nat)(h:Aj G Go.Proofs.Tryz.prog 108 (Jp n)):Aj G Tryz.prog 75 (HS n):=
 vcFun_okP [(72,0,BO),(73,0,Cc),(40,0,FH),(108,0,(Jp n)),(42,0,Eh),(43,0,Bq)] [(45,⟨Int,Bb⟩)] false (fun x=>[(6,Kn n x)]) Tryz.func75 rfl (by decide) ⟨HN,Hj,Rf,h,Rh,Hk,trivial⟩ (fun(x:ST×Int×Int×Bool×List Nd)=>True∧cA BO [srd x.1 (xg x),.str #[(123:UInt8)].toList] fun x_1 y=>inR IntKind.i64 ((Al x_1.1.sg (xh x_1) x_1.2.2.2.2.2).deep+(1:Int))∧Aa (decide ((Al x_1.1.sg (xh x_1) x_1.2.2.2.2.2).deep+(1:Int)>(20:Int))) (eA (Kn n x) [.box 0 [sgs x_1.1.sg,.int .i64 (Al x_1.1.sg (xh x_1) x_1.2.2.2.2.2).pos,.bool true,.int .i64 ((Al x_1.1.sg (xh x_1) x_1.2.2.2.2.2).deep+(1:Int)),Au (Al x_1.1.sg (xh x_1) x_1.2.2.2.2.2).nodes],Ab []]∧∀(i:Int×Int×Bool×List Nd×List Int×Nat),mbS x.1.sg n (xg x) (iG i) i.2.2.2.2.1 i.2.2.2.2.2→Aa (!(iG i).bad) (cA Cc [srd x.1 (iG i),.str #[(125:UInt8)].toList] fun x_2 y=>Aa (!isG x_2.1.sg (xh x_2) (4:Int) x_2.2.2.2.2.2) (cA FH [srd x_2.1 (Ah x_2.1.sg (xh x_2) x_2.2.2.2.2.2)] fun x_3 y=>Aa (blG x_3.1.sg (xg x_3)) (cA (Jp n) [srd x_3.1 (xg x_3)] fun x_4 y=>cA Eh [srd x_4.1 (yG y.2),.int .i64 y.1,.bool (decide ((↑(List.length i.2.2.2.2.1):Int)>(0:Int)))] fun x_5 y_1=>∃(x_6:Int),y.1=x_6∧∃(zs:List Int),Ab [x_6]=Ab zs∧Be Bb∧AS (List.length i.2.2.2.2.1+List.length zs) (8:Nat)∧eN (Kn n x) i [srd x_5.1 (gBl (xh x_5) x_5.2.2.2.2.2.1 x_5.2.2.2.2.2.2),Ab (i.2.2.2.2.1++zs)]) (cA (Jp n) [srd x_3.1 (xg x_3)] fun x_4 y=>cA Eh [srd x_4.1 (yG y.2),.int .i64 y.1,.bool false] fun x_5 y_1=>∃(x_6:Int),y.1=x_6∧∃(zs:List Int),Ab [x_6]=Ab zs∧Be Bb∧AS (List.length i.2.2.2.2.1+List.length zs) (8:Nat)∧eN (Kn n x) i [srd x_5.1 (gBl (xh x_5) x_5.2.2.2.2.2.1 x_5.2.2.2.2.2.2),Ab (i.2.2.2.2.1++zs)])) (inR IntKind.i64 ((Ah x_2.1.sg (xh x_2) x_2.2.2.2.2.2).deep-(1:Int))∧cA Bq [.box 0 [sgs x_2.1.sg,.int .i64 (Ah x_2.1.sg (xh x_2) x_2.2.2.2.2.2).pos,.bool (Ah x_2.1.sg (xh x_2) x_2.2.2.2.2.2).bad,.int .i64 ((Ah x_2.1.sg (xh x_2) x_2.2.2.2.2.2).deep-(1:Int)),Au (Ah x_2.1.sg (xh x_2) x_2.2.2.2.2.2).nodes],.int .i64 (18:Int),.str #[].toList,Ab i.2.2.2.2.1] fun x_3 y=>rA (HS n) x [.int .i64 (Ax (xh x_3)),srd x_3.1 (Ag (xh x_3) {kind:=x_3.2.2.2.2.2.1,text:=x_3.2.2.2.2.2.2.1,kids:=x_3.2.2.2.2.2.2.2,blank:=false})])) (inR IntKind.i64 ((iG i).deep-(1:Int))∧cA Bq [.box 0 [sgs x.1.sg,.int .i64 (iG i).pos,.bool (iG i).bad,.int .i64 ((iG i).deep-(1:Int)),Au (iG i).nodes],.int .i64 (18:Int),.str #[].toList,Ab i.2.2.2.2.1] fun x_2 y=>rA (HS n) x [.int .i64 (Ax (xh x_2)),srd x_2.1 (Ag (xh x_2) {kind:=x_2.2.2.2.2.2.1,text:=x_2.2.2.2.2.2.2.1,kids:=x_2.2.2.2.2.2.2.2,blank:=false})])) (eA (Kn n x) [.box 0 [sgs x_1.1.sg,.int .i64 (Al x_1.1.sg (xh x_1) x_1.2.2.2.2.2).pos,.bool (Al x_1.1.sg (xh x_1) x_1.2.2.2.2.2).bad,.int .i64 ((Al x_1.1.sg (xh x_1) x_1.2.2.2.2.2).deep+(1:Int)),Au (Al x_1.1.sg (xh x_1) x_1.2.2.2.2.2).nodes],Ab []]∧∀(i:Int×Int×Bool×List Nd×List Int×Nat),mbS x.1.sg n (xg x) (iG i) i.2.2.2.2.1 i.2.2.2.2.2→Aa (!(iG i).bad) (cA Cc [srd x.1 (iG i),.str #[(125:UInt8)].toList] fun x_2 y=>Aa (!isG x_2.1.sg (xh x_2) (4:Int) x_2.2.2.2.2.2) (cA FH [srd x_2.1 (Ah x_2.1.sg (xh x_2) x_2.2.2.2.2.2)] fun x_3 y=>Aa (blG x_3.1.sg (xg x_3)) (cA (Jp n) [srd x_3.1 (xg x_3)] fun x_4 y=>cA Eh [srd x_4.1 (yG y.2),.int .i64 y.1,.bool (decide ((↑(List.length i.2.2.2.2.1):Int)>(0:Int)))] fun x_5 y_1=>∃(x_6:Int),y.1=x_6∧∃(zs:List Int),Ab [x_6]=Ab zs∧Be Bb∧AS (List.length i.2.2.2.2.1+List.length zs) (8:Nat)∧eN (Kn n x) i [srd x_5.1 (gBl (xh x_5) x_5.2.2.2.2.2.1 x_5.2.2.2.2.2.2),Ab (i.2.2.2.2.1++zs)]) (cA (Jp n) [srd x_3.1 (xg x_3)] fun x_4 y=>cA Eh [srd x_4.1 (yG y.2),.int .i64 y.1,.bool false] fun x_5 y_1=>∃(x_6:Int),y.1=x_6∧∃(zs:List Int),Ab [x_6]=Ab zs∧Be Bb∧AS (List.length i.2.2.2.2.1+List.length zs) (8:Nat)∧eN (Kn n x) i [srd x_5.1 (gBl (xh x_5) x_5.2.2.2.2.2.1 x_5.2.2.2.2.2.2),Ab (i.2.2.2.2.1++zs)])) (inR IntKind.i64 ((Ah x_2.1.sg (xh x_2) x_2.2.2.2.2.2).deep-(1:Int))∧cA Bq [.box 0 [sgs x_2.1.sg,.int .i64 (Ah x_2.1.sg (xh x_2) x_2.2.2.2.2.2).pos,.bool (Ah x_2.1.sg (xh x_2) x_2.2.2.2.2.2).bad,.int .i64 ((Ah x_2.1.sg (xh x_2) x_2.2.2.2.2.2).deep-(1:Int)),Au (Ah x_2.1.sg (xh x_2) x_2.2.2.2.2.2).nodes],.int .i64 (18:Int),.str #[].toList,Ab i.2.2.2.2.1] fun x_3 y=>rA (HS n) x [.int .i64 (Ax (xh x_3)),srd x_3.1 (Ag (xh x_3) {kind:=x_3.2.2.2.2.2.1,text:=x_3.2.2.2.2.2.2.1,kids:=x_3.2.2.2.2.2.2.2,blank:=false})])) (inR IntKind.i64 ((iG i).deep-(1:Int))∧cA Bq [.box 0 [sgs x.1.sg,.int .i64 (iG i).pos,.bool (iG i).bad,.int .i64 ((iG i).deep-(1:Int)),Au (iG i).nodes],.int .i64 (18:Int),.str #[].toList,Ab i.2.2.2.2.1] fun x_2 y=>rA (HS n) x [.int .i64 (Ax (xh x_2)),srd x_2.1 (Ag (xh x_2) {kind:=x_2.2.2.2.2.2.1,text:=x_2.2.2.2.2.2.2.1,kids:=x_2.2.2.2.2.2.2.2,blank:=false})]))) (fun x=>by kernel_rfl) fun(x:ST×Int×Int×Bool×List Nd) (hx:okQ x.1 (xg x)∧20-(xg x).deep≤(n:Int))=>(by
 dsimp only[cA,eA,eN,Kn,Bg,Ab,Au,rA,FH,Eh,HS,Cc,Bq,Jp,BO,Bj,sgs,srd,Av,AB,mvL,lnL,mvE,lnE,Bw]
 obtain⟨s,p,d,b,ns⟩:=x;dsimp only[xg,xh] at hx ⊢
 obtain⟨hx,hn⟩:=hx
 have hx:okQ s ⟨p,d,b,ns⟩:=hx
 have hD:=EA hx;have hM:=MR hx;have h1:=hD.1
 have td:=b2M hx
 (repeat' first|(with_reducible first|rfl|exact True.intro|apply AK|apply And.intro|((first|apply Az|apply AI|apply AA|apply AJ)<;>intro _))|(apply Aw<;>intro _)|apply AH|refine Ae () ?_ ?_|((first|apply AO|apply AN|apply AM|apply AL|apply AG|apply AF|apply AE|apply AD|apply AC)<;>try dsimp only)|apply Ae|(refine Prod.forall.2 ?_;intro _;try dsimp only)|(intro _;try dsimp only))
 all_goals(try dsimp only[xg,xh,yG,yS,iG,iF] at*)
 all_goals(try simp only[CN] at*)
 all_goals first
  |(show Nat;skip)
  |rfl
  |exact h1
  |exact b2K hx ‹_›
  |exact b2L hx ‹_›
  |exact Rx hx ‹_›
  |exact Fp (Rx hx ‹_›)
  |exact(VI hx hn ‹_› ‹_› ‹_›).1
  |exact(VI hx hn ‹_› ‹_› ‹_›).2.1
  |exact(VI hx hn ‹_› ‹_› ‹_›).2.2
  |exact Dr h1 ‹_›
  |exact MQ VC ‹_›
  |exact MQ VC ‹_› ‹_›
  |exact(Ry ‹_› ‹_› ‹_› ‹_› (GE ‹_›)).1
  |exact(Ry ‹_› ‹_› ‹_› ‹_› (GF ‹_›)).1
  |exact b2N hx ‹_› ‹_›
  |exact b2O hx ‹_› ‹_›
  |exact(VK hx ‹_›).2.1
  |exact(VK hx ‹_›).2.2.1
  |(simp [AS];done)
  |(have hq:=VJ hx (show mbS _ _ _ _ _ _ by assumption);(try simp only[AS,List.length_append,List.length_cons,List.length_nil]);omega)
  |(have hq:=VK hx (show mbS _ _ _ _ _ _ by assumption);(try dsimp only at hq);(try simp only[AR]);omega)
  |((try simp only[AR]);omega)
  |skip
 all_goals first
  |exact(Ry ‹_› ‹_› ‹_› ‹_› (GE ‹_›)).2
  |exact(Ry ‹_› ‹_› ‹_› ‹_› (GF ‹_›)).2
  |skip)
def Gk(n:Nat):Sig:= {X:=ST×Int×Int×Bool×List Nd,args:=fun x=>[srd x.1 (xg x)],pre:=fun x=>(okQ x.1 (xg x)∧(xg x).bad=false)∧21-(xg x).deep≤(n+1:Nat),Y:=Int×Int×Int×Bool×List Nd,post:=fun x y=>Af x.1.sg (xg x) (stR x.1.sg (n+1) false) (yS y),res:=fun x y=> .int .i64 y.1,outs:=fun x y=>[srd x.1 (yG y.2)],keep:=true}
theorem b3j(n:Nat)(h:Aj G Go.Proofs.Tryz.prog 108 (Jp n)):Aj G Tryz.prog 108 (Gk n):=
 vcFun_okP [(68,0,IA),(69,0,CG),(43,0,Bq),(70,0,EL),(71,0,GJ),(106,0,DW),(107,0,FI),(72,0,BO),(144,0,LD),(75,0,(HS n))] [(45,⟨Int,Bb⟩)] false (fun x=>[]) Tryz.func108 rfl (by decide) ⟨b3h,Kl,Hk,Ve,VL,Ow,Vx,HN,b3i,(a2F n h),trivial⟩ (fun(x:ST×Int×Int×Bool×List Nd)=>True∧cA IA [srd x.1 (xg x),.int .i64 (5:Int)] fun x_1 y=>Aa (kdG x_1.1.sg (xh x_1) x_1.2.2.2.2.2) (cA CG [srd x.1 (xg x),.int .i64 (5:Int)] fun x_2 y=>cA Bq [srd x_2.1 (Bf x_2.1.sg (xh x_2) x_2.2.2.2.2.2),.int .i64 (19:Int),.str (BA x_2.1.sg (xh x_2) x_2.2.2.2.2.2),Ab []] fun x_3 y=>rA (Gk n) x [.int .i64 (Ax (xh x_3)),srd x_3.1 (Ag (xh x_3) {kind:=x_3.2.2.2.2.2.1,text:=x_3.2.2.2.2.2.2.1,kids:=x_3.2.2.2.2.2.2.2,blank:=false})]) (cA EL [srd x.1 (xg x),.str #[(118:UInt8),(97:UInt8),(114:UInt8)].toList] fun x_2 y=>Aa (isG x_2.1.sg (xh x_2) (1:Int) x_2.2.2.2.2.2) (cA GJ [srd x_2.1 (BI x_2.1.sg (xh x_2) x_2.2.2.2.2.2)] fun x_3 y=>rA (Gk n) x [.int .i64 y.1,srd x_3.1 (yG y.2)]) (cA EL [srd x_2.1 (BI x_2.1.sg (xh x_2) x_2.2.2.2.2.2),.str #[(114:UInt8),(101:UInt8),(116:UInt8),(117:UInt8),(114:UInt8),(110:UInt8)].toList] fun x_3 y=>Aa (isG x_3.1.sg (xh x_3) (1:Int) x_3.2.2.2.2.2) (cA DW [srd x_3.1 (BI x_3.1.sg (xh x_3) x_3.2.2.2.2.2),.int .i64 (4:Int),.str #[(59:UInt8)].toList] fun x_4 y=>Aa (!isG x_4.1.sg (xh x_4) x_4.2.2.2.2.2.1 x_4.2.2.2.2.2.2) (cA FI [srd x_4.1 (xh x_4)] fun x_5 y=>∃(x_6:Int),y.1=x_6∧∃(zs:List Int),Ab [x_6]=Ab zs∧Be Bb∧AS ((0:Nat)+List.length zs) (8:Nat)∧cA BO [srd x_5.1 (yG y.2),.str #[(59:UInt8)].toList] fun x_7 y=>cA Bq [srd x_7.1 (Al x_7.1.sg (xh x_7) x_7.2.2.2.2.2),.int .i64 (15:Int),.str #[].toList,Ab ([]++zs)] fun x_8 y=>rA (Gk n) x [.int .i64 (Ax (xh x_8)),srd x_8.1 (Ag (xh x_8) {kind:=x_8.2.2.2.2.2.1,text:=x_8.2.2.2.2.2.2.1,kids:=x_8.2.2.2.2.2.2.2,blank:=false})]) (cA BO [srd x_4.1 (xh x_4),.str #[(59:UInt8)].toList] fun x_5 y=>cA Bq [srd x_5.1 (Al x_5.1.sg (xh x_5) x_5.2.2.2.2.2),.int .i64 (15:Int),.str #[].toList,Ab []] fun x_6 y=>rA (Gk n) x [.int .i64 (Ax (xh x_6)),srd x_6.1 (Ag (xh x_6) {kind:=x_6.2.2.2.2.2.1,text:=x_6.2.2.2.2.2.2.1,kids:=x_6.2.2.2.2.2.2.2,blank:=false})])) (cA EL [srd x_3.1 (BI x_3.1.sg (xh x_3) x_3.2.2.2.2.2),.str #[(105:UInt8),(102:UInt8)].toList] fun x_4 y=>Aa (isG x_4.1.sg (xh x_4) (1:Int) x_4.2.2.2.2.2) (cA LD [srd x_4.1 (BI x_4.1.sg (xh x_4) x_4.2.2.2.2.2)] fun x_5 y=>∃(x_6:Int),y.1=x_6∧cA (HS n) [srd x_5.1 (yG y.2)] fun x_7 y=>∃(x_8:Int),y.1=x_8∧∃(zs:List Int),Ab [x_8]=Ab zs∧Be Bb∧AS (List.length [x_6]+List.length zs) (8:Nat)∧cA EL [srd x_7.1 (yG y.2),.str #[(101:UInt8),(108:UInt8),(115:UInt8),(101:UInt8)].toList] fun x_9 y=>Aa (isG x_9.1.sg (xh x_9) (1:Int) x_9.2.2.2.2.2) (cA (HS n) [srd x_9.1 (BI x_9.1.sg (xh x_9) x_9.2.2.2.2.2)] fun x_10 y=>∃(x_11:Int),y.1=x_11∧∃(zs_1:List Int),Ab [x_11]=Ab zs_1∧Be Bb∧AS (List.length (x_6::List.append._f [] PUnit.unit zs)+List.length zs_1) (8:Nat)∧cA Bq [srd x_10.1 (yG y.2),.int .i64 (16:Int),.str #[].toList,Ab (x_6::List.append._f [] PUnit.unit zs++zs_1)] fun x_12 y=>rA (Gk n) x [.int .i64 (Ax (xh x_12)),srd x_12.1 (Ag (xh x_12) {kind:=x_12.2.2.2.2.2.1,text:=x_12.2.2.2.2.2.2.1,kids:=x_12.2.2.2.2.2.2.2,blank:=false})]) (cA Bq [srd x_9.1 (BI x_9.1.sg (xh x_9) x_9.2.2.2.2.2),.int .i64 (16:Int),.str #[].toList,Ab ([x_6]++zs)] fun x_10 y=>rA (Gk n) x [.int .i64 (Ax (xh x_10)),srd x_10.1 (Ag (xh x_10) {kind:=x_10.2.2.2.2.2.1,text:=x_10.2.2.2.2.2.2.1,kids:=x_10.2.2.2.2.2.2.2,blank:=false})])) (cA EL [srd x_4.1 (BI x_4.1.sg (xh x_4) x_4.2.2.2.2.2),.str #[(119:UInt8),(104:UInt8),(105:UInt8),(108:UInt8),(101:UInt8)].toList] fun x_5 y=>Aa (isG x_5.1.sg (xh x_5) (1:Int) x_5.2.2.2.2.2) (cA LD [srd x_5.1 (BI x_5.1.sg (xh x_5) x_5.2.2.2.2.2)] fun x_6 y=>∃(x_7:Int),y.1=x_7∧cA (HS n) [srd x_6.1 (yG y.2)] fun x_8 y=>∃(x_9:Int),y.1=x_9∧∃(zs:List Int),Ab [x_9]=Ab zs∧Be Bb∧AS (List.length [x_7]+List.length zs) (8:Nat)∧cA Bq [srd x_8.1 (yG y.2),.int .i64 (17:Int),.str #[].toList,Ab ([x_7]++zs)] fun x_10 y=>rA (Gk n) x [.int .i64 (Ax (xh x_10)),srd x_10.1 (Ag (xh x_10) {kind:=x_10.2.2.2.2.2.1,text:=x_10.2.2.2.2.2.2.1,kids:=x_10.2.2.2.2.2.2.2,blank:=false})]) (true=true∧true=true∧∃(x_6:ST×Int×Int×Bool×List Nd×Int),(rOk x_6.1 (xh x_6)∧x_6.2.2.2.2.2≠(0:Int))∧AV.pf [AV.sl false (0:Nat) (4:Nat) Sg (fun(x:Sg)=>fzL._f [.int .i64 x.kind,.str x.text,.int .i64 x.pos,.bool x.blank] ⟨AV.rec (fun(k:IntKind) (n:Int)=>⟨fz._f (AV.int k n) PUnit.unit,PUnit.unit⟩) (fun(b:Bool)=>⟨fz._f (.bool b) PUnit.unit,PUnit.unit⟩) (fun(l:List UInt8)=>⟨fz._f (.str l) PUnit.unit,PUnit.unit⟩) (fun(v:Value)=>⟨fz._f (.val v) PUnit.unit,PUnit.unit⟩) ⟨fz._f AV.any PUnit.unit,PUnit.unit⟩ ⟨fz._f .top PUnit.unit,PUnit.unit⟩ ⟨fz._f .nil PUnit.unit,PUnit.unit⟩ (fun(id:Nat)=>⟨fz._f (AV.hole id) PUnit.unit,PUnit.unit⟩) (fun(id:Nat)=>⟨fz._f (AV.al id) PUnit.unit,PUnit.unit⟩) (fun(id k sz off:Nat)=>⟨fz._f (AV.po id k sz off) PUnit.unit,PUnit.unit⟩) (fun(fs:List AV) (fs_ih:List AV×' AV.below_1 fs)=>⟨fz._f (.agg fs) fs_ih,fs_ih⟩) (fun(vs:List AV) (vs_ih:List AV×' AV.below_1 vs)=>⟨fz._f (.tup vs) vs_ih,vs_ih⟩) (fun(id:Nat) (c:List AV) (c_ih:List AV×' AV.below_1 c)=>⟨fz._f (.box id c) c_ih,c_ih⟩) (fun(x:Value) (c:List AV) (c_ih:List AV×' AV.below_1 c)=>⟨fz._f (AV.bv x c) c_ih,c_ih⟩) (fun(x:Value)=>⟨fz._f (AV.hv x) PUnit.unit,PUnit.unit⟩) (fun(c:List AV) (c_ih:List AV×' AV.below_1 c)=>⟨fz._f (AV.pf c) c_ih,c_ih⟩) (fun(fn:Fn) (caps:List AV) (caps_ih:List AV×' AV.below_1 caps)=>⟨fz._f (AV.clo fn caps) caps_ih,caps_ih⟩) (fun(own:Bool) (id sz:Nat) (α:Type) (f:α→List AV) (xs:List α) (f_ih:(a:α)→List AV×' AV.below_1 (f a))=>⟨fz._f (AV.sl own id sz α f xs) f_ih,f_ih⟩) ⟨fzL._f [] PUnit.unit,PUnit.unit⟩ (fun(head:AV) (tail:List AV) (head_ih:AV×' AV.below head) (tail_ih:List AV×' AV.below_1 tail)=>⟨fzL._f (head::tail) ⟨head_ih,tail_ih⟩,head_ih,tail_ih⟩) (.int .i64 x.kind),AV.rec_1 (fun(k:IntKind) (n:Int)=>⟨fz._f (AV.int k n) PUnit.unit,PUnit.unit⟩) (fun(b:Bool)=>⟨fz._f (.bool b) PUnit.unit,PUnit.unit⟩) (fun(l:List UInt8)=>⟨fz._f (.str l) PUnit.unit,PUnit.unit⟩) (fun(v:Value)=>⟨fz._f (.val v) PUnit.unit,PUnit.unit⟩) ⟨fz._f AV.any PUnit.unit,PUnit.unit⟩ ⟨fz._f .top PUnit.unit,PUnit.unit⟩ ⟨fz._f .nil PUnit.unit,PUnit.unit⟩ (fun(id:Nat)=>⟨fz._f (AV.hole id) PUnit.unit,PUnit.unit⟩) (fun(id:Nat)=>⟨fz._f (AV.al id) PUnit.unit,PUnit.unit⟩) (fun(id k sz off:Nat)=>⟨fz._f (AV.po id k sz off) PUnit.unit,PUnit.unit⟩) (fun(fs:List AV) (fs_ih:List AV×' AV.below_1 fs)=>⟨fz._f (.agg fs) fs_ih,fs_ih⟩) (fun(vs:List AV) (vs_ih:List AV×' AV.below_1 vs)=>⟨fz._f (.tup vs) vs_ih,vs_ih⟩) (fun(id:Nat) (c:List AV) (c_ih:List AV×' AV.below_1 c)=>⟨fz._f (.box id c) c_ih,c_ih⟩) (fun(x:Value) (c:List AV) (c_ih:List AV×' AV.below_1 c)=>⟨fz._f (AV.bv x c) c_ih,c_ih⟩) (fun(x:Value)=>⟨fz._f (AV.hv x) PUnit.unit,PUnit.unit⟩) (fun(c:List AV) (c_ih:List AV×' AV.below_1 c)=>⟨fz._f (AV.pf c) c_ih,c_ih⟩) (fun(fn:Fn) (caps:List AV) (caps_ih:List AV×' AV.below_1 caps)=>⟨fz._f (AV.clo fn caps) caps_ih,caps_ih⟩) (fun(own:Bool) (id sz:Nat) (α:Type) (f:α→List AV) (xs:List α) (f_ih:(a:α)→List AV×' AV.below_1 (f a))=>⟨fz._f (AV.sl own id sz α f xs) f_ih,f_ih⟩) ⟨fzL._f [] PUnit.unit,PUnit.unit⟩ (fun(head:AV) (tail:List AV) (head_ih:AV×' AV.below head) (tail_ih:List AV×' AV.below_1 tail)=>⟨fzL._f (head::tail) ⟨head_ih,tail_ih⟩,head_ih,tail_ih⟩) [.str x.text,.int .i64 x.pos,.bool x.blank]⟩) x_5.1.sg,.int .i64 (BI x_5.1.sg (xh x_5) x_5.2.2.2.2.2).pos,.bool (BI x_5.1.sg (xh x_5) x_5.2.2.2.2.2).bad,.int .i64 (BI x_5.1.sg (xh x_5) x_5.2.2.2.2.2).deep,AV.sl false (0:Nat) (4:Nat) Nd (fun(x:Nd)=>fzL._f [.int .i64 x.kind,.str x.text,Ab x.kids,.bool x.blank] ⟨AV.rec (fun(k:IntKind) (n:Int)=>⟨fz._f (AV.int k n) PUnit.unit,PUnit.unit⟩) (fun(b:Bool)=>⟨fz._f (.bool b) PUnit.unit,PUnit.unit⟩) (fun(l:List UInt8)=>⟨fz._f (.str l) PUnit.unit,PUnit.unit⟩) (fun(v:Value)=>⟨fz._f (.val v) PUnit.unit,PUnit.unit⟩) ⟨fz._f AV.any PUnit.unit,PUnit.unit⟩ ⟨fz._f .top PUnit.unit,PUnit.unit⟩ ⟨fz._f .nil PUnit.unit,PUnit.unit⟩ (fun(id:Nat)=>⟨fz._f (AV.hole id) PUnit.unit,PUnit.unit⟩) (fun(id:Nat)=>⟨fz._f (AV.al id) PUnit.unit,PUnit.unit⟩) (fun(id k sz off:Nat)=>⟨fz._f (AV.po id k sz off) PUnit.unit,PUnit.unit⟩) (fun(fs:List AV) (fs_ih:List AV×' AV.below_1 fs)=>⟨fz._f (.agg fs) fs_ih,fs_ih⟩) (fun(vs:List AV) (vs_ih:List AV×' AV.below_1 vs)=>⟨fz._f (.tup vs) vs_ih,vs_ih⟩) (fun(id:Nat) (c:List AV) (c_ih:List AV×' AV.below_1 c)=>⟨fz._f (.box id c) c_ih,c_ih⟩) (fun(x:Value) (c:List AV) (c_ih:List AV×' AV.below_1 c)=>⟨fz._f (AV.bv x c) c_ih,c_ih⟩) (fun(x:Value)=>⟨fz._f (AV.hv x) PUnit.unit,PUnit.unit⟩) (fun(c:List AV) (c_ih:List AV×' AV.below_1 c)=>⟨fz._f (AV.pf c) c_ih,c_ih⟩) (fun(fn:Fn) (caps:List AV) (caps_ih:List AV×' AV.below_1 caps)=>⟨fz._f (AV.clo fn caps) caps_ih,caps_ih⟩) (fun(own:Bool) (id sz:Nat) (α:Type) (f:α→List AV) (xs:List α) (f_ih:(a:α)→List AV×' AV.below_1 (f a))=>⟨fz._f (AV.sl own id sz α f xs) f_ih,f_ih⟩) ⟨fzL._f [] PUnit.unit,PUnit.unit⟩ (fun(head:AV) (tail:List AV) (head_ih:AV×' AV.below head) (tail_ih:List AV×' AV.below_1 tail)=>⟨fzL._f (head::tail) ⟨head_ih,tail_ih⟩,head_ih,tail_ih⟩) (.int .i64 x.kind),AV.rec_1 (fun(k:IntKind) (n:Int)=>⟨fz._f (AV.int k n) PUnit.unit,PUnit.unit⟩) (fun(b:Bool)=>⟨fz._f (.bool b) PUnit.unit,PUnit.unit⟩) (fun(l:List UInt8)=>⟨fz._f (.str l) PUnit.unit,PUnit.unit⟩) (fun(v:Value)=>⟨fz._f (.val v) PUnit.unit,PUnit.unit⟩) ⟨fz._f AV.any PUnit.unit,PUnit.unit⟩ ⟨fz._f .top PUnit.unit,PUnit.unit⟩ ⟨fz._f .nil PUnit.unit,PUnit.unit⟩ (fun(id:Nat)=>⟨fz._f (AV.hole id) PUnit.unit,PUnit.unit⟩) (fun(id:Nat)=>⟨fz._f (AV.al id) PUnit.unit,PUnit.unit⟩) (fun(id k sz off:Nat)=>⟨fz._f (AV.po id k sz off) PUnit.unit,PUnit.unit⟩) (fun(fs:List AV) (fs_ih:List AV×' AV.below_1 fs)=>⟨fz._f (.agg fs) fs_ih,fs_ih⟩) (fun(vs:List AV) (vs_ih:List AV×' AV.below_1 vs)=>⟨fz._f (.tup vs) vs_ih,vs_ih⟩) (fun(id:Nat) (c:List AV) (c_ih:List AV×' AV.below_1 c)=>⟨fz._f (.box id c) c_ih,c_ih⟩) (fun(x:Value) (c:List AV) (c_ih:List AV×' AV.below_1 c)=>⟨fz._f (AV.bv x c) c_ih,c_ih⟩) (fun(x:Value)=>⟨fz._f (AV.hv x) PUnit.unit,PUnit.unit⟩) (fun(c:List AV) (c_ih:List AV×' AV.below_1 c)=>⟨fz._f (AV.pf c) c_ih,c_ih⟩) (fun(fn:Fn) (caps:List AV) (caps_ih:List AV×' AV.below_1 caps)=>⟨fz._f (AV.clo fn caps) caps_ih,caps_ih⟩) (fun(own:Bool) (id sz:Nat) (α:Type) (f:α→List AV) (xs:List α) (f_ih:(a:α)→List AV×' AV.below_1 (f a))=>⟨fz._f (AV.sl own id sz α f xs) f_ih,f_ih⟩) ⟨fzL._f [] PUnit.unit,PUnit.unit⟩ (fun(head:AV) (tail:List AV) (head_ih:AV×' AV.below head) (tail_ih:List AV×' AV.below_1 tail)=>⟨fzL._f (head::tail) ⟨head_ih,tail_ih⟩,head_ih,tail_ih⟩) [.str x.text,Ab x.kids,.bool x.blank]⟩) (BI x_5.1.sg (xh x_5) x_5.2.2.2.2.2).nodes]=AV.pf [sgs x_6.1.sg,.int .i64 (xh x_6).pos,.bool (xh x_6).bad,.int .i64 (xh x_6).deep,nds (xh x_6).nodes]∧(1:Int)=x_6.2.2.2.2.2∧∃(y0:Unit),(∀(y:Unit),True→AV.bool (kdG x_6.1.sg (xh x_6) x_6.2.2.2.2.2)=AV.bool (kdG x_6.1.sg (xh x_6) x_6.2.2.2.2.2))∧true=true∧Aa (kdG x_6.1.sg (xh x_6) x_6.2.2.2.2.2) (inR IntKind.i64 ((BI x_5.1.sg (xh x_5) x_5.2.2.2.2.2).pos+(1:Int))∧Aa (decide ((BI x_5.1.sg (xh x_5) x_5.2.2.2.2.2).pos+(1:Int)<(↑(List.length x_5.1.sg):Int))) (inR IntKind.i64 ((BI x_5.1.sg (xh x_5) x_5.2.2.2.2.2).pos+(1:Int))∧((0:Int)≤(BI x_5.1.sg (xh x_5) x_5.2.2.2.2.2).pos+(1:Int)∧(BI x_5.1.sg (xh x_5) x_5.2.2.2.2.2).pos+(1:Int)<(↑(List.length x_5.1.sg):Int))∧∀(e:Sg),x_5.1.sg[Int.toNat ((BI x_5.1.sg (xh x_5) x_5.2.2.2.2.2).pos+(1:Int))]? =some e→Aa (e.kind==(4:Int)) (inR IntKind.i64 ((BI x_5.1.sg (xh x_5) x_5.2.2.2.2.2).pos+(1:Int))∧((0:Int)≤(BI x_5.1.sg (xh x_5) x_5.2.2.2.2.2).pos+(1:Int)∧(BI x_5.1.sg (xh x_5) x_5.2.2.2.2.2).pos+(1:Int)<(↑(List.length x_5.1.sg):Int))∧∀(e:Sg),x_5.1.sg[Int.toNat ((BI x_5.1.sg (xh x_5) x_5.2.2.2.2.2).pos+(1:Int))]? =some e→Aa (e.text== #[(61:UInt8)].toList) (cA CG [srd x_5.1 (BI x_5.1.sg (xh x_5) x_5.2.2.2.2.2),.int .i64 (1:Int)] fun x_7 y=>cA BO [srd x_7.1 (Bf x_7.1.sg (xh x_7) x_7.2.2.2.2.2),.str #[(61:UInt8)].toList] fun x_8 y=>cA FI [srd x_8.1 (Al x_8.1.sg (xh x_8) x_8.2.2.2.2.2)] fun x_9 y=>cA BO [srd x_9.1 (yG y.2),.str #[(59:UInt8)].toList] fun x_10 y_1=>∃(x_11:Int),y.1=x_11∧cA Bq [srd x_10.1 (Al x_10.1.sg (xh x_10) x_10.2.2.2.2.2),.int .i64 (13:Int),.str (BA x_7.1.sg (xh x_7) x_7.2.2.2.2.2),Ab [x_11]] fun x_12 y=>rA (Gk n) x [.int .i64 (Ax (xh x_12)),srd x_12.1 (Ag (xh x_12) {kind:=x_12.2.2.2.2.2.1,text:=x_12.2.2.2.2.2.2.1,kids:=x_12.2.2.2.2.2.2.2,blank:=false})]) (cA FI [srd x_5.1 (BI x_5.1.sg (xh x_5) x_5.2.2.2.2.2)] fun x_7 y=>cA BO [srd x_7.1 (yG y.2),.str #[(59:UInt8)].toList] fun x_8 y_1=>∃(x_9:Int),y.1=x_9∧cA Bq [srd x_8.1 (Al x_8.1.sg (xh x_8) x_8.2.2.2.2.2),.int .i64 (14:Int),.str #[].toList,Ab [x_9]] fun x_10 y=>rA (Gk n) x [.int .i64 (Ax (xh x_10)),srd x_10.1 (Ag (xh x_10) {kind:=x_10.2.2.2.2.2.1,text:=x_10.2.2.2.2.2.2.1,kids:=x_10.2.2.2.2.2.2.2,blank:=false})])) (cA FI [srd x_5.1 (BI x_5.1.sg (xh x_5) x_5.2.2.2.2.2)] fun x_7 y=>cA BO [srd x_7.1 (yG y.2),.str #[(59:UInt8)].toList] fun x_8 y_1=>∃(x_9:Int),y.1=x_9∧cA Bq [srd x_8.1 (Al x_8.1.sg (xh x_8) x_8.2.2.2.2.2),.int .i64 (14:Int),.str #[].toList,Ab [x_9]] fun x_10 y=>rA (Gk n) x [.int .i64 (Ax (xh x_10)),srd x_10.1 (Ag (xh x_10) {kind:=x_10.2.2.2.2.2.1,text:=x_10.2.2.2.2.2.2.1,kids:=x_10.2.2.2.2.2.2.2,blank:=false})])) (cA FI [srd x_5.1 (BI x_5.1.sg (xh x_5) x_5.2.2.2.2.2)] fun x_7 y=>cA BO [srd x_7.1 (yG y.2),.str #[(59:UInt8)].toList] fun x_8 y_1=>∃(x_9:Int),y.1=x_9∧cA Bq [srd x_8.1 (Al x_8.1.sg (xh x_8) x_8.2.2.2.2.2),.int .i64 (14:Int),.str #[].toList,Ab [x_9]] fun x_10 y=>rA (Gk n) x [.int .i64 (Ax (xh x_10)),srd x_10.1 (Ag (xh x_10) {kind:=x_10.2.2.2.2.2.1,text:=x_10.2.2.2.2.2.2.1,kids:=x_10.2.2.2.2.2.2.2,blank:=false})])) (cA FI [srd x_5.1 (BI x_5.1.sg (xh x_5) x_5.2.2.2.2.2)] fun x_7 y=>cA BO [srd x_7.1 (yG y.2),.str #[(59:UInt8)].toList] fun x_8 y_1=>∃(x_9:Int),y.1=x_9∧cA Bq [srd x_8.1 (Al x_8.1.sg (xh x_8) x_8.2.2.2.2.2),.int .i64 (14:Int),.str #[].toList,Ab [x_9]] fun x_10 y=>rA (Gk n) x [.int .i64 (Ax (xh x_10)),srd x_10.1 (Ag (xh x_10) {kind:=x_10.2.2.2.2.2.1,text:=x_10.2.2.2.2.2.2.1,kids:=x_10.2.2.2.2.2.2.2,blank:=false})]))))))) (fun x=>by kernel_rfl) fun(x:ST×Int×Int×Bool×List Nd) (hx:(okQ x.1 (xg x)∧(xg x).bad=false)∧21-(xg x).deep≤(n+1:Nat))=>(by
 dsimp only[cA,Bg,nds,Ab,Au,rA,HS,LD,DW,IA,Bq,Gk,CG,FI,GJ,BO,EL,Bj,sgs,srd,srf,Av,AB,mvL,lnL,mvE,lnE]
 obtain⟨s,p,d,b,ns⟩:=x;dsimp only[xg,xh] at hx ⊢
 obtain⟨⟨hx,hb⟩,hd⟩:=hx
 have hx:okQ s ⟨p,d,b,ns⟩:=hx
 have hD:=EA hx;have hM:=MR hx;have h1:=hD.1
 (repeat' first|(show AV.pf _=AV.pf _;first|exact a2E|(with_unfolding_all exact a2E)|(with_unfolding_all rfl))|(with_reducible first|rfl|exact True.intro|apply AK|apply And.intro|((first|apply Az|apply AI|apply AA|apply AJ)<;>intro _))|(apply Aw<;>intro _)|apply AH|refine Ae () ?_ ?_|((first|apply AO|apply AN|apply AM|apply AL|apply AG|apply AF|apply AE|apply AD|apply AC)<;>try dsimp only)|apply Ae|(refine Prod.forall.2 ?_;intro _;try dsimp only)|(intro _;try dsimp only))
 all_goals(try dsimp only[xg,xh,yG,yS,iG,iF] at*)
 all_goals(try simp only[CN] at*)
 all_goals(try(have e:=Jn (show isG s.sg ⟨p,d,b,ns⟩ 1 [118,97,114]=false by assumption);simp only[e] at*))
 all_goals(try(have e:=Jo (show isG s.sg ⟨p,d,b,ns⟩ 1 [118,97,114]=true by assumption);simp only[e] at*))
 all_goals(try(have e:=Jn (show isG s.sg ⟨p,d,b,ns⟩ 1 [114,101,116,117,114,110]=false by assumption);simp only[e] at*))
 all_goals(try(have e:=Jo (show isG s.sg ⟨p,d,b,ns⟩ 1 [114,101,116,117,114,110]=true by assumption);simp only[e] at*))
 all_goals(try(have e:=Jn (show isG s.sg ⟨p,d,b,ns⟩ 1 [105,102]=false by assumption);simp only[e] at*))
 all_goals(try(have e:=Jo (show isG s.sg ⟨p,d,b,ns⟩ 1 [105,102]=true by assumption);simp only[e] at*))
 all_goals(try(have e:=Jn (show isG s.sg ⟨p,d,b,ns⟩ 1 [119,104,105,108,101]=false by assumption);simp only[e] at*))
 all_goals(try(have e:=Jo (show isG s.sg ⟨p,d,b,ns⟩ 1 [119,104,105,108,101]=true by assumption);simp only[e] at*))
 all_goals first
  |rfl
  |exact h1
  |exact hM
  |omega
  |(simp;done)
  |exact b2P hx ‹_›
  |exact Hl h1 (by omega)
  |exact Gj hx ‹_›
  |exact EA (Gj hx ‹_›)
  |exact(EA (Gj hx ‹_›)).1
  |exact b2Q hx ‹_› ‹_› ‹_›
  |exact b2S hx ‹_› ‹_› ‹_› ‹_› ‹_›
  |exact b2R hx ‹_› ‹_› ‹_› ‹_›
  |exact Dr h1 ‹_›
  |exact(Eg (Dr h1 ‹_›)).1
  |exact(Eg (EA (Gj hx ‹_›)).1).1
  |exact b3d hx ‹_› ‹_› ‹_› ‹_› ‹_› (b3c (x:=⟨p,d,b,ns⟩) hb ‹_› ‹_› (b2W ‹_› ‹_›) (b2Y ‹_› ‹_›)) ‹_›
  |exact Rz hx ‹_› ‹_› ‹_› ‹_› ‹_› (b3a ‹_›) ‹_›
  |exact Rz hx ‹_› ‹_› ‹_› ‹_› ‹_› (b3b (x:=⟨p,d,b,ns⟩) ‹_›) ‹_›
  |exact Rz hx ‹_› ‹_› ‹_› ‹_› ‹_› (a2z (x:=⟨p,d,b,ns⟩) hb ‹_› (.inl (b2X ‹_› ‹_›))) ‹_›
  |exact Rz hx ‹_› ‹_› ‹_› ‹_› ‹_› (a2z (x:=⟨p,d,b,ns⟩) hb ‹_› (.inr (b2Z ‹_› ‹_›))) ‹_›
  |(have hq:=DL h1;dsimp only at hq;(try simp only[AR]);omega)
  |exact(a2A hx).1
  |exact EA (a2A hx).2
  |exact hD
  |(simp [AS];done)
  |exact(show AS 2 8 by simp [AS])
  |exact(show AS 3 8 by simp [AS])
  |skip
 all_goals(try(have hc:=(show Bm s.sg (Ai ⟨p,d,b,ns⟩) (Dj s.sg) _ by assumption);have k0:=Gj hx (show isG s.sg ⟨p,d,b,ns⟩ 1 _=true by assumption);have k1:=b3e k0 hc;have k2:=b3f (n:=n) (x:=⟨p,d,b,ns⟩) hd hc))
 all_goals first
  |exact k1
  |exact k2
  |exact(EA (MS k1 ‹_›)).1
  |exact a2C (EA (MS k1 ‹_›)).1
  |exact Gj (MS k1 ‹_›) ‹_›
  |exact a2D (MS k1 ‹_›)
  |(have hh:=b3g (m:=[101,108,115,101]) k2 (show Af s.sg _ (BH s.sg _) _ by assumption);exact hh)
  |exact Dr h1 ‹_›
  |exact b2T hx ‹_› ‹_› ‹_› ‹_› ‹_› ‹_› ‹_›
  |exact b2U hx ‹_› ‹_› ‹_› ‹_› ‹_› ‹_› ‹_› ‹_›
  |exact b2V hx ‹_› ‹_› ‹_› ‹_› ‹_› ‹_› ‹_›
  |exact(EA (MS (a2D (MS k1 ‹_›)) ‹_›)).1
  |exact h1
  |skip)
end Go.My
end
section
set_option linter.unusedVariables false
set_option linter.unusedSimpArgs false
namespace Go.My
open Go.Eng Go.Proofs
variable {G:GInv}
theorem b3k(n:Nat):Aj G Go.Proofs.Tryz.prog 108 (Jp n):=by
 induction n with
 |zero=>exact Gg Tryz.func108 rfl (by decide) (fun x h=>by have h1:=h.1.1.1.2;have h2:=h.2;omega)
 |succ n ih=>exact b3j n ih
def LE:Sig:= {X:=ST×Int×Int×Bool×List Nd,args:=fun x=>[srd x.1 (xg x)],pre:=fun x=>okQ x.1 (xg x),Y:=Int×Int×Int×Bool×List Nd,post:=fun x y=>Af x.1.sg (xg x) (EI x.1.sg) (yS y),res:=fun x y=> .int .i64 y.1,outs:=fun x y=>[srd x.1 (yG y.2)],keep:=true}
theorem a2G{s:ST}{g:Gs}(h:okQ s g):okQ s g∧20-g.deep≤(stN:Int):=by
 have h1:=h.1.1.2.2.1.1
 exact⟨h,by unfold stN;omega⟩
theorem a2H:Aj G Go.Proofs.Tryz.prog 75 LE:=
 have c:=a2F (G:=G) stN (b3k stN)
 ⟨⟨c.1.1,fun x y hx hy=>c.1.2 x y (a2G hx) hy⟩,fun x hx=>c.2 x (a2G hx)⟩
theorem a2I{s:ST}{x:Gs}{v:List Int×Gs}(h:okQ s x)(hv:vlQ s.sg (Bz s.sg) [41] [] (Al s.sg (Bf s.sg x 1) [40]) v):okQ s v.2:=by
 have a:=Eg (m:=[40]) (Hl (k:=1) h.1.1 (by omega))
 have e:(Bf s.sg x 1).deep=x.deep:=by unfold Bf;split<;>rfl
 obtain⟨b1,b2,b3,b4⟩:=Vm h.1.1.1 hv
 exact⟨⟨b1,by have:=h.1.2;omega⟩,h.2⟩
theorem a2J{s:ST}{x:Gs}{v:List Int×Gs}{q:Int×Gs}(h:okQ s x)(hv:vlQ s.sg (Bz s.sg) [41] [] (Al s.sg (Bf s.sg x 1) [40]) v)(hq:Af s.sg v.2 (EI s.sg) q):
 Af s.sg x (EY s.sg false) (Ax q.2,Ag q.2 ⟨20,BA s.sg x 1,v.1++[q.1],false⟩):=by
 rw[HP.1] at hv;rw[HP.2]
 obtain⟨l,⟨a,b⟩,rfl⟩:=hv
 exact a1d (l:=l) h.1.1.1 h.1.1.2 a b hq
def clS(sg:List Sg)(x y:Gs)(ks:List Int)(N:Nat):Prop:=Iw sg (CT sg) [125] (Al sg (Bf sg (Ai x) 1) [123]) y ks N∧y.deep=x.deep
theorem a2K{s:ST}{x:Gs}(h:okQ s (Ai x)):clS s.sg x (Al s.sg (Bf s.sg (Ai x) 1) [123]) [] (s.sg.length+1):=by
 have a:=Hl (k:=1) h.1.1 (by omega)
 refine⟨QI (Eg a).1.2,?_⟩
 rw[(Eg a).2];unfold Bf;split<;>rfl
theorem b3l{s:ST}{x:Gs}(h:okQ s x)(h1:isG s.sg x 1 [118,97,114]=false)(h2:isG s.sg (BI s.sg x [118,97,114]) 1 [99,108,97,115,115]=true):
 clS s.sg x (Al s.sg (Bf s.sg (BI s.sg (BI s.sg x [118,97,114]) [99,108,97,115,115]) 1) [123]) [] (s.sg.length+1):=by
 rw[Jn h1] at h2 ⊢
 rw[Jo h2];exact a2K (Gj h h2)
theorem b3m{s:ST}{x:Gs}(h:okQ s (Ai x)):rOk s (Bf s.sg (Ai x) 1)∧rOk s (Al s.sg (Bf s.sg (Ai x) 1) [123]):=
 have a:=Hl (k:=1) h.1.1 (by omega)
 ⟨a,(Eg a).1⟩
theorem VM{s:ST}{x y:Gs}{ks:List Int}{N:Nat}(h:okQ s (Ai x))(hj:clS s.sg x y ks N):okQ s y:=⟨⟨⟨h.1.1.1,hj.1.1.1⟩,by have:=hj.2;have:=h.1.2;simp only[Ai] at*;omega⟩,h.2⟩
theorem a2L{s:ST}{x y:Gs}{ks:List Int}{N:Nat}(h:okQ s (Ai x))(hj:clS s.sg x y ks N)(hb:y.bad=false)(hq:isG s.sg y 4 [125]=false):okQ s (Ah s.sg y [125])∧(Ah s.sg y [125]).bad=false:=by
 rw[Da hq];exact⟨VM h hj,hb⟩
theorem VN{s:ST}{x y:Gs}{ks:List Int}{N:Nat}(h:okQ s (Ai x))(hj:clS s.sg x y ks N):ks.length≤3001:=by
 have:=hj.1.2.2.1;have:=hj.1.1.1.1;have:=h.1.1.1.1;omega
theorem Ko{s:ST}{x y:Gs}{ks:List Int}{N:Nat}{b:Bool}{z:Int×Gs}(hj:clS s.sg x y ks N)(hb:y.bad=false)(hq:isG s.sg y 4 [125]=false)(hz:Af s.sg (Ah s.sg y [125]) (CT s.sg false) z)(e:b=(blG s.sg (Ah s.sg y [125])&&decide (0<(ks.length:Int)))):
 clS s.sg x (gBl z.2 z.1 b) (ks++[z.1]) (N-1)∧N-1<N:=by
 rw[Da hq] at hz e
 rw[VG hb] at e
 have hz2:Af s.sg y (CT s.sg b) (z.1,gBl z.2 z.1 b):=VF VD hz
 subst e
 obtain⟨a,b⟩:=He (QL hj.1 hb hq (z:=(z.1,gBl z.2 z.1 ((pkG s.sg y 0).blank&&decide (0<(ks.length:Int))))) (by
  have:decide (0<ks.length)=decide (0<(ks.length:Int)):=by simp
  rw[this];exact hz2))
 have:=(CD hz2).1
 exact⟨⟨a,by have:=hj.2;simp only at*;omega⟩,b⟩
theorem a2M{s:ST}{x:Gs}{l:List Int×Gs}(h:okQ s (Ai x))(hl:Bm s.sg (Al s.sg (Bf s.sg (Ai x) 1) [123]) (CL s.sg (CT s.sg) [125] (s.sg.length+1) []) l)(hll:l.1.length≤3001):
 Af s.sg (Ai x) (Fl s.sg false) (Ax (Al s.sg l.2 [125]),Ag (Al s.sg l.2 [125]) ⟨21,BA s.sg (Ai x) 1,l.1,false⟩):=by
 rw[HP.1] at hl;rw[HP.2]
 exact HO hl.1 (DG (Hh h.1.1.1) (by omega)) (a1e h.1.1.1 h.1.1.2 hl hll)
theorem b3n{s:ST}{x y:Gs}{ks:List Int}{N:Nat}(h:okQ s (Ai x))(hj:clS s.sg x y ks N)(hq:isG s.sg y 4 [125]=true):
 Af s.sg (Ai x) (Fl s.sg false) (Ax (Ah s.sg y [125]),Ag (Ah s.sg y [125]) ⟨21,BA s.sg (Ai x) 1,ks,false⟩):=by
 rw[Db hq,←Jk hq];exact a2M (l:=(ks,y)) h (QK hj.1 hq) (VN h hj)
theorem b3o{s:ST}{x y:Gs}{ks:List Int}{N:Nat}(h:okQ s (Ai x))(hj:clS s.sg x y ks N)(hb:y.bad=true):
 Af s.sg (Ai x) (Fl s.sg false) (Ax y,Ag y ⟨21,BA s.sg (Ai x) 1,ks,false⟩):=by
 have a:=a2M (l:=(ks,y)) h (QJ hj.1 hb) (VN h hj)
 simp only[Ri hb] at a;exact a
theorem b3p{s:ST}{x:Gs}(h:okQ s x)(hk:kdG s.sg x 5=true):Af s.sg x (CT s.sg false) (Ax (Bf s.sg x 5),Ag (Bf s.sg x 5) ⟨19,BA s.sg x 5,[],false⟩):=by
 have hn:=hk
 rw[Ox (by omega)] at hn
 exact MN h.1.1.1 h.1.1.2 (by omega) hk (a1f h.1.1.1 h.1.1.2 (by simpa using hn))
theorem b3q{s:ST}{x:Gs}(h:okQ s x)(hk:kdG s.sg x 5=true):Af s.sg x (Dp s.sg false) (Ax (Bf s.sg x 5),Ag (Bf s.sg x 5) ⟨19,BA s.sg x 5,[],false⟩):=by
 have hn:=hk
 rw[Ox (by omega)] at hn
 exact MN h.1.1.1 h.1.1.2 (by omega) hk (a1i h.1.1.1 h.1.1.2 (by simpa using hn))
theorem b3r{s:ST}{x:Gs}{z:Int×Gs}(h:okQ s x)(hk:kdG s.sg x 5=false)(hq:isG s.sg x 1 [118,97,114]=true)(hz:Af s.sg (Ai x) (Dn s.sg false) z):Af s.sg x (CT s.sg false) z:=a1g h.1.1.2 (GI hk) hq hz
theorem b3s{s:ST}{x:Gs}{z:Int×Gs}(h:okQ s x)(hk:kdG s.sg x 5=false)(hq:isG s.sg x 1 [118,97,114]=true)(hz:Af s.sg (Ai x) (Dn s.sg false) z):Af s.sg x (Dp s.sg false) z:=a1j h.1.1.2 (GI hk) hq hz
theorem b3t{s:ST}{x:Gs}{z:Int×Gs}(h:okQ s x)(hk:kdG s.sg x 5=false)(hq:isG s.sg x 1 [118,97,114]=false)(hz:Af s.sg x (EY s.sg false) z):Af s.sg x (CT s.sg false) z:=a1h h.1.1.2 (GI hk) hq hz
theorem b3u{s:ST}{x:Gs}{z:Int×Gs}(h:okQ s x)(hk:kdG s.sg x 5=false)(h1:isG s.sg x 1 [118,97,114]=false)(hq:isG s.sg x 1 [99,108,97,115,115]=false)(hz:Af s.sg x (EY s.sg false) z):Af s.sg x (Dp s.sg false) z:=a1l h.1.1.2 (GI hk) h1 hq hz
theorem a2N{s:ST}{x:Gs}{z:Int×Gs}(h:okQ s x)(hk:kdG s.sg x 5=false)(h1:isG s.sg x 1 [118,97,114]=false)(hq:isG s.sg x 1 [99,108,97,115,115]=true)(hz:Af s.sg (Ai x) (Fl s.sg false) z):Af s.sg x (Dp s.sg false) z:=a1k h.1.1.2 (GI hk) h1 hq hz
def a2O:Sig:= {X:=ST×Int×Int×Bool×List Nd,args:=fun x=>[srd x.1 (xg x),.bool false],pre:=fun x=>False,Y:=Int×Int×Int×Bool×List Nd,post:=fun x y=>True,res:=fun x y=> .int .i64 y.1,outs:=fun x y=>[srd x.1 (yG y.2),.top],keep:=true}
theorem b3v:Aj G Go.Proofs.Tryz.prog 41 a2O:=Gg Tryz.func41 rfl (by decide) (fun x h=>h)
attribute [local irreducible] pE Bl CQ fnR Af Bm gsOk Al Bs Ag BZ CZ Ah CA Dk Ax BB pkG isG nmG kdG Bf BA Bz vlQ BI gBl blG Dn Ge Dj Cb BH stR CL okQ sgM clS CT Dp EY Fl EI
def Jq:Sig:= {X:=ST×Int×Int×Bool×List Nd,args:=fun x=>[srd x.1 (xg x),.bool false],pre:=fun x=>okQ x.1 (xg x)∧(xg x).bad=false,Y:=Int×Int×Int×Bool×List Nd,post:=fun x y=>Af x.1.sg (xg x) (CT x.1.sg false) (yS y),res:=fun x y=> .int .i64 y.1,outs:=fun x y=>[srd x.1 (yG y.2),.top],keep:=true}
def b3w(x:ST×Int×Int×Bool×List Nd):LS:= {ι:=Int×Int×Bool×List Nd×List Int×Nat,inv:=fun i=>False,regs:=fun i=>[(0,srd x.1 (iG i)),(5,.str (BA x.1.sg (Ai (xg x)) 1)),(6,Ab i.2.2.2.2.1)],als:=[],meas:=fun i=>i.2.2.2.2.2}
theorem b3x:Aj G Tryz.prog 41 Jq:=
 vcFun_okP [(68,0,DX),(69,0,CG),(43,0,Bq),(70,0,EL),(71,0,GJ),(72,0,BO),(73,0,Cc),(40,0,FH),(41,0,a2O),(42,0,Eh),(74,0,Gi),(75,0,LE)] [(45,⟨Int,Bb⟩)] false (fun x=>[(9,b3w x)]) Tryz.func41 rfl (by decide) ⟨Re,Kl,Hk,Ve,VL,HN,Hj,Rf,b3v,Rh,Vq,a2H,trivial⟩ (fun(x:ST×Int×Int×Bool×List Nd)=>True∧cA DX [srd x.1 (xg x),.int .i64 (5:Int)] fun x_1 y=>Aa (kdG x_1.1.sg (xh x_1) x_1.2.2.2.2.2) (cA CG [srd x_1.1 (xh x_1),.int .i64 (5:Int)] fun x_2 y=>cA Bq [srd x_2.1 (Bf x_2.1.sg (xh x_2) x_2.2.2.2.2.2),.int .i64 (19:Int),.str (BA x_2.1.sg (xh x_2) x_2.2.2.2.2.2),Ab []] fun x_3 y=>rA Jq x [.int .i64 (Ax (xh x_3)),srd x_3.1 (Ag (xh x_3) {kind:=x_3.2.2.2.2.2.1,text:=x_3.2.2.2.2.2.2.1,kids:=x_3.2.2.2.2.2.2.2,blank:=false}),.top]) (cA EL [srd x_1.1 (xh x_1),.str #[(118:UInt8),(97:UInt8),(114:UInt8)].toList] fun x_2 y=>Aa (isG x_2.1.sg (xh x_2) (1:Int) x_2.2.2.2.2.2) (cA GJ [srd x_2.1 (BI x_2.1.sg (xh x_2) x_2.2.2.2.2.2)] fun x_3 y=>rA Jq x [.int .i64 y.1,srd x_3.1 (yG y.2),.top]) (cA CG [srd x_2.1 (BI x_2.1.sg (xh x_2) x_2.2.2.2.2.2),.int .i64 (1:Int)] fun x_3 y=>cA Gi [srd x_3.1 (Bf x_3.1.sg (xh x_3) x_3.2.2.2.2.2)] fun x_4 y=>cA LE [srd x_4.1 (yG y.2)] fun x_5 y_1=>∃(x_6:Int),y_1.1=x_6∧∃(zs:List Int),Ab [x_6]=Ab zs∧Be Bb∧AS (List.length y.1+List.length zs) (8:Nat)∧cA Bq [srd x_5.1 (yG y_1.2),.int .i64 (20:Int),.str (BA x_3.1.sg (xh x_3) x_3.2.2.2.2.2),Ab (y.1++zs)] fun x_7 y=>rA Jq x [.int .i64 (Ax (xh x_7)),srd x_7.1 (Ag (xh x_7) {kind:=x_7.2.2.2.2.2.1,text:=x_7.2.2.2.2.2.2.1,kids:=x_7.2.2.2.2.2.2.2,blank:=false}),.top]))) (fun x=>by kernel_rfl) fun(x:ST×Int×Int×Bool×List Nd) (hx:okQ x.1 (xg x)∧(xg x).bad=false)=>(by
 dsimp only[cA,Bg,Ab,Au,rA,LE,DX,Jq,Gi,Bq,CG,GJ,EL,Bj,sgs,srd,Av,AB,mvL,lnL,mvE,lnE]
 obtain⟨s,p,d,b,ns⟩:=x;dsimp only[xg,xh] at hx ⊢
 obtain⟨hx,hb⟩:=hx
 have hx:okQ s ⟨p,d,b,ns⟩:=hx
 have hD:=EA hx;have hM:=MR hx;have h1:=hD.1;have hs:=h1.1
 (repeat' first|(with_reducible first|rfl|exact True.intro|apply AK|apply And.intro|((first|apply Az|apply AI|apply AA|apply AJ)<;>intro _))|(apply Aw<;>intro _)|apply AH|refine Ae () ?_ ?_|((first|apply AO|apply AN|apply AM|apply AL|apply AG|apply AF|apply AE|apply AD|apply AC)<;>try dsimp only)|apply Ae|(refine Prod.forall.2 ?_;intro _;try dsimp only)|(intro _;try dsimp only))
 all_goals(try dsimp only[xg,xh,yG,yS,iG,iF] at*)
 all_goals(try simp only[CN] at*)
 all_goals(try(have e:=Jn (show isG s.sg ⟨p,d,b,ns⟩ 1 [118,97,114]=false by assumption);simp only[e] at*))
 all_goals(try(have e:=Jo (show isG s.sg ⟨p,d,b,ns⟩ 1 [118,97,114]=true by assumption);simp only[e] at*))
 all_goals first
  |rfl
  |exact h1
  |omega
  |contradiction
  |exact b3p hx ‹_›
  |exact Hl h1 (by omega)
  |exact Gj hx ‹_›
  |exact b3r hx ‹_› ‹_› ‹_›
  |exact a2I hx ‹_›
  |exact Dr h1 ‹_›
  |exact b3t hx ‹_› ‹_› (a2J hx ‹_› ‹_›)
  |(have hq:=Vt hs (show vlQ _ _ _ [] _ _ by assumption);(try simp only[AS,List.length_append,List.length_cons,List.length_nil] at*);omega)
  |skip)
def HT:Sig:= {X:=ST×Int×Int×Bool×List Nd,args:=fun x=>[srd x.1 (xg x),.bool true],pre:=fun x=>okQ x.1 (xg x)∧(xg x).bad=false,Y:=Int×Int×Int×Bool×List Nd,post:=fun x y=>Af x.1.sg (xg x) (Dp x.1.sg false) (yS y),res:=fun x y=> .int .i64 y.1,outs:=fun x y=>[srd x.1 (yG y.2),.top],keep:=true}
def OB(x:ST×Int×Int×Bool×List Nd):LS:= {ι:=Int×Int×Bool×List Nd×List Int×Nat,inv:=fun i=>clS x.1.sg (xg x) (iG i) i.2.2.2.2.1 i.2.2.2.2.2,regs:=fun i=>[(0,srd x.1 (iG i)),(5,.str (BA x.1.sg (Ai (xg x)) 1)),(6,Ab i.2.2.2.2.1)],als:=[],meas:=fun i=>i.2.2.2.2.2}
theorem b3y:Aj G Tryz.prog 41 HT:=
 vcFun_okP [(68,0,DX),(69,0,CG),(43,0,Bq),(70,0,EL),(71,0,GJ),(72,0,BO),(73,0,Cc),(40,0,FH),(41,0,Jq),(42,0,Eh),(74,0,Gi),(75,0,LE)] [(45,⟨Int,Bb⟩)] false (fun x=>[(9,OB x)]) Tryz.func41 rfl (by decide) ⟨Re,Kl,Hk,Ve,VL,HN,Hj,Rf,b3x,Rh,Vq,a2H,trivial⟩ (fun(x:ST×Int×Int×Bool×List Nd)=>True∧cA DX [srd x.1 (xg x),.int .i64 (5:Int)] fun x_1 y=>Aa (kdG x_1.1.sg (xh x_1) x_1.2.2.2.2.2) (cA CG [srd x_1.1 (xh x_1),.int .i64 (5:Int)] fun x_2 y=>cA Bq [srd x_2.1 (Bf x_2.1.sg (xh x_2) x_2.2.2.2.2.2),.int .i64 (19:Int),.str (BA x_2.1.sg (xh x_2) x_2.2.2.2.2.2),Ab []] fun x_3 y=>rA HT x [.int .i64 (Ax (xh x_3)),srd x_3.1 (Ag (xh x_3) {kind:=x_3.2.2.2.2.2.1,text:=x_3.2.2.2.2.2.2.1,kids:=x_3.2.2.2.2.2.2.2,blank:=false}),.top]) (cA EL [srd x_1.1 (xh x_1),.str #[(118:UInt8),(97:UInt8),(114:UInt8)].toList] fun x_2 y=>Aa (isG x_2.1.sg (xh x_2) (1:Int) x_2.2.2.2.2.2) (cA GJ [srd x_2.1 (BI x_2.1.sg (xh x_2) x_2.2.2.2.2.2)] fun x_3 y=>rA HT x [.int .i64 y.1,srd x_3.1 (yG y.2),.top]) (cA EL [srd x_2.1 (BI x_2.1.sg (xh x_2) x_2.2.2.2.2.2),.str #[(99:UInt8),(108:UInt8),(97:UInt8),(115:UInt8),(115:UInt8)].toList] fun x_3 y=>Aa (isG x_3.1.sg (xh x_3) (1:Int) x_3.2.2.2.2.2) (cA CG [srd x_3.1 (BI x_3.1.sg (xh x_3) x_3.2.2.2.2.2),.int .i64 (1:Int)] fun x_4 y=>cA BO [srd x_4.1 (Bf x_4.1.sg (xh x_4) x_4.2.2.2.2.2),.str #[(123:UInt8)].toList] fun x_5 y=>eA (OB x) [srd x_5.1 (Al x_5.1.sg (xh x_5) x_5.2.2.2.2.2),.str (BA x_4.1.sg (xh x_4) x_4.2.2.2.2.2),Ab []]∧∀(i:Int×Int×Bool×List Nd×List Int×Nat),clS x.1.sg (xg x) (iG i) i.2.2.2.2.1 i.2.2.2.2.2→Aa (!(iG i).bad) (cA Cc [srd x.1 (iG i),.str #[(125:UInt8)].toList] fun x_6 y=>Aa (!isG x_6.1.sg (xh x_6) (4:Int) x_6.2.2.2.2.2) (cA FH [srd x_6.1 (Ah x_6.1.sg (xh x_6) x_6.2.2.2.2.2)] fun x_7 y=>Aa (blG x_7.1.sg (xg x_7)) (cA Jq [srd x_7.1 (xg x_7),.bool false] fun x_8 y=>cA Eh [srd x_8.1 (yG y.2),.int .i64 y.1,.bool (decide ((↑(List.length i.2.2.2.2.1):Int)>(0:Int)))] fun x_9 y_1=>∃(x_10:Int),y.1=x_10∧∃(zs:List Int),Ab [x_10]=Ab zs∧Be Bb∧AS (List.length i.2.2.2.2.1+List.length zs) (8:Nat)∧eN (OB x) i [srd x_9.1 (gBl (xh x_9) x_9.2.2.2.2.2.1 x_9.2.2.2.2.2.2),.str (BA x.1.sg (Ai (xg x)) (1:Int)),Ab (i.2.2.2.2.1++zs)]) (cA Jq [srd x_7.1 (xg x_7),.bool false] fun x_8 y=>cA Eh [srd x_8.1 (yG y.2),.int .i64 y.1,.bool false] fun x_9 y_1=>∃(x_10:Int),y.1=x_10∧∃(zs:List Int),Ab [x_10]=Ab zs∧Be Bb∧AS (List.length i.2.2.2.2.1+List.length zs) (8:Nat)∧eN (OB x) i [srd x_9.1 (gBl (xh x_9) x_9.2.2.2.2.2.1 x_9.2.2.2.2.2.2),.str (BA x.1.sg (Ai (xg x)) (1:Int)),Ab (i.2.2.2.2.1++zs)])) (cA Bq [srd x_6.1 (Ah x_6.1.sg (xh x_6) x_6.2.2.2.2.2),.int .i64 (21:Int),.str (BA x.1.sg (Ai (xg x)) (1:Int)),Ab i.2.2.2.2.1] fun x_7 y=>rA HT x [.int .i64 (Ax (xh x_7)),srd x_7.1 (Ag (xh x_7) {kind:=x_7.2.2.2.2.2.1,text:=x_7.2.2.2.2.2.2.1,kids:=x_7.2.2.2.2.2.2.2,blank:=false}),.top])) (cA Bq [srd x.1 (iG i),.int .i64 (21:Int),.str (BA x.1.sg (Ai (xg x)) (1:Int)),Ab i.2.2.2.2.1] fun x_6 y=>rA HT x [.int .i64 (Ax (xh x_6)),srd x_6.1 (Ag (xh x_6) {kind:=x_6.2.2.2.2.2.1,text:=x_6.2.2.2.2.2.2.1,kids:=x_6.2.2.2.2.2.2.2,blank:=false}),.top])) (cA CG [srd x_3.1 (BI x_3.1.sg (xh x_3) x_3.2.2.2.2.2),.int .i64 (1:Int)] fun x_4 y=>cA Gi [srd x_4.1 (Bf x_4.1.sg (xh x_4) x_4.2.2.2.2.2)] fun x_5 y=>cA LE [srd x_5.1 (yG y.2)] fun x_6 y_1=>∃(x_7:Int),y_1.1=x_7∧∃(zs:List Int),Ab [x_7]=Ab zs∧Be Bb∧AS (List.length y.1+List.length zs) (8:Nat)∧cA Bq [srd x_6.1 (yG y_1.2),.int .i64 (20:Int),.str (BA x_4.1.sg (xh x_4) x_4.2.2.2.2.2),Ab (y.1++zs)] fun x_8 y=>rA HT x [.int .i64 (Ax (xh x_8)),srd x_8.1 (Ag (xh x_8) {kind:=x_8.2.2.2.2.2.1,text:=x_8.2.2.2.2.2.2.1,kids:=x_8.2.2.2.2.2.2.2,blank:=false}),.top])))) (fun x=>by kernel_rfl) fun(x:ST×Int×Int×Bool×List Nd) (hx:okQ x.1 (xg x)∧(xg x).bad=false)=>(by
 dsimp only[cA,eA,eN,OB,Bg,Ab,Au,rA,LE,FH,Eh,DX,Cc,HT,Jq,Gi,Bq,CG,GJ,BO,EL,Bj,sgs,srd,Av,AB,mvL,lnL,mvE,lnE,Bw]
 obtain⟨s,p,d,b,ns⟩:=x;dsimp only[xg,xh] at hx ⊢
 obtain⟨hx,hb⟩:=hx
 have hx:okQ s ⟨p,d,b,ns⟩:=hx
 have hD:=EA hx;have hM:=MR hx;have h1:=hD.1;have hs:=h1.1
 (repeat' first|(with_reducible first|rfl|exact True.intro|apply AK|apply And.intro|((first|apply Az|apply AI|apply AA|apply AJ)<;>intro _))|(apply Aw<;>intro _)|apply AH|refine Ae () ?_ ?_|((first|apply AO|apply AN|apply AM|apply AL|apply AG|apply AF|apply AE|apply AD|apply AC)<;>try dsimp only)|apply Ae|(refine Prod.forall.2 ?_;intro _;try dsimp only)|(intro _;try dsimp only))
 all_goals(try dsimp only[xg,xh,yG,yS,iG,iF] at*)
 all_goals(try simp only[CN] at*)
 all_goals first
  |(show Nat;skip)
  |exact b3l hx ‹_› ‹_›
  |exact(Ko ‹_› ‹_› ‹_› ‹_› (GE ‹_›)).1
  |exact(Ko ‹_› ‹_› ‹_› ‹_› (GF ‹_›)).1
  |skip
 all_goals(try(first|exact(Ko ‹_› ‹_› ‹_› ‹_› (GE ‹_›)).2|exact(Ko ‹_› ‹_› ‹_› ‹_› (GF ‹_›)).2))
 all_goals(try(have e:=Jn (show isG s.sg ⟨p,d,b,ns⟩ 1 [118,97,114]=false by assumption);simp only[e] at*))
 all_goals(try(have e:=Jo (show isG s.sg ⟨p,d,b,ns⟩ 1 [118,97,114]=true by assumption);simp only[e] at*))
 all_goals(try(have e:=Jn (show isG s.sg ⟨p,d,b,ns⟩ 1 [99,108,97,115,115]=false by assumption);simp only[e] at*))
 all_goals(try(have e:=Jo (show isG s.sg ⟨p,d,b,ns⟩ 1 [99,108,97,115,115]=true by assumption);simp only[e] at*))
 all_goals(try(have hw:=Gj hx (show isG s.sg ⟨p,d,b,ns⟩ 1 [99,108,97,115,115]=true by assumption)))
 all_goals first
  |(show Nat;skip)
  |rfl
  |exact h1
  |omega
  |contradiction
  |exact b3q hx ‹_›
  |exact Hl h1 (by omega)
  |exact Gj hx ‹_›
  |exact b3s hx ‹_› ‹_› ‹_›
  |exact a2I hx ‹_›
  |exact(EA hw).1
  |exact(b3m hw).1
  |exact a2K hw
  |exact(EA (VM hw ‹_›)).1
  |exact(a2L hw ‹_› ‹_› ‹_›).1
  |exact(a2L hw ‹_› ‹_› ‹_›).2
  |exact Fp (EA (VM hw ‹_›)).1
  |exact Dr h1 ‹_›
  |exact MQ VD ‹_›
  |exact MQ VD ‹_› ‹_›
  |exact(Ko ‹_› ‹_› ‹_› ‹_› (GE ‹_›)).1
  |exact(Ko ‹_› ‹_› ‹_› ‹_› (GF ‹_›)).1
  |exact a2N hx ‹_› ‹_› ‹_› (b3n hw ‹_› ‹_›)
  |exact a2N hx ‹_› ‹_› ‹_› (b3o hw ‹_› ‹_›)
  |exact b3u hx ‹_› ‹_› ‹_› (a2J hx ‹_› ‹_›)
  |(have hq:=Vt hs (show vlQ _ _ _ [] _ _ by assumption);(try simp only[AS,List.length_append,List.length_cons,List.length_nil] at*);omega)
  |(have hq:=VN hw (show clS _ _ _ _ _ by assumption);(try simp only[AS,List.length_append,List.length_cons,List.length_nil]);omega)
  |skip
 all_goals first
  |exact(Ko ‹_› ‹_› ‹_› ‹_› (GE ‹_›)).2
  |exact(Ko ‹_› ‹_› ‹_› ‹_› (GF ‹_›)).2
  |skip)
end Go.My
end
section
set_option linter.unusedVariables false
set_option linter.unusedSimpArgs false
namespace Go.My
open Go.Eng Go.Proofs
variable {G:GInv}
theorem a2P{c:UInt8}(h1:Cv c=false)(h2:Bt c=false):BP c=false:=by simp [BP,h1,h2]
theorem b3z{c:UInt8}(h1:Cv c=true):BP c=true:=by simp [BP,h1]
theorem b3A{c:UInt8}(h1:Bt c=true):BP c=true:=by simp [BP,h1]
theorem b3B{s:List UInt8}:CE s≤s.length:=by
 unfold CE
 cases h:DP isQ (s.drop 1) with
 |none=>simp
 |some i=>
  simp only
  split
  ·have:=TH h;simp at this;omega
  ·omega
theorem b3C{s:List UInt8}:Ct s≤s.length:=by
 unfold Ct
 split
 ·split
  ·exact QU
  ·omega
 ·omega
theorem b3D{s:List UInt8}:(FG s).length≤2:=by
 rw[a1N]
 split
 ·simp;omega
 ·split
  ·simp;omega
  ·simp
theorem b3E{x:List UInt8×Int}(h0:0≤x.2)(h1:x.2<x.1.length):(Ct (x.1.drop x.2.toNat):Int)≤x.1.length-x.2∧(CE (x.1.drop x.2.toNat):Int)≤x.1.length-x.2:=by
 have a:= @b3C (x.1.drop x.2.toNat);have b:= @b3B (x.1.drop x.2.toNat)
 simp at a b;omega
theorem a2Q{x:List UInt8×Int}{i:Int}{c d e:UInt8}(h0:0≤x.2)(hf:Cv c=false)(hc:x.1[x.2.toNat]? =some c)(hg:Bt d=true)(hd:x.1[x.2.toNat]? =some d)(h:rwI Bt x i)(hz:Bt e=false)(he:x.1[i.toNat]? =some e):
 (i-x.2>12→sgR x 0 [] 0 false 0)∧(¬i-x.2>12→sgR x 2 (List.drop (Int.toNat x.2) (List.take (Int.toNat i) x.1)) x.2 false (i-x.2)):=by
 rw[hc] at hd;cases hd
 exact Ov h0 hc hf hg h (.inr ⟨_,he,hz⟩)
theorem a2R{t:List UInt8}{i br:Int}{l:List Sg}{n:Nat}{c c2:UInt8}{k p m:Int}{tx:List UInt8}{b:Bool}(h32:(c.toNat:Int)≠32)(hc:t[i.toNat]? =some c)(h10:(c2.toNat:Int)≠10)(hc2:t[i.toNat]? =some c2)(h:sgJ t i br l n)(hi:i<t.length)(hs:sgR (t,i) k tx p b m)(hm:m≠0):
 sgJ t (i+m) 0 (l++[⟨k,tx,p,decide (br>1)⟩]) (n-1)∧n-1<n:=by
 rw[hc] at hc2;cases hc2
 rcases hs with⟨h1,⟨rfl,rfl,rfl,rfl⟩,rfl⟩|hs
 ·exact UU hc h hi (by omega) (by omega) h1
 ·exact(hm hs.2).elim
theorem a2S{t:List UInt8}{i br:Int}{l:List Sg}{n:Nat}{c c2:UInt8}{k p m:Int}{tx:List UInt8}{b:Bool}(h32:(c.toNat:Int)≠32)(hc:t[i.toNat]? =some c)(h10:(c2.toNat:Int)≠10)(hc2:t[i.toNat]? =some c2)(h:sgJ t i br l n)(hi:i<t.length)(hs:sgR (t,i) k tx p b m)(hm:m=0):Br t=none:=by
 rw[hc] at hc2;cases hc2
 rcases hs with⟨h1,_,h2⟩|hs
 ·have a:=(a1E h1).1;rw[hm] at h2;rw[←h2] at a;omega
 ·exact UV hc h hi (by omega) (by omega) hs.1
theorem b3F{t:List UInt8}{i br:Int}{l:List Sg}{n:Nat}{k p m:Int}{tx:List UInt8}{b:Bool}(h:sgJ t i br l n)(hs:sgR (t,i) k tx p b m):0≤m∧m≤t.length-i:=by
 rcases hs with⟨h1,_,h2⟩|hs
 ·have a:=UT h h1;simp only at h2;omega
 ·have:=Jj h;omega
attribute [local irreducible] rwI sgR Bc Ct CE FG
def RA:Sig:= {X:=List UInt8×Int,args:=fun x=>[.str x.1,.int .i64 x.2],pre:=fun x=>0≤x.2∧x.2<x.1.length∧x.1.length<2^62,Y:=Int×List UInt8×Int×Bool×Int,post:=fun x y=>sgR x y.1 y.2.1 y.2.2.1 y.2.2.2.1 y.2.2.2.2,res:=fun x y=> .tup [.agg [.int .i64 y.1,.str y.2.1,.int .i64 y.2.2.1,.bool y.2.2.2.1],.int .i64 y.2.2.2.2],outs:=fun x y=>[.top,.top],keep:=false}
def OC(x:List UInt8×Int):LS:= {ι:=Int,inv:=fun i=>rwI BP x i,regs:=fun i=>[(0,.str x.1),(1,.int .i64 x.2),(4,.box 0 [.int .i64 0,.str [],.int .i64 0,.bool false]),(6,.int .i64 i)],als:=[],meas:=fun i=>x.1.length-i.toNat}
def RB(x:List UInt8×Int):LS:= {ι:=Int,inv:=fun i=>rwI Bt x i,regs:=fun i=>[(0,.str x.1),(1,.int .i64 x.2),(4,.box 0 [.int .i64 0,.str [],.int .i64 0,.bool false]),(6,.int .i64 i)],als:=[],meas:=fun i=>x.1.length-i.toNat}
theorem b3G:Aj G Tryz.prog 45 RA:=
 vcFun_okP [(76,0,Gw),(77,0,Ik),(78,0,EU),(79,0,Fx),(80,0,Hw),(81,0,Lx)] [] false (fun x=>[(6,OC x),(12,RB x)]) Tryz.func45 rfl (by decide) ⟨Yu,Yp,XZ,TG,Yt,b1h,trivial⟩ (fun(x:List UInt8×Int)=>(∀(y:Int×List UInt8×Int×Bool×Int),sgR x y.1 y.2.1 y.2.2.1 y.2.2.2.1 y.2.2.2.2→((True∧True∧True∧True∧True)∧True∧True)∧True∧True∧True)∧cA Gw [.str x.1,.int .i64 x.2] fun x_1 y=>Aa (decide ((↑(Ct (List.drop (Int.toNat x_1.2) x_1.1)):Int)>(0:Int))) (inR IntKind.i64 (x.2+(↑(Ct (List.drop (Int.toNat x_1.2) x_1.1)):Int))∧((0:Int)≤x.2∧x.2≤x.2+(↑(Ct (List.drop (Int.toNat x_1.2) x_1.1)):Int)∧x.2+(↑(Ct (List.drop (Int.toNat x_1.2) x_1.1)):Int)≤(↑(List.length x.1):Int))∧cA Ik [.str (List.drop (Int.toNat x.2) (List.take (Int.toNat (x.2+(↑(Ct (List.drop (Int.toNat x_1.2) x_1.1)):Int))) x.1))] fun x_2 y=>∃(y:Int×List UInt8×Int×Bool×Int),sgR x y.1 y.2.1 y.2.2.1 y.2.2.2.1 y.2.2.2.2∧(5:Int)=y.1∧CI x_2=y.2.1∧x.2=y.2.2.1∧false=y.2.2.2.1∧(↑(Ct (List.drop (Int.toNat x_1.2) x_1.1)):Int)=y.2.2.2.2∧True) (((0:Int)≤x.2∧x.2<(↑(List.length x.1):Int))∧∀(c:UInt8),x.1[Int.toNat x.2]? =some c→cA EU [AV.int IntKind.u8 (↑(UInt8.toNat c):Int)] fun x_2 y=>Aa (Cv x_2) (eA (OC x) [.str x.1,.int .i64 x.2,.box 0 [.int .i64 (0:Int),.str #[].toList,.int .i64 (0:Int),.bool false],.int .i64 x.2]∧∀(i:Int),rwI BP x i→Aa (decide (i<(↑(List.length x.1):Int))) (((0:Int)≤i∧i<(↑(List.length x.1):Int))∧∀(c:UInt8),x.1[Int.toNat i]? =some c→cA EU [AV.int IntKind.u8 (↑(UInt8.toNat c):Int)] fun x_3 y=>Aa (Cv x_3) (inR IntKind.i64 (i+(1:Int))∧eN (OC x) i [.str x.1,.int .i64 x.2,.box 0 [.int .i64 (0:Int),.str [],.int .i64 (0:Int),.bool false],.int .i64 (i+(1:Int))]) (((0:Int)≤i∧i<(↑(List.length x.1):Int))∧∀(c:UInt8),x.1[Int.toNat i]? =some c→cA Fx [AV.int IntKind.u8 (↑(UInt8.toNat c):Int)] fun x_4 y=>Aa (Bt x_4) (inR IntKind.i64 (i+(1:Int))∧eN (OC x) i [.str x.1,.int .i64 x.2,.box 0 [.int .i64 (0:Int),.str [],.int .i64 (0:Int),.bool false],.int .i64 (i+(1:Int))]) (inR IntKind.i64 (i-x.2)∧Aa (decide (i-x.2>(30:Int))) (∃(y:Int×List UInt8×Int×Bool×Int),sgR x y.1 y.2.1 y.2.2.1 y.2.2.2.1 y.2.2.2.2∧(0:Int)=y.1∧ #[].toList=y.2.1∧(0:Int)=y.2.2.1∧false=y.2.2.2.1∧(0:Int)=y.2.2.2.2∧True) (((0:Int)≤x.2∧x.2≤i∧i≤(↑(List.length x.1):Int))∧inR IntKind.i64 (i-x.2)∧∃(y:Int×List UInt8×Int×Bool×Int),sgR x y.1 y.2.1 y.2.2.1 y.2.2.2.1 y.2.2.2.2∧(1:Int)=y.1∧List.drop (Int.toNat x.2) (List.take (Int.toNat i) x.1)=y.2.1∧x.2=y.2.2.1∧false=y.2.2.2.1∧i-x.2=y.2.2.2.2∧True)))) (inR IntKind.i64 (i-x.2)∧Aa (decide (i-x.2>(30:Int))) (∃(y:Int×List UInt8×Int×Bool×Int),sgR x y.1 y.2.1 y.2.2.1 y.2.2.2.1 y.2.2.2.2∧(0:Int)=y.1∧ #[].toList=y.2.1∧(0:Int)=y.2.2.1∧false=y.2.2.2.1∧(0:Int)=y.2.2.2.2∧True) (((0:Int)≤x.2∧x.2≤i∧i≤(↑(List.length x.1):Int))∧inR IntKind.i64 (i-x.2)∧∃(y:Int×List UInt8×Int×Bool×Int),sgR x y.1 y.2.1 y.2.2.1 y.2.2.2.1 y.2.2.2.2∧(1:Int)=y.1∧List.drop (Int.toNat x.2) (List.take (Int.toNat i) x.1)=y.2.1∧x.2=y.2.2.1∧false=y.2.2.2.1∧i-x.2=y.2.2.2.2∧True))) (((0:Int)≤x.2∧x.2<(↑(List.length x.1):Int))∧∀(c:UInt8),x.1[Int.toNat x.2]? =some c→cA Fx [AV.int IntKind.u8 (↑(UInt8.toNat c):Int)] fun x_3 y=>Aa (Bt x_3) (eA (RB x) [.str x.1,.int .i64 x.2,.box 0 [.int .i64 (0:Int),.str #[].toList,.int .i64 (0:Int),.bool false],.int .i64 x.2]∧∀(i:Int),rwI Bt x i→Aa (decide (i<(↑(List.length x.1):Int))) (((0:Int)≤i∧i<(↑(List.length x.1):Int))∧∀(c:UInt8),x.1[Int.toNat i]? =some c→cA Fx [AV.int IntKind.u8 (↑(UInt8.toNat c):Int)] fun x_4 y=>Aa (Bt x_4) (inR IntKind.i64 (i+(1:Int))∧eN (RB x) i [.str x.1,.int .i64 x.2,.box 0 [.int .i64 (0:Int),.str [],.int .i64 (0:Int),.bool false],.int .i64 (i+(1:Int))]) (inR IntKind.i64 (i-x.2)∧Aa (decide (i-x.2>(12:Int))) (∃(y:Int×List UInt8×Int×Bool×Int),sgR x y.1 y.2.1 y.2.2.1 y.2.2.2.1 y.2.2.2.2∧(0:Int)=y.1∧ #[].toList=y.2.1∧(0:Int)=y.2.2.1∧false=y.2.2.2.1∧(0:Int)=y.2.2.2.2∧True) (((0:Int)≤x.2∧x.2≤i∧i≤(↑(List.length x.1):Int))∧inR IntKind.i64 (i-x.2)∧∃(y:Int×List UInt8×Int×Bool×Int),sgR x y.1 y.2.1 y.2.2.1 y.2.2.2.1 y.2.2.2.2∧(2:Int)=y.1∧List.drop (Int.toNat x.2) (List.take (Int.toNat i) x.1)=y.2.1∧x.2=y.2.2.1∧false=y.2.2.2.1∧i-x.2=y.2.2.2.2∧True))) (inR IntKind.i64 (i-x.2)∧Aa (decide (i-x.2>(12:Int))) (∃(y:Int×List UInt8×Int×Bool×Int),sgR x y.1 y.2.1 y.2.2.1 y.2.2.2.1 y.2.2.2.2∧(0:Int)=y.1∧ #[].toList=y.2.1∧(0:Int)=y.2.2.1∧false=y.2.2.2.1∧(0:Int)=y.2.2.2.2∧True) (((0:Int)≤x.2∧x.2≤i∧i≤(↑(List.length x.1):Int))∧inR IntKind.i64 (i-x.2)∧∃(y:Int×List UInt8×Int×Bool×Int),sgR x y.1 y.2.1 y.2.2.1 y.2.2.2.1 y.2.2.2.2∧(2:Int)=y.1∧List.drop (Int.toNat x.2) (List.take (Int.toNat i) x.1)=y.2.1∧x.2=y.2.2.1∧false=y.2.2.2.1∧i-x.2=y.2.2.2.2∧True))) (((0:Int)≤x.2∧x.2<(↑(List.length x.1):Int))∧∀(c:UInt8),x.1[Int.toNat x.2]? =some c→Aa ((↑(UInt8.toNat c):Int)==(39:Int)) (cA Hw [.str x.1,.int .i64 x.2] fun x_4 y=>inR IntKind.i64 (x.2+(↑(CE (List.drop (Int.toNat x_4.2) x_4.1)):Int))∧((0:Int)≤x.2∧x.2≤x.2+(↑(CE (List.drop (Int.toNat x_4.2) x_4.1)):Int)∧x.2+(↑(CE (List.drop (Int.toNat x_4.2) x_4.1)):Int)≤(↑(List.length x.1):Int))∧∃(y:Int×List UInt8×Int×Bool×Int),sgR x y.1 y.2.1 y.2.2.1 y.2.2.2.1 y.2.2.2.2∧(3:Int)=y.1∧List.drop (Int.toNat x.2) (List.take (Int.toNat (x.2+(↑(CE (List.drop (Int.toNat x_4.2) x_4.1)):Int))) x.1)=y.2.1∧x.2=y.2.2.1∧false=y.2.2.2.1∧(↑(CE (List.drop (Int.toNat x_4.2) x_4.1)):Int)=y.2.2.2.2∧True) (cA Lx [.str x.1,.int .i64 x.2] fun x_4 y=>∃(y:Int×List UInt8×Int×Bool×Int),sgR x y.1 y.2.1 y.2.2.1 y.2.2.2.1 y.2.2.2.2∧(4:Int)=y.1∧FG (List.drop (Int.toNat x_4.2) x_4.1)=y.2.1∧x.2=y.2.2.1∧false=y.2.2.2.1∧(↑(List.length (FG (List.drop (Int.toNat x_4.2) x_4.1))):Int)=y.2.2.2.2∧True))))) (fun x=>by kernel_rfl) fun(x:List UInt8×Int) (hx:0≤x.2∧x.2<x.1.length∧x.1.length<2^62)=>(by
 dsimp only[cA,eA,eN,RB,OC,Fx,EU,Gw,Hw,Lx,Ik,Av,AB,mvL,lnL,mvE,lnE,Bw]
 obtain⟨h1,h2,h3⟩:=hx
 have hn:=b3E h1 h2
 (repeat' first|(with_reducible first|rfl|exact True.intro|apply AK|apply And.intro|((first|apply Az|apply AI|apply AA|apply AJ)<;>intro _))|(apply Aw<;>intro _)|apply AH|refine Ae () ?_ ?_|((first|apply AO|apply AN|apply AM|apply AL|apply AG|apply AF|apply AE|apply AD|apply AC)<;>try dsimp only)|apply Ae|(refine Prod.forall.2 ?_;intro _;try dsimp only)|(intro _;try dsimp only))
 all_goals(try((repeat(rename x.1[_]? =some _=>hq;revert hq;rename x.1[_]? =some _=>hr;intro hq;rw[hr] at hq;cases hq))))
 all_goals first
  |rfl
  |omega
  |exact b1k h1 ‹_›
  |exact b1i (by omega)
  |exact Vc h1 ‹_› ‹_› ‹_› (b3z ‹_›)
  |exact Vc h1 ‹_› ‹_› ‹_› (b3A ‹_›)
  |exact Vc h1 ‹_› ‹_› ‹_› ‹_›
  |exact(Rc h1 ‹_› ‹_› ‹_› (.inl ‹_›)).1 ‹_›
  |exact(Rc h1 ‹_› ‹_› ‹_› (.inl ‹_›)).2 ‹_›
  |exact(Rc h1 ‹_› ‹_› ‹_› (.inr ⟨_,by assumption,a2P ‹_› ‹_›⟩)).1 ‹_›
  |exact(Rc h1 ‹_› ‹_› ‹_› (.inr ⟨_,by assumption,a2P ‹_› ‹_›⟩)).2 ‹_›
  |exact(Ov h1 ‹_› ‹_› ‹_› ‹_› (.inl ‹_›)).1 ‹_›
  |exact(Ov h1 ‹_› ‹_› ‹_› ‹_› (.inl ‹_›)).2 ‹_›
  |exact(Ov h1 ‹_› ‹_› ‹_› ‹_› (.inr ⟨_,by assumption,by assumption⟩)).1 ‹_›
  |exact(Ov h1 ‹_› ‹_› ‹_› ‹_› (.inr ⟨_,by assumption,by assumption⟩)).2 ‹_›
  |exact(a2Q h1 ‹_› ‹_› ‹_› ‹_› ‹_› ‹_› ‹_›).1 ‹_›
  |exact(a2Q h1 ‹_› ‹_› ‹_› ‹_› ‹_› ‹_› ‹_›).2 ‹_›
  |exact b1m h1 ‹_› ‹_› ‹_› ‹_›
  |exact b1n h1 ‹_› ‹_› ‹_› ‹_› ‹_›
  |(have hq:=b1j (show rwI _ _ _ by assumption);(try simp only[AR]);omega)
  |(have hq:= @b3D (x.1.drop x.2.toNat);(try simp only[AR]);omega)
  |(simp only[List.length_drop,List.length_take];omega)
  |skip)
attribute [local irreducible] sgJ Br
def HU:Sig:= {X:=List UInt8,args:=fun x=>[.str x],pre:=fun x=>x.length<2^62,Y:=List Sg×Int,post:=fun x y=>sgQ x y.1,res:=fun x y=> .tup [sgs y.1,.int .i64 y.2,.bool (Br x).isSome],outs:=fun x y=>[.top],keep:=true}
def MT(x:List UInt8):LS:= {ι:=Int×Int×List Sg×Nat,inv:=fun i=>sgJ x i.1 i.2.1 i.2.2.1 i.2.2.2,regs:=fun i=>[(0,.str x),(5,As i.2.2.1),(6,.int .i64 i.1),(7,.int .i64 i.2.1)],als:=[],meas:=fun i=>i.2.2.2}
theorem a2T:Aj G Tryz.prog 18 HU:=
 vcFun_okP [(45,0,RA)] [(36,⟨Sg,sgA⟩)] false (fun x=>[(6,MT x)]) Tryz.func18 rfl (by decide) ⟨b3G,trivial⟩ (fun(x:List UInt8)=>True∧Aa (decide ((↑(List.length x):Int)>(3000:Int))) (rA HU x [.tup [As [],.int .i64 (3000:Int),.bool false],.top]) (eA (MT x) [.str x,As [],.int .i64 (0:Int),.int .i64 (0:Int)]∧∀(i:Int×Int×List Sg×Nat),sgJ x i.1 i.2.1 i.2.2.1 i.2.2.2→Aa (decide (i.1<(↑(List.length x):Int))) (((0:Int)≤i.1∧i.1<(↑(List.length x):Int))∧∀(c:UInt8),x[Int.toNat i.1]? =some c→Aa ((↑(UInt8.toNat c):Int)==(32:Int)) (inR IntKind.i64 (i.1+(1:Int))∧eN (MT x) i [.str x,As i.2.2.1,.int .i64 (i.1+(1:Int)),.int .i64 i.2.1]) (((0:Int)≤i.1∧i.1<(↑(List.length x):Int))∧∀(c:UInt8),x[Int.toNat i.1]? =some c→Aa ((↑(UInt8.toNat c):Int)==(10:Int)) (inR IntKind.i64 (i.2.1+(1:Int))∧inR IntKind.i64 (i.1+(1:Int))∧eN (MT x) i [.str x,As i.2.2.1,.int .i64 (i.1+(1:Int)),.int .i64 (i.2.1+(1:Int))]) (cA RA [.str x,.int .i64 i.1] fun x_1 y=>Aa (y.2.2.2.2==(0:Int)) (rA HU x [.tup [As [],.int .i64 i.1,.bool false],.top]) (∃(x_2:Sg),y.1=x_2.kind∧y.2.1=x_2.text∧y.2.2.1=x_2.pos∧decide (i.2.1>(1:Int))=x_2.blank∧∃(zs:List Sg),As [x_2]=As zs∧Be sgA∧AS (List.length i.2.2.1+List.length zs) (40:Nat)∧inR IntKind.i64 (i.1+y.2.2.2.2)∧eN (MT x) i [.str x,As (i.2.2.1++zs),.int .i64 (i.1+y.2.2.2.2),.int .i64 (0:Int)])))) (rA HU x [.tup [As i.2.2.1,.int .i64 (0:Int),.bool true],.top]))) (fun x=>by kernel_rfl) fun(x:List UInt8) (hx:x.length<2^62)=>(by
 dsimp only[cA,eA,eN,MT,As,rA,RA,HU,Bj,sgs,Av,AB,mvL,lnL,mvE,lnE,Bw]
 have hx:x.length<2^62:=hx
 (repeat' first|(with_reducible first|rfl|exact True.intro|apply AK|apply And.intro|((first|apply Az|apply AI|apply AA|apply AJ)<;>intro _))|(apply Aw<;>intro _)|apply AH|refine Ae () ?_ ?_|((first|apply AO|apply AN|apply AM|apply AL|apply AG|apply AF|apply AE|apply AD|apply AC)<;>try dsimp only)|apply Ae|(refine Prod.forall.2 ?_;intro _;try dsimp only)|(intro _;try dsimp only))
 all_goals first
  |(show Nat;skip)
  |rfl
  |exact a1F ‹_›
  |exact(Ki (QY ‹_›)).2
  |exact(Ki (QY ‹_›)).1.symm
  |exact(QV ‹_› ‹_› ‹_› (by omega)).1
  |exact(QW ‹_› ‹_› ‹_› (by omega)).1
  |exact(a2R ‹_› ‹_› ‹_› ‹_› ‹_› ‹_› ‹_› ‹_›).1
  |exact(Ki (a2S ‹_› ‹_› ‹_› ‹_› ‹_› ‹_› ‹_› ‹_›)).2
  |exact(Ki (a2S ‹_› ‹_› ‹_› ‹_› ‹_› ‹_› ‹_› ‹_›)).1.symm
  |exact(QX ‹_› ‹_›).2
  |exact(QX ‹_› ‹_›).1.symm
  |(have hq:=Jj (show sgJ _ _ _ _ _ by assumption);(try simp only[AR]);omega)
  |(have hj:=(show sgJ _ _ _ _ _ by assumption);have hq:=Jj hj;have hz:=b3F hj ‹_›;(try simp only[AR]);omega)
  |(have hq:=Jj (show sgJ _ _ _ _ _ by assumption);(try simp only[AS,List.length_append,List.length_cons,List.length_nil]);omega)
  |(simp [AS];done)
  |skip
 all_goals first
  |exact(QV ‹_› ‹_› ‹_› (by omega)).2
  |exact(QW ‹_› ‹_› ‹_› (by omega)).2
  |exact(a2R ‹_› ‹_› ‹_› ‹_› ‹_› ‹_› ‹_› ‹_›).2
  |rfl
  |skip)
end Go.My
end
section
set_option linter.unusedVariables false
set_option linter.unusedSimpArgs false
namespace Go.My
open Go.Eng Go.Proofs
variable {G:GInv}
theorem b3H{s:List UInt8}:CI s <+: s:=by
 have h:=List.dropWhile_suffix (fun c:UInt8=>decide (c.toNat=32)) (l:=s.reverse)
 unfold CI
 rw[←List.reverse_suffix,List.reverse_reverse];exact h
theorem VO{c:UInt8}{a s t:List UInt8}(h:t <+: c::s)(ht:t=a)(ha:a≠[]):a.head? =some c:=by
 subst ht
 match t with
 |[]=>exact(ha rfl).elim
 |d::r=>
  obtain⟨k,hk⟩:=h
  simp at hk
  simp [hk.1]
theorem b3I{s:List UInt8}(h:(Bc s).ok=true)(ht:(Bc s).text=[41]∨(Bc s).text=[61,62]∨(Bc s).text=[44]):(Bc s).kind=4:=by
 match s with
 |[]=>cases h
 |b::s=>
  have key:∀t:List UInt8,t <+: b::s→(t=[41]∨t=[61,62]∨t=[44])→b=41∨b=61∨b=44:=by
   intro t hp ht
   rcases ht with ht|ht|ht
   ·have:=VO hp ht (by simp);simp at this;exact .inl this.symm
   ·have:=VO hp ht (by simp);simp at this;exact .inr (.inl this.symm)
   ·have:=VO hp ht (by simp);simp at this;exact .inr (.inr this.symm)
  unfold Bc at h ht ⊢
  simp only at h ht ⊢
  split
  ·rename_i hb
   rw[if_pos hb] at ht
   rcases key _ (List.takeWhile_prefix _) ht with rfl|rfl|rfl<;>exact absurd hb (by decide)
  ·rename_i hb
   rw[if_neg hb] at h ht
   split
   ·rename_i hb2
    rw[if_pos hb2] at ht
    rcases key _ (List.takeWhile_prefix _) ht with rfl|rfl|rfl<;>exact absurd hb2 (by decide)
   ·rename_i hb2
    rw[if_neg hb2] at h ht
    split
    ·rename_i hb3
     rw[if_pos hb3] at ht h
     simp only at ht h
     have hp:(Dx (b::s)).1 <+: b::s:=by
      unfold Dx;split
      ·exact List.nil_prefix
      ·exact List.take_prefix _ _
     rcases key _ hp ht with rfl|rfl|rfl<;>exact absurd hb3 (by decide)
    ·rename_i hb3
     rw[if_neg hb3] at h ht
     split
     ·rename_i hb4
      rw[if_pos hb4] at ht
      have hb5:b=47:=by
       cases s with
       |nil=>simp at hb4
       |cons c s=>simp at hb4;exact hb4.1
      rcases key _ (b3H.trans (List.takeWhile_prefix _)) ht with rfl|rfl|rfl<;>exact absurd hb5 (by decide)
     ·rename_i hb4
      rw[if_neg hb4] at h
      split
      ·rfl
      ·rename_i hb5
       rw[if_neg hb5] at h
       split
       ·rfl
       ·rename_i hb6
        rw[if_neg hb6] at h;cases h
theorem RC{t:List UInt8}:∀(n:Nat) (i br:Int) (l:List Sg),EH t n i br=some l→sgM l
 |0,_,_,_,h=>by cases h
 |n+1,i,br,l,h=>by
  rw[EH] at h
  split at h
  ·simp at h;subst h;intro e he;simp at he
  ·split at h
   ·exact RC n _ _ _ h
   ·split at h
    ·exact RC n _ _ _ h
    ·split at h
     ·rename_i hok
      rw[Option.map_eq_some_iff] at h
      obtain⟨l',h1,rfl⟩:=h
      intro e he ht
      simp only[List.mem_cons] at he
      rcases he with rfl|he
      ·exact b3I hok ht
      ·exact RC n _ _ _ h1 e he ht
     ·cases h
theorem b3J{t:List UInt8}{l:List Sg}(h:Br t=some l):sgM l:=by
 rw[Br] at h
 split at h
 ·cases h
 ·exact RC _ _ _ _ h
def frI(t:List UInt8)(l:List Sg)(y:Gs)(ks:List Int)(ms:List (Int×Int))(N:Nat):Prop:=(Br t=some l∧sgB l)∧Dv l y ks ms N
theorem b3K{t:List UInt8}{l:List Sg}(h:sgQ t l)(hn:(Br t).isSome=true):frI t l ⟨0,0,false,[]⟩ [] [] (l.length+1):=⟨Kk h hn,a1H⟩
theorem VP{t:List UInt8}{s:ST}{y:Gs}{ks:List Int}{ms:List (Int×Int)}{N:Nat}(h:frI t s.sg y ks ms N):okQ s y:=⟨UX h.1.2 h.2,b3J h.1.1⟩
theorem RD{t:List UInt8}{l:List Sg}{y:Gs}{ks:List Int}{ms:List (Int×Int)}{N:Nat}{b:Bool}{z:Int×Gs}(h:frI t l y ks ms N)(hb:y.bad=false)(hl:y.pos<l.length)(hz:Af l y (Dp l false) z)(e:b=(blG l y&&decide (0<(ks.length:Int)))):
 frI t l (gBl z.2 z.1 b) (ks++[z.1]) (ms++[(y.pos,(gBl z.2 z.1 b).pos)]) (N-1)∧N-1<N:=by
 rw[VG hb] at e
 have hz2:Af l y (Dp l b) (z.1,gBl z.2 z.1 b):=VF VE hz
 obtain⟨a,c⟩:=UW h.2 hb hl hz2 e
 exact⟨⟨h.1,a⟩,c⟩
theorem b3L{t:List UInt8}{l:List Sg}{y:Gs}{ks:List Int}{ms:List (Int×Int)}{N:Nat}(h:frI t l y ks ms N):ks.length≤3001∧0≤y.pos∧y.pos≤l.length:=by
 have:=UY h.1.2 h.2;omega
def frE(l:List Sg)(y:Gs):Prop:=y.bad=true∨¬y.pos<l.length
theorem MU{l:List Sg}{y:Gs}(h:y.bad=true):frE l y:= .inl h
theorem MV{l:List Sg}{y:Gs}(h:¬y.pos<l.length):frE l y:= .inr h
theorem MW:BE []:=⟨by simp,by simp⟩
theorem RE{t:List UInt8}{l:List Sg}{y:Gs}{ks:List Int}{ms:List (Int×Int)}{N:Nat}(h:frI t l y ks ms N):sgQ t l∧(Br t).isSome=true:=⟨.inl h.1,by rw[h.1.1];rfl⟩
theorem RF{t:List UInt8}{l:List Sg}{y:Gs}{ks:List Int}{ms:List (Int×Int)}{N:Nat}(h:frI t l y ks ms N)(he:frE l y)(hb:(Ag y ⟨22,[],ks,false⟩).bad=true):CC t=none:=Va (a1J (RE h).1 (RE h).2 ⟨h.2,he⟩ hb) hb
theorem Kp{t:List UInt8}{l:List Sg}{y:Gs}{ks:List Int}{ms:List (Int×Int)}{N:Nat}(h:frI t l y ks ms N)(he:frE l y)(hb:(Ag y ⟨22,[],ks,false⟩).bad=false):
 (Df (Ag y ⟨22,[],ks,false⟩).nodes=false→CC t=none)∧(Df (Ag y ⟨22,[],ks,false⟩).nodes=true→CC t=some (Ag y ⟨22,[],ks,false⟩).nodes):=by
 have a:=a1K (RE h).1 (RE h).2 ⟨h.2,he⟩ hb
 refine⟨fun h2=>Va a (by simp only[BM,h2];rfl),fun h2=>(b0V a (by simp only[BM,h2];rfl)).1⟩
theorem OD{t:List UInt8}{l:List Sg}{y:Gs}{ks:List Int}{ms:List (Int×Int)}{N:Nat}(h:frI t l y ks ms N):BE (Ag y ⟨22,[],ks,false⟩).nodes∧(Ag y ⟨22,[],ks,false⟩).nodes.length≤1073741824∧0≤(Ag y ⟨22,[],ks,false⟩).pos:=by
 have a:=It h.2.1 (QZ h.1.2 h.2)
 have b:=UZ a
 exact⟨b.1,by omega,a.1.1⟩
theorem a2U{t:List UInt8}(h:(Br t).isSome=false):CC t=none:=by
 rw[CC]
 cases hs:Br t with
 |none=>rfl
 |some l=>rw[hs] at h;cases h
theorem b3M{T0 T1 T2 T3:Type}{p q:ST×T0×T1×T2×T3→Prop}(a:List Sg)(v0:T0)(v1:T1)(v2:T2)(v3:T3)(h2:q (⟨a,0,[]⟩,v0,v1,v2,v3))(h1:p (⟨a,0,[]⟩,v0,v1,v2,v3)):∃x,p x∧q x:=⟨_,h1,h2⟩
theorem b3N{T0 T1 T2 T3 T4 T5:Type}{p q:ST×T0×T1×T2×T3×T4×T5→Prop}(a:List Sg)(v0:T0)(v1:T1)(v2:T2)(v3:T3)(v4:T4)(v5:T5)(h2:q (⟨a,0,[]⟩,v0,v1,v2,v3,v4,v5))(h1:p (⟨a,0,[]⟩,v0,v1,v2,v3,v4,v5)):∃x,p x∧q x:=⟨_,h1,h2⟩
theorem b3O{T0 T1 T2 T3 T4 T5 T6:Type}{p q:ST×T0×T1×T2×T3×T4×T5×T6→Prop}(a:List Sg)(v0:T0)(v1:T1)(v2:T2)(v3:T3)(v4:T4)(v5:T5)(v6:T6)(h2:q (⟨a,0,[]⟩,v0,v1,v2,v3,v4,v5,v6))(h1:p (⟨a,0,[]⟩,v0,v1,v2,v3,v4,v5,v6)):∃x,p x∧q x:=⟨_,h1,h2⟩
attribute [local irreducible] frI frE gBl blG Ag Ax gsOk Af Dp CC Br Df sgM okQ
def Gl:Sig:= {X:=List UInt8,args:=fun x=>[.str x],pre:=fun x=>x.length<2^62,Y:=List Nd×Int,post:=fun x y=>y.1=(CC x).getD []∧BE y.1,res:=fun x y=> .tup [nds y.1,.int .i64 y.2,.bool (CC x).isSome],outs:=fun x y=>[.top],keep:=true}
def OE(x:List UInt8):LS:= {ι:=List Sg×Int×Int×Bool×List Nd×List Int×List (Int×Int)×Nat,inv:=fun i=>frI x i.1 (iF i.2) i.2.2.2.2.2.1 i.2.2.2.2.2.2.1 i.2.2.2.2.2.2.2,regs:=fun i=>[(0,.str x),(5,Au []),(6,sgs i.1),(9,srd ⟨i.1,0,[]⟩ (iF i.2)),(10,Ab i.2.2.2.2.2.1)],als:=[],meas:=fun i=>i.2.2.2.2.2.2.2}
theorem b3P:Aj G Tryz.prog 16 Gl:=
 vcFun_okP [(18,0,HU),(40,0,FH),(41,0,HT),(42,0,Eh),(43,0,Bq),(44,0,HB)] [(36,⟨Sg,sgA⟩),(45,⟨Int,Bb⟩),(32,⟨Nd,ndA true⟩)] false (fun x=>[(7,OE x)]) Tryz.func16 rfl (by decide) ⟨a2T,Rf,b3y,Rh,Hk,a8A,trivial⟩ (fun(x:List UInt8)=>True∧cA HU [.str x] fun x_1 y=>Aa (!Option.isSome (Br x_1)) (rA Gl x [.tup [Au [],.int .i64 y.2,.bool false],.top]) (eA (OE x) [.str x,Au [],sgs y.1,.box 0 [sgs y.1,.int .i64 (0:Int),.bool false,.int .i64 (0:Int),.nil],Ab []]∧∀(i:List Sg×Int×Int×Bool×List Nd×List Int×List (Int×Int)×Nat),frI x i.1 (iF i.2) i.2.2.2.2.2.1 i.2.2.2.2.2.2.1 i.2.2.2.2.2.2.2→Aa (!(iF i.2).bad) (Aa (decide ((iF i.2).pos<(↑(List.length i.1):Int))) (cA FH [.box 0 [sgs i.1,.int .i64 (iF i.2).pos,.bool (iF i.2).bad,.int .i64 (iF i.2).deep,Au (iF i.2).nodes]] fun x_2 y=>Aa (blG x_2.1.sg (xg x_2)) (cA HT [srd x_2.1 (xg x_2),.bool true] fun x_3 y=>cA Eh [srd x_3.1 (yG y.2),.int .i64 y.1,.bool (decide ((↑(List.length i.2.2.2.2.2.1):Int)>(0:Int)))] fun x_4 y_1=>∃(x_5:Int),y.1=x_5∧∃(zs:List Int),Ab [x_5]=Ab zs∧Be Bb∧AS (List.length i.2.2.2.2.2.1+List.length zs) (8:Nat)∧eN (OE x) i [.str x,Au [],sgs i.1,srd x_4.1 (gBl (xh x_4) x_4.2.2.2.2.2.1 x_4.2.2.2.2.2.2),Ab (i.2.2.2.2.2.1++zs)]) (cA HT [srd x_2.1 (xg x_2),.bool true] fun x_3 y=>cA Eh [srd x_3.1 (yG y.2),.int .i64 y.1,.bool false] fun x_4 y_1=>∃(x_5:Int),y.1=x_5∧∃(zs:List Int),Ab [x_5]=Ab zs∧Be Bb∧AS (List.length i.2.2.2.2.2.1+List.length zs) (8:Nat)∧eN (OE x) i [.str x,Au [],sgs i.1,srd x_4.1 (gBl (xh x_4) x_4.2.2.2.2.2.1 x_4.2.2.2.2.2.2),Ab (i.2.2.2.2.2.1++zs)])) (cA Bq [.box 0 [sgs i.1,.int .i64 (iF i.2).pos,.bool (iF i.2).bad,.int .i64 (iF i.2).deep,Au (iF i.2).nodes],.int .i64 (22:Int),.str #[].toList,Ab i.2.2.2.2.2.1] fun x_2 y=>Aa (Ag (xh x_2) {kind:=x_2.2.2.2.2.2.1,text:=x_2.2.2.2.2.2.2.1,kids:=x_2.2.2.2.2.2.2.2,blank:=false}).bad (Aa (decide ((Ag (xh x_2) {kind:=x_2.2.2.2.2.2.1,text:=x_2.2.2.2.2.2.2.1,kids:=x_2.2.2.2.2.2.2.2,blank:=false}).pos<(↑(List.length i.1):Int))) (true=true∧true=true∧((0:Int)≤(Ag (xh x_2) {kind:=x_2.2.2.2.2.2.1,text:=x_2.2.2.2.2.2.2.1,kids:=x_2.2.2.2.2.2.2.2,blank:=false}).pos∧(Ag (xh x_2) {kind:=x_2.2.2.2.2.2.1,text:=x_2.2.2.2.2.2.2.1,kids:=x_2.2.2.2.2.2.2.2,blank:=false}).pos<(↑(List.length i.1):Int))∧∀(e:Sg),i.1[Int.toNat (Ag (xh x_2) {kind:=x_2.2.2.2.2.2.1,text:=x_2.2.2.2.2.2.2.1,kids:=x_2.2.2.2.2.2.2.2,blank:=false}).pos]? =some e→rA Gl x [.tup [Au [],.int .i64 e.pos,.bool false],.top]) (rA Gl x [.tup [Au [],.int .i64 (↑(List.length x):Int),.bool false],.top])) (cA HB [Au (Ag (xh x_2) {kind:=x_2.2.2.2.2.2.1,text:=x_2.2.2.2.2.2.2.1,kids:=x_2.2.2.2.2.2.2.2,blank:=false}).nodes] fun x_3 y=>Aa (!Df x_3) (rA Gl x [.tup [Au [],.int .i64 (0:Int),.bool false],.top]) (rA Gl x [.tup [Au (Ag (xh x_2) {kind:=x_2.2.2.2.2.2.1,text:=x_2.2.2.2.2.2.2.1,kids:=x_2.2.2.2.2.2.2.2,blank:=false}).nodes,.int .i64 (0:Int),.bool true],.top])))) (cA Bq [.box 0 [sgs i.1,.int .i64 (iF i.2).pos,.bool (iF i.2).bad,.int .i64 (iF i.2).deep,Au (iF i.2).nodes],.int .i64 (22:Int),.str #[].toList,Ab i.2.2.2.2.2.1] fun x_2 y=>Aa (Ag (xh x_2) {kind:=x_2.2.2.2.2.2.1,text:=x_2.2.2.2.2.2.2.1,kids:=x_2.2.2.2.2.2.2.2,blank:=false}).bad (Aa (decide ((Ag (xh x_2) {kind:=x_2.2.2.2.2.2.1,text:=x_2.2.2.2.2.2.2.1,kids:=x_2.2.2.2.2.2.2.2,blank:=false}).pos<(↑(List.length i.1):Int))) (true=true∧true=true∧((0:Int)≤(Ag (xh x_2) {kind:=x_2.2.2.2.2.2.1,text:=x_2.2.2.2.2.2.2.1,kids:=x_2.2.2.2.2.2.2.2,blank:=false}).pos∧(Ag (xh x_2) {kind:=x_2.2.2.2.2.2.1,text:=x_2.2.2.2.2.2.2.1,kids:=x_2.2.2.2.2.2.2.2,blank:=false}).pos<(↑(List.length i.1):Int))∧∀(e:Sg),i.1[Int.toNat (Ag (xh x_2) {kind:=x_2.2.2.2.2.2.1,text:=x_2.2.2.2.2.2.2.1,kids:=x_2.2.2.2.2.2.2.2,blank:=false}).pos]? =some e→rA Gl x [.tup [Au [],.int .i64 e.pos,.bool false],.top]) (rA Gl x [.tup [Au [],.int .i64 (↑(List.length x):Int),.bool false],.top])) (cA HB [Au (Ag (xh x_2) {kind:=x_2.2.2.2.2.2.1,text:=x_2.2.2.2.2.2.2.1,kids:=x_2.2.2.2.2.2.2.2,blank:=false}).nodes] fun x_3 y=>Aa (!Df x_3) (rA Gl x [.tup [Au [],.int .i64 (0:Int),.bool false],.top]) (rA Gl x [.tup [Au (Ag (xh x_2) {kind:=x_2.2.2.2.2.2.1,text:=x_2.2.2.2.2.2.2.1,kids:=x_2.2.2.2.2.2.2.2,blank:=false}).nodes,.int .i64 (0:Int),.bool true],.top]))))) (fun x=>by kernel_rfl) fun(x:List UInt8) (hx:x.length<2^62)=>(by
 dsimp only[cA,eA,eN,OE,Bg,nds,Ab,Au,As,rA,FH,Eh,HT,Bq,Gl,HU,HB,Bj,sgs,srd,Av,AB,mvL,lnL,mvE,lnE,Bw]
 have hx:x.length<2^62:=hx
 (repeat' first|(apply b3O<;>try dsimp only)|(apply b3N<;>try dsimp only)|(apply b3M<;>try dsimp only)|(with_reducible first|rfl|exact True.intro|apply AK|apply And.intro|((first|apply Az|apply AI|apply AA|apply AJ)<;>intro _))|(apply Aw<;>intro _)|apply AH|refine Ae () ?_ ?_|((first|apply AO|apply AN|apply AM|apply AL|apply AG|apply AF|apply AE|apply AD|apply AC)<;>try dsimp only)|apply Ae|(refine Prod.forall.2 ?_;intro _;try dsimp only)|(intro _;try dsimp only))
 all_goals(try dsimp only[xg,xh,yG,yS,iG,iF] at*)
 all_goals(try simp only[CN] at*)
 all_goals first
  |(show Nat;skip)
  |(show List (Int×Int);skip)
  |rfl
  |exact hx
  |exact b3K ‹_› ‹_›
  |(rw[a2U ‹_›];rfl)
  |(rw[a2U ‹_›];exact MW)
  |exact(RD ‹_› ‹_› ‹_› ‹_› (GE ‹_›)).1
  |exact(RD ‹_› ‹_› ‹_› ‹_› (GF ‹_›)).1
  |exact VP (s:=⟨_,0,[]⟩) ‹_›
  |exact(EA (VP (s:=⟨_,0,[]⟩) ‹_›)).1
  |exact Dr (EA (VP (s:=⟨_,0,[]⟩) ‹_›)).1 ‹_›
  |exact MQ VE ‹_›
  |exact MQ VE ‹_› ‹_›
  |assumption
  |omega
  |exact(OD ‹_›).1
  |exact(OD ‹_›).2.1
  |(rw[RF ‹_› (MU ‹_›) ‹_›];rfl)
  |(rw[RF ‹_› (MU ‹_›) ‹_›];exact MW)
  |(rw[(Kp ‹_› (MU ‹_›) ‹_›).1 ‹_›];rfl)
  |(rw[(Kp ‹_› (MU ‹_›) ‹_›).2 ‹_›];rfl)
  |(rw[(Kp ‹_› (MU ‹_›) ‹_›).1 ‹_›];exact MW)
  |(rw[(Kp ‹_› (MU ‹_›) ‹_›).2 ‹_›];exact(OD ‹_›).1)
  |(rw[RF ‹_› (MV ‹_›) ‹_›];rfl)
  |(rw[RF ‹_› (MV ‹_›) ‹_›];exact MW)
  |(rw[(Kp ‹_› (MV ‹_›) ‹_›).1 ‹_›];rfl)
  |(rw[(Kp ‹_› (MV ‹_›) ‹_›).2 ‹_›];rfl)
  |(rw[(Kp ‹_› (MV ‹_›) ‹_›).1 ‹_›];exact MW)
  |(rw[(Kp ‹_› (MV ‹_›) ‹_›).2 ‹_›];exact(OD ‹_›).1)
  |(have hq:=(OD (show frI _ _ _ _ _ _ by assumption)).2.2;omega)
  |exact MW
  |(simp [AS];done)
  |(have hq:=b3L (show frI _ _ _ _ _ _ by assumption);(try simp only[AS,List.length_append,List.length_cons,List.length_nil]);omega)
  |skip
 all_goals first
  |exact(RD ‹_› ‹_› ‹_› ‹_› (GE ‹_›)).2
  |exact(RD ‹_› ‹_› ‹_› ‹_› (GF ‹_›)).2
  |rfl
  |skip)
end Go.My
end
section
set_option linter.unusedVariables false
set_option linter.unusedSimpArgs false
namespace Go.My
open Go.Eng Go.Proofs
variable {G:GInv}
def eqF{α:Type}(p:α→α→Bool):List α→List α→Bool
 |[],[]=>true
 |x::a,y::b=>p x y&&eqF p a b
 |_,_=>false
def eqW{α:Type}(p:α→α→Bool)(a b:List α)(i:Int):Prop:=((0≤i∧i≤a.length)∧a.length=b.length)∧eqF p a b=eqF p (a.drop i.toNat) (b.drop i.toNat)
def b3Q(x y:Sg):Bool:=decide (x.kind=y.kind)&&(x.text==y.text)
attribute [local irreducible] eqW
end Go.My
end
section
set_option linter.unusedVariables false
set_option linter.unusedSimpArgs false
namespace Go.My
open Go.Eng Go.Proofs
variable {G:GInv}
def Dl(l:List Sg)(i:Int):Bool:=decide (i+1<l.length)&&(Ey l i 4 [44]&&(Ey l (i+1) 4 [41]||Ey l (i+1) 4 [93]))
def Ei(l:List Sg):Nat→List Sg
 |0=>[]
 |n+1=>if Dl l n then Ei l n else Ei l n++[sgO l n]
theorem VQ{l:List Sg}:∀ {n:Nat},(Ei l n).length≤n
 |0=>Nat.le_refl _
 |n+1=>by
  have:= @VQ l n
  rw[Ei];split
  ·omega
  ·simp;omega
theorem b3R{l:List Sg}{i:Int}(h0:0≤i)(h:Dl l i=true):Ei l i.toNat=Ei l (i+1).toNat:=by
 have e:((i.toNat:Nat):Int)=i:=by omega
 rw[show(i+1).toNat=i.toNat+1 by omega,Ei,e,if_pos h]
theorem a2V{l:List Sg}{i:Int}(h0:0≤i)(h:Dl l i=false):Ei l i.toNat++[sgO l i]=Ei l (i+1).toNat:=by
 have e:((i.toNat:Nat):Int)=i:=by omega
 rw[show(i+1).toNat=i.toNat+1 by omega,Ei,e,if_neg (by simp [h])]
def OF(l:List Sg):Nat→List (List UInt8)
 |0=>[]
 |n+1=>if(sgO l n).kind=5 then OF l n++[(sgO l n).text] else OF l n
def Cu(l:List Sg):List Sg:=Ei l l.length
def b3S(l:List Sg):List (List UInt8):=OF l l.length
def lfI(l:List Sg)(i:Int)(o:List Sg):Prop:=(0≤i∧i≤l.length)∧o=Ei l i.toNat
theorem a2W{l:List Sg}:lfI l 0 []:=⟨by omega,rfl⟩
theorem RG{l:List Sg}{i:Int}{o:List Sg}(h:lfI l i o):(0≤i∧i≤l.length)∧o.length≤l.length:=by
 refine⟨h.1,?_⟩
 rw[h.2];have:= @VQ l i.toNat;have:=h.1;omega
theorem VR{l:List Sg}{i:Int}{o:List Sg}(h:lfI l i o)(hi:i<l.length)(hs:Dl l i=true):lfI l (i+1) o:=⟨by have:=h.1;omega,by rw[h.2];exact b3R h.1.1 hs⟩
theorem a2X{l:List Sg}{i:Int}{o:List Sg}{e:Sg}(h:lfI l i o)(hi:i<l.length)(he:l[i.toNat]? =some e)(hs:Dl l i=false):lfI l (i+1) (o++[e]):=⟨by have:=h.1;omega,by rw[h.2,←Gb he];exact a2V h.1.1 hs⟩
theorem b3T{l:List Sg}{i:Int}{o:List Sg}(h:lfI l i o)(hi:i<l.length)(hs:Dl l i=false):lfI l (i+1) (o++[sgO l i]):=⟨by have:=h.1;omega,by rw[h.2];exact a2V h.1.1 hs⟩
theorem RH{l:List Sg}{i:Int}{o:List Sg}(h:lfI l i o)(hi:¬i<l.length):o=Cu l:=by
 rw[h.2,Cu,show i.toNat=l.length by have:=h.1;omega]
def ntI(l:List Sg)(i:Int)(o:List (List UInt8)):Prop:=(0≤i∧i≤l.length)∧o=OF l i.toNat
theorem b3U{l:List Sg}:(Cu l).length≤l.length:= @VQ l l.length
attribute [local irreducible] Ei OF lfI ntI Cu b3S
def HV:Sig:= {X:=List Sg×Int,args:=fun x=>[sgs x.1,.int .i64 x.2],pre:=fun x=>(0≤x.2∧x.2<x.1.length)∧x.1.length<2^62,Y:=Unit,post:=fun x y=>True,res:=fun x y=> .bool (Dl x.1 x.2),outs:=fun x y=>[.top,.top],keep:=false}
theorem b3V:Aj G Tryz.prog 94 HV:=
 vcFun_okP [] [] false (fun x=>[]) Tryz.func94 rfl (by decide) trivial (fun(x:List Sg×Int)=>(∀(y:Unit),True→True∧True∧True∧True)∧inR IntKind.i64 (x.2+(1:Int))∧Aa (decide (x.2+(1:Int)≥(↑(List.length x.1):Int))) (rA HV x [.bool false,.top,.top]) (((0:Int)≤x.2∧x.2<(↑(List.length x.1):Int))∧∀(e:Sg),x.1[Int.toNat x.2]? =some e→Aa (e.kind != (4:Int)) (rA HV x [.bool false,.top,.top]) (((0:Int)≤x.2∧x.2<(↑(List.length x.1):Int))∧∀(e:Sg),x.1[Int.toNat x.2]? =some e→Aa (!e.text== #[(44:UInt8)].toList) (rA HV x [.bool false,.top,.top]) (inR IntKind.i64 (x.2+(1:Int))∧((0:Int)≤x.2+(1:Int)∧x.2+(1:Int)<(↑(List.length x.1):Int))∧∀(e:Sg),x.1[Int.toNat (x.2+(1:Int))]? =some e→Aa (e.kind==(4:Int)) (Aa (e.text== #[(41:UInt8)].toList) (rA HV x [.bool true,.top,.top]) (rA HV x [.bool (e.text== #[(93:UInt8)].toList),.top,.top])) (rA HV x [.bool false,.top,.top]))))) (fun x=>by kernel_rfl) fun(x:List Sg×Int) (hx:(0≤x.2∧x.2<x.1.length)∧x.1.length<2^62)=>(by
 dsimp only[rA,HV,Bj,sgs,Av,AB]
 obtain⟨h1,h2⟩:=hx
 (repeat' first|(with_reducible first|rfl|exact True.intro|apply AK|apply And.intro|((first|apply Az|apply AI|apply AA|apply AJ)<;>intro _))|(apply Aw<;>intro _)|apply AH|refine Ae () ?_ ?_|((first|apply AO|apply AN|apply AM|apply AL|apply AG|apply AF|apply AE|apply AD|apply AC)<;>try dsimp only)|apply Ae|(refine Prod.forall.2 ?_;intro _;try dsimp only)|(intro _;try dsimp only))
 all_goals(repeat(rename x.1[_]? =some _=>hq;have hq2:=Gb hq;clear hq;subst hq2))
 all_goals first
  |rfl
  |((try simp only[AR]);omega)
  |(rw[Bool.eq_iff_iff];simp [Dl,Ey,*];done)
  |(rw[Bool.eq_iff_iff];simp [Dl,Ey,*];omega)
  |skip)
def VS:Sig:= {X:=List Sg,args:=fun x=>[sgs x],pre:=fun x=>x.length<2^30,Y:=Unit,post:=fun x y=>True,res:=fun x y=>sgs (Cu x),outs:=fun x y=>[.top],keep:=true}
def OG(x:List Sg):LS:= {ι:=Int×List Sg,inv:=fun i=>lfI x i.1 i.2,regs:=fun i=>[(0,sgs x),(3,As i.2),(6,sgs x),(7,.int .i64 x.length),(8,.int .i64 i.1)],als:=[],meas:=fun i=>x.length-i.1.toNat}
theorem iLeft_ok:Aj G Tryz.prog 52 VS:=
 vcFun_okP [(94,0,HV)] [(36,⟨Sg,sgA⟩)] false (fun x=>[(3,OG x)]) Tryz.func52 rfl (by decide) ⟨b3V,trivial⟩ (fun(x:List Sg)=>True∧eA (OG x) [sgs x,.nil,sgs x,.int .i64 (↑(List.length x):Int),.int .i64 (0:Int)]∧∀(i:Int×List Sg),lfI x i.1 i.2→Aa (decide (i.1<(↑(List.length x):Int))) (((0:Int)≤i.1∧i.1<(↑(List.length x):Int))∧∀(e:Sg),x[Int.toNat i.1]? =some e→cA HV [sgs x,.int .i64 i.1] fun x_1 y=>Aa (!Dl x_1.1 x_1.2) (∃(x_2:Sg),e.kind=x_2.kind∧e.text=x_2.text∧e.pos=x_2.pos∧e.blank=x_2.blank∧∃(zs:List Sg),As [x_2]=As zs∧Be sgA∧AS (List.length i.2+List.length zs) (40:Nat)∧inR IntKind.i64 (i.1+(1:Int))∧eN (OG x) i [sgs x,As (i.2++zs),sgs x,.int .i64 (↑(List.length x):Int),.int .i64 (i.1+(1:Int))]) (inR IntKind.i64 (i.1+(1:Int))∧eN (OG x) i [sgs x,As i.2,sgs x,.int .i64 (↑(List.length x):Int),.int .i64 (i.1+(1:Int))])) (rA VS x [As i.2,.top])) (fun x=>by kernel_rfl) fun(x:List Sg) (hx:x.length<2^30)=>(by
 dsimp only[cA,eA,eN,OG,As,rA,VS,HV,Bj,sgs,Av,AB,mvL,lnL,mvE,lnE,Bw]
 have hx:x.length<2^30:=hx
 (repeat' first|(with_reducible first|rfl|exact True.intro|apply AK|apply And.intro|((first|apply Az|apply AI|apply AA|apply AJ)<;>intro _))|(apply Aw<;>intro _)|apply AH|refine Ae () ?_ ?_|((first|apply AO|apply AN|apply AM|apply AL|apply AG|apply AF|apply AE|apply AD|apply AC)<;>try dsimp only)|apply Ae|(refine Prod.forall.2 ?_;intro _;try dsimp only)|(intro _;try dsimp only))
 all_goals first
  |rfl
  |exact a2W
  |exact VR ‹_› ‹_› ‹_›
  |exact a2X ‹_› ‹_› ‹_› ‹_›
  |exact RH ‹_› ‹_›
  |exact congrArg _ (RH ‹_› ‹_›)
  |omega
  |(have hq:=RG (show lfI _ _ _ by assumption);(try simp only[AR]);omega)
  |(have hq:=RG (show lfI _ _ _ by assumption);(try simp only[AS,List.length_append,List.length_cons,List.length_nil]);omega)
  |skip)
def MX:Sig:= {X:=List Sg,args:=fun x=>[sgs x],pre:=fun x=>x.length<2^30,Y:=Unit,post:=fun x y=>True,res:=fun x y=>sgs (Cu x),outs:=fun x y=>[.top],keep:=true}
def IB(x:List Sg):LS:= {ι:=Int×List Sg,inv:=fun i=>lfI x i.1 i.2,regs:=fun i=>[(0,sgs x),(3,As i.2),(4,.int .i64 i.1)],als:=[],meas:=fun i=>x.length-i.1.toNat}
theorem b3W:Aj G Tryz.prog 35 MX:=
 vcFun_okP [] [(36,⟨Sg,sgA⟩)] false (fun x=>[(3,IB x)]) Tryz.func35 rfl (by decide) trivial (fun(x:List Sg)=>True∧eA (IB x) [sgs x,As [],.int .i64 (0:Int)]∧∀(i:Int×List Sg),lfI x i.1 i.2→Aa (decide (i.1<(↑(List.length x):Int))) (((0:Int)≤i.1∧i.1<(↑(List.length x):Int))∧∀(e:Sg),x[Int.toNat i.1]? =some e→Aa (e.kind==(4:Int)) (((0:Int)≤i.1∧i.1<(↑(List.length x):Int))∧∀(e:Sg),x[Int.toNat i.1]? =some e→Aa (e.text== #[(44:UInt8)].toList) (inR IntKind.i64 (i.1+(1:Int))∧Aa (decide (i.1+(1:Int)<(↑(List.length x):Int))) (inR IntKind.i64 (i.1+(1:Int))∧((0:Int)≤i.1+(1:Int)∧i.1+(1:Int)<(↑(List.length x):Int))∧∀(e:Sg),x[Int.toNat (i.1+(1:Int))]? =some e→Aa (e.kind==(4:Int)) (inR IntKind.i64 (i.1+(1:Int))∧((0:Int)≤i.1+(1:Int)∧i.1+(1:Int)<(↑(List.length x):Int))∧∀(e:Sg),x[Int.toNat (i.1+(1:Int))]? =some e→Aa (e.text== #[(41:UInt8)].toList) (inR IntKind.i64 (i.1+(1:Int))∧eN (IB x) i [sgs x,As i.2,.int .i64 (i.1+(1:Int))]) (inR IntKind.i64 (i.1+(1:Int))∧((0:Int)≤i.1+(1:Int)∧i.1+(1:Int)<(↑(List.length x):Int))∧∀(e:Sg),x[Int.toNat (i.1+(1:Int))]? =some e→Aa (e.text== #[(93:UInt8)].toList) (inR IntKind.i64 (i.1+(1:Int))∧eN (IB x) i [sgs x,As i.2,.int .i64 (i.1+(1:Int))]) (((0:Int)≤i.1∧i.1<(↑(List.length x):Int))∧∀(e:Sg),x[Int.toNat i.1]? =some e→∃(x_1:Sg),e.kind=x_1.kind∧e.text=x_1.text∧e.pos=x_1.pos∧e.blank=x_1.blank∧∃(zs:List Sg),As [x_1]=As zs∧Be sgA∧AS (List.length i.2+List.length zs) (40:Nat)∧inR IntKind.i64 (i.1+(1:Int))∧eN (IB x) i [sgs x,As (i.2++zs),.int .i64 (i.1+(1:Int))]))) (((0:Int)≤i.1∧i.1<(↑(List.length x):Int))∧∀(e:Sg),x[Int.toNat i.1]? =some e→∃(x_1:Sg),e.kind=x_1.kind∧e.text=x_1.text∧e.pos=x_1.pos∧e.blank=x_1.blank∧∃(zs:List Sg),As [x_1]=As zs∧Be sgA∧AS (List.length i.2+List.length zs) (40:Nat)∧inR IntKind.i64 (i.1+(1:Int))∧eN (IB x) i [sgs x,As (i.2++zs),.int .i64 (i.1+(1:Int))])) (((0:Int)≤i.1∧i.1<(↑(List.length x):Int))∧∀(e:Sg),x[Int.toNat i.1]? =some e→∃(x_1:Sg),e.kind=x_1.kind∧e.text=x_1.text∧e.pos=x_1.pos∧e.blank=x_1.blank∧∃(zs:List Sg),As [x_1]=As zs∧Be sgA∧AS (List.length i.2+List.length zs) (40:Nat)∧inR IntKind.i64 (i.1+(1:Int))∧eN (IB x) i [sgs x,As (i.2++zs),.int .i64 (i.1+(1:Int))])) (((0:Int)≤i.1∧i.1<(↑(List.length x):Int))∧∀(e:Sg),x[Int.toNat i.1]? =some e→∃(x_1:Sg),e.kind=x_1.kind∧e.text=x_1.text∧e.pos=x_1.pos∧e.blank=x_1.blank∧∃(zs:List Sg),As [x_1]=As zs∧Be sgA∧AS (List.length i.2+List.length zs) (40:Nat)∧inR IntKind.i64 (i.1+(1:Int))∧eN (IB x) i [sgs x,As (i.2++zs),.int .i64 (i.1+(1:Int))])) (((0:Int)≤i.1∧i.1<(↑(List.length x):Int))∧∀(e:Sg),x[Int.toNat i.1]? =some e→∃(x_1:Sg),e.kind=x_1.kind∧e.text=x_1.text∧e.pos=x_1.pos∧e.blank=x_1.blank∧∃(zs:List Sg),As [x_1]=As zs∧Be sgA∧AS (List.length i.2+List.length zs) (40:Nat)∧inR IntKind.i64 (i.1+(1:Int))∧eN (IB x) i [sgs x,As (i.2++zs),.int .i64 (i.1+(1:Int))])) (rA MX x [As i.2,.top])) (fun x=>by kernel_rfl) fun(x:List Sg) (hx:x.length<2^30)=>(by
 dsimp only[eA,eN,IB,As,rA,MX,Bj,sgs,Av,AB,Bw]
 have hx:x.length<2^30:=hx
 (repeat' first|(with_reducible first|rfl|exact True.intro|apply AK|apply And.intro|((first|apply Az|apply AI|apply AA|apply AJ)<;>intro _))|(apply Aw<;>intro _)|apply AH|refine Ae () ?_ ?_|((first|apply AO|apply AN|apply AM|apply AL|apply AG|apply AF|apply AE|apply AD|apply AC)<;>try dsimp only)|apply Ae|(refine Prod.forall.2 ?_;intro _;try dsimp only)|(intro _;try dsimp only))
 all_goals first
  |rfl
  |exact a2W
  |exact VR ‹_› ‹_› ‹_›
  |exact a2X ‹_› ‹_› ‹_› ‹_›
  |exact RH ‹_› ‹_›
  |exact congrArg _ (RH ‹_› ‹_›)
  |omega
  |(have hq:=RG (show lfI _ _ _ by assumption);(try simp only[AR]);omega)
  |(have hq:=RG (show lfI _ _ _ by assumption);(try simp only[AS,List.length_append,List.length_cons,List.length_nil]);omega)
  |skip
 all_goals(repeat(rename x[_]? =some _=>hq;have hq2:=Gb hq;clear hq;subst hq2))
 all_goals first
  |(refine VR ‹_› ‹_› ?_;simp [Dl,Ey,*];done)
  |(refine b3T ‹_› ‹_› ?_;simp [Dl,Ey,*];done)
  |skip)
def kwF(p q:List Sg):Bool:=eqF b3Q (Cu p) (Cu q)
def sgD(t:List UInt8):List Sg:=(Br t).getD []
theorem b3X{t:List UInt8}{l:List Sg}(h:sgQ t l):l=sgD t∧l.length<2^30:=by
 rcases h with h|h
 ·exact⟨by rw[sgD,h.1];rfl,by have:=h.2.1;omega⟩
 ·exact⟨by rw[sgD,h.1,h.2];rfl,by rw[h.2];simp⟩
attribute [local irreducible] CC Br kwF sgD eqF
end Go.My
end
