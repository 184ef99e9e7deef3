/- A part of the proof: the engine and the contracts, joined. -/
import Derived.Test.YtplklcfglbkfhaaGreatDoorQK
section
set_option linter.unusedVariables false
set_option linter.unusedSimpArgs false
namespace Go.My
open Go.Eng Go.Proofs
variable {G:GInv}
def okQ(s:ST)(x:Gs):Prop:=okD s x∧sgM s.sg
theorem El{s:ST}{x:Gs}(h:okQ s x):okD s x:=h.1
theorem MW{s:ST}{x:Gs}(h:okQ s x):sgM s.sg:=h.2
theorem Jk{sg:List Sg}{x:Gs}{m:List UInt8}(h:isG sg x 1 m=false):BA sg x m=x:=by simp [BA,h]
theorem Jl{sg:List Sg}{x:Gs}{m:List UInt8}(h:isG sg x 1 m=true):BA sg x m=Aw x:=by simp [BA,h]
theorem FW{s:ST}{x:Gs}{m:List UInt8}(h:okQ s x)(hq:isG s.sg x 1 m=true):okQ s (Aw x):=⟨a1U h.1 hq,h.2⟩
theorem VP{s:ST}{x:Gs}(h:okQ s x):rOk s (Bi s.sg x 1)∧rOk s (AP s.sg (Bi s.sg x 1) [61]):=by
 have a:=Hf (k:=1) h.1.1 (by omega);exact⟨a,Fe a⟩
theorem b4K{s:ST}{x:Gs}(h:okQ s x)(hq:isG s.sg (Bi s.sg x 1) 4 [61]=true):okQ s (AP s.sg (Bi s.sg x 1) [61]):=by
 rw[HK.1] at hq ⊢
 exact⟨b2C h.1.1 h.1.2 hq,h.2⟩
theorem b4L{s:ST}{x:Gs}{z:Int×Gs}(h:okQ s x)(hq:isG s.sg (Bi s.sg x 1) 4 [61]=true)(hz:Aj s.sg (AP s.sg (Bi s.sg x 1) [61]) (Cg s.sg) z):
 Aj s.sg x (Dj s.sg false) (AX (AK s.sg z.2 [59]),As (AK s.sg z.2 [59]) ⟨12,Bx s.sg x 1,[z.1],false⟩):=by
 rw[HK.1] at hq hz;rw[HK.2]
 exact HJ (Ft hz) (EB (Jf h.1.1.1) (by simp)) (b2D h.1.1 hq hz)
theorem b4M{s:ST}{x:Gs}(h:okQ s x)(hq:isG s.sg (Bi s.sg x 1) 4 [61]=false):
 Aj s.sg x (Dj s.sg false) (AX (AK s.sg (AP s.sg (Bi s.sg x 1) [61]) [59]),As (AK s.sg (AP s.sg (Bi s.sg x 1) [61]) [59]) ⟨12,Bx s.sg x 1,[],false⟩):=by
 rw[HK.1] at hq ⊢;rw[HK.2]
 exact HJ (b2E h.1.1 hq).2 (EB (Jf h.1.1.1) (by simp)) (b2F h.1.1 hq)
def mbS(sg:List Sg)(n:Nat)(x y:Gs)(ks:List Int)(N:Nat):Prop:=
 JW sg (stR sg n) [125] (pkX (AK sg x [123])) y ks N∧y.deep=x.deep+1∧(y.bad=false→x.deep≠20)
theorem a2P{s:ST}{x:Gs}{n:Nat}(h:okQ s x):mbS s.sg n x (pkX (AK s.sg x [123])) [] (s.sg.length+1):=by
 have t:=Hc (m:=[123]) h.1.1.2
 obtain⟨p1,p2,p3⟩:= @Pe (AK s.sg x [123])
 have t1:=t.1;have t2:=t.2.1;have hd:=h.1.2
 refine⟨a1I ⟨by simp only[pkX] at*;rw[p1];exact t1.1,by simp only[pkX] at*;rw[p2];have:=t1.2.1;omega,?_⟩,by simp only[pkX] at*;rw[p2];omega,fun hb=>by have:=(p3 hb).2;omega⟩
 have e:(pkX (AK s.sg x [123])).nodes=(AK s.sg x [123]).nodes:=by unfold pkX;split<;>rfl
 rw[e];exact t1.2.2
theorem b4N{s:ST}{x:Gs}{n:Nat}(h:okQ s x)(h20:(AK s.sg x [123]).deep+1>20):mbS s.sg n x ⟨(AK s.sg x [123]).pos,(AK s.sg x [123]).deep+1,true,(AK s.sg x [123]).nodes⟩ [] (s.sg.length+1):=by
 have a:=a2P (n:=n) h
 have t2:=(Hc (m:=[123]) h.1.1.2).2.1;have hd:=h.1.2
 have e:pkX (AK s.sg x [123])=⟨(AK s.sg x [123]).pos,(AK s.sg x [123]).deep+1,true,(AK s.sg x [123]).nodes⟩:=by rw[pkX,if_pos (by omega)];rfl
 rw[←e];exact a
theorem b4O{s:ST}{x:Gs}{n:Nat}(h:okQ s x)(h20:¬(AK s.sg x [123]).deep+1>20):mbS s.sg n x ⟨(AK s.sg x [123]).pos,(AK s.sg x [123]).deep+1,(AK s.sg x [123]).bad,(AK s.sg x [123]).nodes⟩ [] (s.sg.length+1):=by
 have a:=a2P (n:=n) h
 have e:pkX (AK s.sg x [123])=⟨(AK s.sg x [123]).pos,(AK s.sg x [123]).deep+1,(AK s.sg x [123]).bad,(AK s.sg x [123]).nodes⟩:=by rw[pkX,if_neg (by omega)];rfl
 rw[←e];exact a
theorem b4P{s:ST}{x:Gs}(h:okQ s x):0≤(AK s.sg x [123]).deep∧(AK s.sg x [123]).deep≤20:=by
 have t:=Hc (m:=[123]) h.1.1.2
 have:=t.1.2.1;have:=t.2.1;have:=h.1.2;omega
theorem RV{s:ST}{x y:Gs}{n:Nat}{ks:List Int}{N:Nat}(h:okQ s x)(hj:mbS s.sg n x y ks N):rOk s y:=⟨h.1.1.1,hj.1.1.1⟩
theorem VQ{s:ST}{x y:Gs}{n:Nat}{ks:List Int}{N:Nat}(h:okQ s x)(h2:20-x.deep≤(n:Int))(hj:mbS s.sg n x y ks N)(hb:y.bad=false)(hq:isG s.sg y 4 [125]=false):okQ s (AP s.sg y [125])∧(AP s.sg y [125]).bad=false∧21-(AP s.sg y [125]).deep≤(n:Int):=by
 rw[Dl hq]
 have:=hj.2.1;have:=hj.2.2 hb;have:=h.1.2
 exact⟨⟨⟨RV h hj,by omega⟩,h.2⟩,hb,by omega⟩
theorem VR{s:ST}{x y:Gs}{n:Nat}{ks:List Int}{N:Nat}(h:okQ s x)(hj:mbS s.sg n x y ks N):ks.length≤3001:=by
 have:=hj.1.2.2.1;have:=hj.1.1.1.1;have:=h.1.1.1.1;omega
theorem RW{s:ST}{x y:Gs}{n:Nat}{ks:List Int}{N:Nat}{b:Bool}{z:Int×Gs}(hj:mbS s.sg n x y ks N)(hb:y.bad=false)(hq:isG s.sg y 4 [125]=false)(hz:Aj s.sg (AP s.sg y [125]) (stR s.sg n false) z)(e:b=(blG s.sg (AP s.sg y [125])&&decide (0<(ks.length:Int)))):
 mbS s.sg n x (gBl z.2 z.1 b) (ks++[z.1]) (N-1)∧N-1<N:=by
 rw[Dl hq] at hz e
 rw[VO hb] at e
 have hz2:Aj s.sg y (stR s.sg n b) (z.1,gBl z.2 z.1 b):=VN VK hz
 subst e
 obtain⟨a,b⟩:=ML (a1M hj.1 hb hq (z:=(z.1,gBl z.2 z.1 ((pkG s.sg y 0).blank&&decide (0<(ks.length:Int))))) (by
  have:decide (0<ks.length)=decide (0<(ks.length:Int)):=by simp
  rw[this];exact hz2))
 have:=(CE hz2).1
 exact⟨⟨a,by have:=hj.2.1;simp only at*;omega,fun hw=>hj.2.2 hb⟩,b⟩
theorem b4Q{s:ST}{x y:Gs}{n:Nat}{ks:List Int}{N:Nat}(h:okQ s x)(hj:mbS s.sg n x y ks N)(hq:isG s.sg y 4 [125]=true):
 Aj s.sg x (BN s.sg (stR s.sg n)) (AX (gDp (AP s.sg y [125]) (-1)),As (gDp (AP s.sg y [125]) (-1)) ⟨18,[],ks,false⟩):=by
 rw[Ek hq,←Jh hq]
 exact a2O (l:=(ks,y)) h.1.1.2 h.1.2 (a1L hj.1 hq) (VR h hj)
theorem b4R{s:ST}{x y:Gs}{n:Nat}{ks:List Int}{N:Nat}(h:okQ s x)(hj:mbS s.sg n x y ks N)(hb:y.bad=true):
 Aj s.sg x (BN s.sg (stR s.sg n)) (AX (gDp y (-1)),As (gDp y (-1)) ⟨18,[],ks,false⟩):=by
 have a:=a2O (l:=(ks,y)) h.1.1.2 h.1.2 (a1J hj.1 hb) (VR h hj)
 simp only[RH hb] at a;exact a
theorem VS{s:ST}{x y:Gs}{n:Nat}{ks:List Int}{N:Nat}(h:okQ s x)(hj:mbS s.sg n x y ks N):(1≤y.deep∧y.deep≤21)∧rOk s (gDp y (-1))∧rOk s (gDp (AP s.sg y [125]) (-1))∧(AP s.sg y [125]).deep=y.deep:=by
 have h1:=hj.2.1;have h2:=h.1.1.2.2.1;have h3:=h.1.2
 have a:=RV h hj
 have b:=Fe (m:=[125]) a
 have e:(AP s.sg y [125]).deep=y.deep:=by unfold AP;split<;>rfl
 refine⟨by omega,⟨a.1,a.2.1,by simp only[gDp];omega,a.2.2.2⟩,⟨b.1,b.2.1,by simp only[gDp];omega,b.2.2.2⟩,e⟩
theorem b4S{s:ST}{x:Gs}{n:Nat}(h:okQ s x)(hk:kdG s.sg x 5=true):Aj s.sg x (stR s.sg (n+1) false) (AX (Bi s.sg x 5),As (Bi s.sg x 5) ⟨19,Bx s.sg x 5,[],false⟩):=by
 have hn:=hk
 rw[Pm (by omega)] at hn
 exact MS h.1.1.1 h.1.1.2 (by omega) hk (b2f h.1.1.1 h.1.1.2 (by simpa using hn))
theorem Gx{sg:List Sg}{x:Gs}(h:kdG sg x 5=false):(pkG sg x 0).kind≠5:=Jj h (by omega)
theorem b4T{s:ST}{x:Gs}{n:Nat}{z:Int×Gs}(h:okQ s x)(hk:kdG s.sg x 5=false)(hq:isG s.sg x 1 [118,97,114]=true)(hz:Aj s.sg (Aw x) (Dj s.sg false) z):Aj s.sg x (stR s.sg (n+1) false) z:=b2g h.1.1.2 (Gx hk) hq hz
theorem b4U{s:ST}{x:Gs}{n:Nat}(h:okQ s x)(hk:kdG s.sg x 5=false)(h1:isG s.sg x 1 [118,97,114]=false)(hq:isG s.sg x 1 [114,101,116,117,114,110]=true)(hs:isG s.sg (Aw x) 4 [59]=true):
 Aj s.sg x (stR s.sg (n+1) false) (AX (AK s.sg (Aw x) [59]),As (AK s.sg (Aw x) [59]) ⟨15,[],[],false⟩):=by
 have o:=(FW h hq).1.1.2
 exact a1O h.1.1.2 (Gx hk) h1 hq (HJ o (EB (by simp) (by simp)) (b1U o hs))
theorem b4V{s:ST}{x:Gs}{n:Nat}{z:Int×Gs}(h:okQ s x)(hk:kdG s.sg x 5=false)(h1:isG s.sg x 1 [118,97,114]=false)(hq:isG s.sg x 1 [114,101,116,117,114,110]=true)(hs:isG s.sg (Aw x) 4 [59]=false)(hz:Aj s.sg (Aw x) (Cg s.sg) z):
 Aj s.sg x (stR s.sg (n+1) false) (AX (AK s.sg z.2 [59]),As (AK s.sg z.2 [59]) ⟨15,[],[z.1],false⟩):=by
 have o:=(FW h hq).1.1.2
 exact a1O h.1.1.2 (Gx hk) h1 hq (HJ (Ft hz) (EB (by simp) (by simp)) (b1V o hs hz))
theorem b4W{s:ST}{x:Gs}{n:Nat}{c q:Int×Gs}(h:okQ s x)(hk:kdG s.sg x 5=false)(h1:isG s.sg x 1 [118,97,114]=false)(h2:isG s.sg x 1 [114,101,116,117,114,110]=false)(hq:isG s.sg x 1 [105,102]=true)
 (hc:BB s.sg (Aw x) (Dq s.sg) c) (hb:Aj s.sg c.2 (BN s.sg (stR s.sg n)) q) (he:isG s.sg q.2 1 [101,108,115,101]=false):
 Aj s.sg x (stR s.sg (n+1) false) (AX (BA s.sg q.2 [101,108,115,101]),As (BA s.sg q.2 [101,108,115,101]) ⟨16,[],[c.1,q.1],false⟩):=by
 rw[Jk he]
 exact a1P h.1.1.2 (Gx hk) h1 h2 hq (b2a (FW h hq).1.1.2 hc hb he)
theorem b4X{s:ST}{x:Gs}{n:Nat}{c q r:Int×Gs}(h:okQ s x)(hk:kdG s.sg x 5=false)(h1:isG s.sg x 1 [118,97,114]=false)(h2:isG s.sg x 1 [114,101,116,117,114,110]=false)(hq:isG s.sg x 1 [105,102]=true)
 (hc:BB s.sg (Aw x) (Dq s.sg) c) (hb:Aj s.sg c.2 (BN s.sg (stR s.sg n)) q) (he:isG s.sg q.2 1 [101,108,115,101]=true) (hr:Aj s.sg (BA s.sg q.2 [101,108,115,101]) (BN s.sg (stR s.sg n)) r):
 Aj s.sg x (stR s.sg (n+1) false) (AX r.2,As r.2 ⟨16,[],[c.1,q.1,r.1],false⟩):=by
 rw[Jl he] at hr
 exact a1P h.1.1.2 (Gx hk) h1 h2 hq (b2b (FW h hq).1.1.2 hc hb he hr)
theorem b4Y{s:ST}{x:Gs}{n:Nat}{c q:Int×Gs}(h:okQ s x)(hk:kdG s.sg x 5=false)(h1:isG s.sg x 1 [118,97,114]=false)(h2:isG s.sg x 1 [114,101,116,117,114,110]=false)(h3:isG s.sg x 1 [105,102]=false)(hq:isG s.sg x 1 [119,104,105,108,101]=true)
 (hc:BB s.sg (Aw x) (Dq s.sg) c) (hb:Aj s.sg c.2 (BN s.sg (stR s.sg n)) q):Aj s.sg x (stR s.sg (n+1) false) (AX q.2,As q.2 ⟨17,[],[c.1,q.1],false⟩):=b2G h.1 (Gx hk) h1 h2 h3 hq hc hb
theorem b4Z{sg:List Sg}{i k:Int}{e:Sg}(hk:e.kind=k)(he:sg[i.toNat]? =some e):(sgO sg i).kind=k:=by rw[IZ he];exact hk
theorem b5a{sg:List Sg}{i k:Int}{e:Sg}(hk:e.kind≠k)(he:sg[i.toNat]? =some e):(sgO sg i).kind≠k:=by rw[IZ he];exact hk
theorem b5b{sg:List Sg}{i:Int}{e:Sg}{m:List UInt8}(hk:e.text=m)(he:sg[i.toNat]? =some e):((sgO sg i).text==m)=true:=by rw[IZ he];simpa using hk
theorem b5c{sg:List Sg}{i:Int}{e:Sg}{m:List UInt8}(hk:e.text≠m)(he:sg[i.toNat]? =some e):((sgO sg i).text==m)=false:=by rw[IZ he];simpa using hk
theorem b5d{sg:List Sg}{x:Gs}(hk:kdG sg x 1=false):seG sg x=false:=by rw[Iv] at hk;simp [seG,hk]
theorem a2Q{sg:List Sg}{x:Gs}{e:Sg}(hb:x.bad=false)(hl:x.pos+1<sg.length)(he:sgO sg (x.pos+1)=e):pkG sg x 1=e:=by
 rw[pkG,if_neg (by simp [hb];omega),he]
theorem b5e{sg:List Sg}{x:Gs}(hl:¬x.pos+1<sg.length):seG sg x=false:=by
 have:pkG sg x 1=Ey:=by rw[pkG,if_pos (.inr (by omega))]
 simp [seG,this,Ey]
theorem a2R{sg:List Sg}{x:Gs}(hb:x.bad=false)(hl:x.pos+1<sg.length)(hk:(sgO sg (x.pos+1)).kind≠4∨((sgO sg (x.pos+1)).text==[61])=false):seG sg x=false:=by
 rw[seG,a2Q hb hl rfl]
 rcases hk with hk|hk<;>simp [hk]
theorem b5f{sg:List Sg}{x:Gs}(hb:x.bad=false)(hl:x.pos+1<sg.length)(h1:kdG sg x 1=true)(hk:(sgO sg (x.pos+1)).kind=4)(ht:((sgO sg (x.pos+1)).text==[61])=true):seG sg x=true:=by
 rw[Iv] at h1
 rw[seG,a2Q hb hl rfl];simp [h1,hk,ht]
theorem b5g{s:ST}{x:Gs}{n:Nat}{z:Int×Gs}(h:okQ s x)(hk:kdG s.sg x 5=false)(h1:isG s.sg x 1 [118,97,114]=false)(h2:isG s.sg x 1 [114,101,116,117,114,110]=false)(h3:isG s.sg x 1 [105,102]=false)(h4:isG s.sg x 1 [119,104,105,108,101]=false)
 (he:seG s.sg x=true) (hz:Aj s.sg (AK s.sg (Bi s.sg x 1) [61]) (Cg s.sg) z):Aj s.sg x (stR s.sg (n+1) false) (AX (AK s.sg z.2 [59]),As (AK s.sg z.2 [59]) ⟨13,Bx s.sg x 1,[z.1],false⟩):=by
 rw[HK.1] at hz;rw[HK.2]
 exact b2i h.1.1.2 (Gx hk) h1 h2 h3 h4 he (HJ (Ft hz) (EB (Jf h.1.1.1) (by simp)) (b2d h.1.1.1 h.1.1.2 hz))
theorem RX{s:ST}{x:Gs}{n:Nat}{z:Int×Gs}(h:okQ s x)(hk:kdG s.sg x 5=false)(h1:isG s.sg x 1 [118,97,114]=false)(h2:isG s.sg x 1 [114,101,116,117,114,110]=false)(h3:isG s.sg x 1 [105,102]=false)(h4:isG s.sg x 1 [119,104,105,108,101]=false)
 (he:seG s.sg x=false) (hz:Aj s.sg x (Cg s.sg) z):Aj s.sg x (stR s.sg (n+1) false) (AX (AK s.sg z.2 [59]),As (AK s.sg z.2 [59]) ⟨14,[],[z.1],false⟩):=
 b2j h.1.1.2 (Gx hk) h1 h2 h3 h4 he (HJ (Ft hz) (EB (by simp) (by simp)) (b2e h.1.1.2 hz))
theorem a2S{s:ST}{x:Gs}(h:okQ s x):rOk s (AK s.sg (Bi s.sg x 1) [61])∧okQ s (AK s.sg (Bi s.sg x 1) [61]):=by
 have a:=Gv (m:=[61]) (Hf (k:=1) h.1.1 (by omega))
 have e:(Bi s.sg x 1).deep=x.deep:=by unfold Bi;split<;>rfl
 exact⟨a.1,⟨a.1,by have:=h.1.2;omega⟩,h.2⟩
theorem b5h{α:Type}{s:ST}{x:Gs}{f:Ps→Option (α×Ps)}{y:α×Gs}(h:okQ s x)(hy:BB s.sg x f y):okQ s y.2:=⟨a1S h.1 hy,h.2⟩
theorem MX{α:Type}{s:ST}{x:Gs}{f:Ps→Option (α×Ps)}{y:α×Gs}(h:okQ s x)(hy:Aj s.sg x f y):okQ s y.2:=⟨a1S h.1 hy.1,h.2⟩
theorem b5i{α:Type}{s:ST}{x:Gs}{n:Nat}{f:Ps→Option (α×Ps)}{y:α×Gs}(h:21-x.deep≤((n+1:Nat):Int))(hy:BB s.sg (Aw x) f y):20-y.2.deep≤(n:Int):=by
 have:=hy.2.1;simp only[Aw] at this;omega
theorem a2T{sg:List Sg}{x:Gs}{m:List UInt8}:(BA sg x m).deep=x.deep:=by unfold BA;split<;>rfl
theorem a2U{s:ST}{x:Gs}{m:List UInt8}(h:rOk s x):rOk s (BA s.sg x m):=by
 unfold BA;split
 ·rename_i hq;exact⟨h.1,FR h.2 (CS hq (by omega)).2⟩
 ·exact h
theorem a2V{s:ST}{x:Gs}{m:List UInt8}(h:okQ s x):okQ s (BA s.sg x m):=⟨⟨a2U h.1.1,by rw[a2T];exact h.1.2⟩,h.2⟩
theorem b5j{α:Type}{s:ST}{x:Gs}{n:Nat}{m:List UInt8}{f:Ps→Option (α×Ps)}{y:α×Gs}(h:20-x.deep≤(n:Int))(hy:Aj s.sg x f y):20-(BA s.sg y.2 m).deep≤(n:Int):=by
 rw[a2T];exact b2I h hy
def Jm(n:Nat):Sig:= {X:=ST×Int×Int×Bool×List Nd,args:=fun x=>[srd x.1 (xg x)],pre:=fun x=>(okQ x.1 (xg x)∧(xg x).bad=false)∧21-(xg x).deep≤n,Y:=Int×Int×Int×Bool×List Nd,post:=fun x y=>Aj x.1.sg (xg x) (stR x.1.sg n false) (yS y),res:=fun x y=> .int .i64 y.1,outs:=fun x y=>[srd x.1 (yG y.2)],keep:=true}
attribute [local irreducible] pE Bw CP fnR Aj BB gsOk AK Cx As CT Eh AP DJ DW AX Cy pkG isG nmG kdG Bi Bx BS vlQ BA gBl blG Dj Gu Dq Cg BN stR CD mbS seG okQ sgM
def srf(s:ST)(g:Gs):AV:= .pf [sgs s.sg,.int .i64 g.pos,.bool g.bad,.int .i64 g.deep,nds g.nodes]
theorem a2W{l:List Sg}{p d:Int}{b:Bool}{ns:List Nd}:AV.pf (fzL [AV.sl false 0 4 Sg sgA l,.int .i64 p,.bool b,.int .i64 d,AV.sl true 0 4 Nd (ndA true) ns])=AV.pf [AV.sl false 0 4 Sg sgA l,.int .i64 p,.bool b,.int .i64 d,AV.sl false 0 4 Nd (ndA false) ns]:=rfl
def Ix:Sig:= {X:=ST×Int×Int×Bool×List Nd×Int,args:=fun x=>[srf x.1 (xh x),.int .i64 x.2.2.2.2.2],pre:=fun x=>rOk x.1 (xh x)∧x.2.2.2.2.2≠0,Y:=Unit,post:=fun x y=>True,res:=fun x y=> .bool (kdG x.1.sg (xh x) x.2.2.2.2.2),outs:=fun x y=>[.top,.top],keep:=false}
theorem b5k:Am G Tryz.prog 137 Ix:=
 vcFun_okP [(125,0,FG)] [] false (fun x=>[]) Tryz.func137 rfl (by decide) ⟨Us,trivial⟩ (fun(x:ST×Int×Int×Bool×List Nd×Int)=>(∀(y:Unit),True→True∧True∧True∧True)∧true=true∧true=true∧Aa (!(xh x).bad) (Aa (decide ((xh x).pos<(↑(List.length x.1.sg):Int))) (((0:Int)≤(xh x).pos∧(xh x).pos<(↑(List.length x.1.sg):Int))∧∀(e:Sg),x.1.sg[Int.toNat (xh x).pos]? =some e→Aa (e.kind==x.2.2.2.2.2) (Aa (x.2.2.2.2.2 != (1:Int)) (rA Ix x [.bool true,.top,.top]) (((0:Int)≤(xh x).pos∧(xh x).pos<(↑(List.length x.1.sg):Int))∧∀(e:Sg),x.1.sg[Int.toNat (xh x).pos]? =some e→∃(x_1:List UInt8),True∧e.text=x_1∧∃(y0:Unit),(∀(y:Unit),True→AV.bool (kw x_1)=AV.bool (kw x_1))∧true=true∧rA Ix x [.bool !kw x_1,.top,.top])) (rA Ix x [.bool false,.top,.top])) (rA Ix x [.bool false,.top,.top])) (rA Ix x [.bool false,.top,.top])) (fun x=>by kernel_rfl) fun(x:ST×Int×Int×Bool×List Nd×Int) (hx:rOk x.1 (xh x)∧x.2.2.2.2.2≠0)=>(by
 dsimp only[Bn,nds,rA,Ix,CO,sgs,srf,Au,Ax]
 obtain⟨s,p,d,b,ns,k⟩:=x;dsimp only[xg,xh] at hx ⊢
 obtain⟨h1,h2⟩:=hx;have hs:=Gp h1;dsimp only at hs
 (repeat' first|(with_reducible first|rfl|exact True.intro|apply AJ|apply And.intro|((first|apply Az|apply AH|apply AA|apply AI)<;>intro _))|(apply Av<;>intro _)|apply AG|refine Af () ?_ ?_|((first|apply AO|apply AN|apply AM|apply AL|apply AF|apply AE|apply AD|apply AC|apply AB)<;>try dsimp only)|apply Af|(refine Prod.forall.2 ?_;intro _;try dsimp only)|(intro _;try dsimp only))
 all_goals(try(repeat(rename s.sg[_]? =some _=>hq;revert hq;rename s.sg[_]? =some _=>hr;intro hq;rw[hr] at hq;cases hq)))
 all_goals first
  |rfl
  |exact(MQ h2 (.inl ‹_›)).symm
  |exact(MQ h2 (.inr (by simp only;omega))).symm
  |(rw[a2m ‹_› ‹_› (by simp only;omega)];simp [*];done)
  |((try simp only[AR]);omega)
  |skip)
def Gy:Sig:= {X:=ST×Int×Int×Bool×List Nd,args:=fun x=>[srd x.1 (xg x)],pre:=fun x=>okQ x.1 (xg x),Y:=Int×Int×Int×Bool×List Nd,post:=fun x y=>Aj x.1.sg (xg x) (Dj x.1.sg false) (yS y),res:=fun x y=> .int .i64 y.1,outs:=fun x y=>[srd x.1 (yG y.2)],keep:=true}
theorem VT:Am G Tryz.prog 140 Gy:=
 vcFun_okP [(138,0,Cp),(142,0,BU),(172,0,Fw),(141,0,BI),(117,0,Br)] [(26,⟨Int,Bj⟩)] false (fun x=>[]) Tryz.func140 rfl (by decide) ⟨JZ,Hd,VF,HI,He,trivial⟩ (fun(x:ST×Int×Int×Bool×List Nd)=>True∧cA Cp [srd x.1 (xg x),.int .i64 (1:Int)] fun x_1 y=>cA BU [srd x_1.1 (Bi x_1.1.sg (xh x_1) x_1.2.2.2.2.2),.str #[(61:UInt8)].toList] fun x_2 y=>Aa (isG x_2.1.sg (xh x_2) (4:Int) x_2.2.2.2.2.2) (cA Fw [srd x_2.1 (AP x_2.1.sg (xh x_2) x_2.2.2.2.2.2)] fun x_3 y=>∃(x_4:Int),y.1=x_4∧∃(zs:List Int),Ab [x_4]=Ab zs∧BF Bj∧Ba ((0:Nat)+List.length zs) (8:Nat)∧cA BI [srd x_3.1 (yG y.2),.str #[(59:UInt8)].toList] fun x_5 y=>cA Br [srd x_5.1 (AK x_5.1.sg (xh x_5) x_5.2.2.2.2.2),.int .i64 (12:Int),.str (Bx x_1.1.sg (xh x_1) x_1.2.2.2.2.2),Ab ([]++zs)] fun x_6 y=>rA Gy x [.int .i64 (AX (xh x_6)),srd x_6.1 (As (xh x_6) {kind:=x_6.2.2.2.2.2.1,text:=x_6.2.2.2.2.2.2.1,kids:=x_6.2.2.2.2.2.2.2,blank:=false})]) (cA BI [srd x_2.1 (AP x_2.1.sg (xh x_2) x_2.2.2.2.2.2),.str #[(59:UInt8)].toList] fun x_3 y=>cA Br [srd x_3.1 (AK x_3.1.sg (xh x_3) x_3.2.2.2.2.2),.int .i64 (12:Int),.str (Bx x_1.1.sg (xh x_1) x_1.2.2.2.2.2),Ab []] fun x_4 y=>rA Gy x [.int .i64 (AX (xh x_4)),srd x_4.1 (As (xh x_4) {kind:=x_4.2.2.2.2.2.1,text:=x_4.2.2.2.2.2.2.1,kids:=x_4.2.2.2.2.2.2.2,blank:=false})])) (fun x=>by kernel_rfl) fun(x:ST×Int×Int×Bool×List Nd) (hx:okQ x.1 (xg x))=>(by
 dsimp only[cA,Bn,Ab,AW,rA,BU,Br,Cp,Fw,Gy,BI,CO,sgs,srd,Au,Ax,mvL,lnL,mvE,lnE]
 obtain⟨s,p,d,b,ns⟩:=x;dsimp only[xg,xh] at hx ⊢
 have hx:okQ s ⟨p,d,b,ns⟩:=hx
 have hD:=El hx;have hM:=MW hx;have h1:=hD.1
 (repeat' first|(with_reducible first|rfl|exact True.intro|apply AJ|apply And.intro|((first|apply Az|apply AH|apply AA|apply AI)<;>intro _))|(apply Av<;>intro _)|apply AG|refine Af () ?_ ?_|((first|apply AO|apply AN|apply AM|apply AL|apply AF|apply AE|apply AD|apply AC|apply AB)<;>try dsimp only)|apply Af|(refine Prod.forall.2 ?_;intro _;try dsimp only)|(intro _;try dsimp only))
 all_goals(try dsimp only[xg,xh,yG,yS,iG,iF] at*)
 all_goals(try simp only[FS] at*)
 all_goals first
  |rfl
  |exact h1
  |omega
  |exact(VP hx).1
  |exact(VP hx).2
  |exact El (b4K hx ‹_›)
  |exact hM
  |exact EN h1 ‹_›
  |exact(Gv (EN h1 ‹_›)).1
  |exact(Gv (VP hx).2).1
  |exact b4L hx ‹_› ‹_›
  |exact b4M hx ‹_›
  |(simp [Ba];done)
  |skip)
def Lv:Sig:= {X:=ST×Int×Int×Bool×List Nd,args:=fun x=>[srd x.1 (xg x)],pre:=fun x=>okQ x.1 (xg x),Y:=Int×Int×Int×Bool×List Nd,post:=fun x y=>BB x.1.sg (xg x) (Dq x.1.sg) (yS y),res:=fun x y=> .int .i64 y.1,outs:=fun x y=>[srd x.1 (yG y.2)],keep:=true}
theorem b5l:Am G Tryz.prog 189 Lv:=
 vcFun_okP [(172,0,Fw),(141,0,BI)] [] false (fun x=>[]) Tryz.func189 rfl (by decide) ⟨VF,HI,trivial⟩ (fun(x:ST×Int×Int×Bool×List Nd)=>True∧cA BI [srd x.1 (xg x),.str #[(40:UInt8)].toList] fun x_1 y=>cA Fw [srd x_1.1 (AK x_1.1.sg (xh x_1) x_1.2.2.2.2.2)] fun x_2 y=>cA BI [srd x_2.1 (yG y.2),.str #[(41:UInt8)].toList] fun x_3 y_1=>rA Lv x [.int .i64 y.1,srd x_3.1 (AK x_3.1.sg (xh x_3) x_3.2.2.2.2.2)]) (fun x=>by kernel_rfl) fun(x:ST×Int×Int×Bool×List Nd) (hx:okQ x.1 (xg x))=>(by
 dsimp only[cA,Bn,AW,rA,Lv,Fw,BI,CO,sgs,srd,Au,Ax,mvL,lnL,mvE,lnE]
 obtain⟨s,p,d,b,ns⟩:=x;dsimp only[xg,xh] at hx ⊢
 have hx:okQ s ⟨p,d,b,ns⟩:=hx
 have hD:=El hx;have hM:=MW hx;have h1:=hD.1
 have t:=Gv (m:=[40]) h1;have hd:=hD.2;dsimp only at hd
 (repeat' first|(with_reducible first|rfl|exact True.intro|apply AJ|apply And.intro|((first|apply Az|apply AH|apply AA|apply AI)<;>intro _))|(apply Av<;>intro _)|apply AG|refine Af () ?_ ?_|((first|apply AO|apply AN|apply AM|apply AL|apply AF|apply AE|apply AD|apply AC|apply AB)<;>try dsimp only)|apply Af|(refine Prod.forall.2 ?_;intro _;try dsimp only)|(intro _;try dsimp only))
 all_goals(try dsimp only[xg,xh,yG,yS,iG,iF] at*)
 all_goals(try simp only[FS] at*)
 all_goals first
  |rfl
  |exact h1
  |exact t.1
  |exact hM
  |exact⟨t.1,by rw[t.2];exact hd⟩
  |exact EN h1 ‹_›
  |exact b1W h1.2 ‹_›
  |skip)
def HN(n:Nat):Sig:= {X:=ST×Int×Int×Bool×List Nd,args:=fun x=>[srd x.1 (xg x)],pre:=fun x=>okQ x.1 (xg x)∧20-(xg x).deep≤(n:Int),Y:=Int×Int×Int×Bool×List Nd,post:=fun x y=>Aj x.1.sg (xg x) (BN x.1.sg (stR x.1.sg n)) (yS y),res:=fun x y=> .int .i64 y.1,outs:=fun x y=>[srd x.1 (yG y.2)],keep:=true}
def Kb(n:Nat)(x:ST×Int×Int×Bool×List Nd):LS:= {ι:=Int×Int×Bool×List Nd×List Int×Nat,inv:=fun i=>mbS x.1.sg n (xg x) (iG i) i.2.2.2.2.1 i.2.2.2.2.2,regs:=fun i=>[(0,srd x.1 (iG i)),(3,Ab i.2.2.2.2.1)],als:=[],meas:=fun i=>i.2.2.2.2.2}
theorem a2X(n:Nat)(h:Am G Go.Proofs.Tryz.prog 173 (Jm n)):Am G Tryz.prog 144 (HN n):=
 vcFun_okP [(141,0,BI),(142,0,BU),(114,0,Fv),(173,0,(Jm n)),(116,0,DX),(117,0,Br)] [(26,⟨Int,Bj⟩)] false (fun x=>[(6,Kb n x)]) Tryz.func144 rfl (by decide) ⟨HI,Hd,RF,h,RG,He,trivial⟩ (fun(x:ST×Int×Int×Bool×List Nd)=>True∧cA BI [srd x.1 (xg x),.str #[(123:UInt8)].toList] fun x_1 y=>inR IntKind.i64 ((AK x_1.1.sg (xh x_1) x_1.2.2.2.2.2).deep+(1:Int))∧Aa (decide ((AK x_1.1.sg (xh x_1) x_1.2.2.2.2.2).deep+(1:Int)>(20:Int))) (eA (Kb n x) [.box 0 [sgs x_1.1.sg,.int .i64 (AK x_1.1.sg (xh x_1) x_1.2.2.2.2.2).pos,.bool true,.int .i64 ((AK x_1.1.sg (xh x_1) x_1.2.2.2.2.2).deep+(1:Int)),AW (AK x_1.1.sg (xh x_1) x_1.2.2.2.2.2).nodes],Ab []]∧∀(i:Int×Int×Bool×List Nd×List Int×Nat),mbS x.1.sg n (xg x) (iG i) i.2.2.2.2.1 i.2.2.2.2.2→Aa (!(iG i).bad) (cA BU [srd x.1 (iG i),.str #[(125:UInt8)].toList] fun x_2 y=>Aa (!isG x_2.1.sg (xh x_2) (4:Int) x_2.2.2.2.2.2) (cA Fv [srd x_2.1 (AP x_2.1.sg (xh x_2) x_2.2.2.2.2.2)] fun x_3 y=>Aa (blG x_3.1.sg (xg x_3)) (cA (Jm n) [srd x_3.1 (xg x_3)] fun x_4 y=>cA DX [srd x_4.1 (yG y.2),.int .i64 y.1,.bool (decide ((↑(List.length i.2.2.2.2.1):Int)>(0:Int)))] fun x_5 y_1=>∃(x_6:Int),y.1=x_6∧∃(zs:List Int),Ab [x_6]=Ab zs∧BF Bj∧Ba (List.length i.2.2.2.2.1+List.length zs) (8:Nat)∧eN (Kb n x) i [srd x_5.1 (gBl (xh x_5) x_5.2.2.2.2.2.1 x_5.2.2.2.2.2.2),Ab (i.2.2.2.2.1++zs)]) (cA (Jm n) [srd x_3.1 (xg x_3)] fun x_4 y=>cA DX [srd x_4.1 (yG y.2),.int .i64 y.1,.bool false] fun x_5 y_1=>∃(x_6:Int),y.1=x_6∧∃(zs:List Int),Ab [x_6]=Ab zs∧BF Bj∧Ba (List.length i.2.2.2.2.1+List.length zs) (8:Nat)∧eN (Kb n x) i [srd x_5.1 (gBl (xh x_5) x_5.2.2.2.2.2.1 x_5.2.2.2.2.2.2),Ab (i.2.2.2.2.1++zs)])) (inR IntKind.i64 ((AP x_2.1.sg (xh x_2) x_2.2.2.2.2.2).deep-(1:Int))∧cA Br [.box 0 [sgs x_2.1.sg,.int .i64 (AP x_2.1.sg (xh x_2) x_2.2.2.2.2.2).pos,.bool (AP x_2.1.sg (xh x_2) x_2.2.2.2.2.2).bad,.int .i64 ((AP x_2.1.sg (xh x_2) x_2.2.2.2.2.2).deep-(1:Int)),AW (AP x_2.1.sg (xh x_2) x_2.2.2.2.2.2).nodes],.int .i64 (18:Int),.str #[].toList,Ab i.2.2.2.2.1] fun x_3 y=>rA (HN n) x [.int .i64 (AX (xh x_3)),srd x_3.1 (As (xh x_3) {kind:=x_3.2.2.2.2.2.1,text:=x_3.2.2.2.2.2.2.1,kids:=x_3.2.2.2.2.2.2.2,blank:=false})])) (inR IntKind.i64 ((iG i).deep-(1:Int))∧cA Br [.box 0 [sgs x.1.sg,.int .i64 (iG i).pos,.bool (iG i).bad,.int .i64 ((iG i).deep-(1:Int)),AW (iG i).nodes],.int .i64 (18:Int),.str #[].toList,Ab i.2.2.2.2.1] fun x_2 y=>rA (HN n) x [.int .i64 (AX (xh x_2)),srd x_2.1 (As (xh x_2) {kind:=x_2.2.2.2.2.2.1,text:=x_2.2.2.2.2.2.2.1,kids:=x_2.2.2.2.2.2.2.2,blank:=false})])) (eA (Kb n x) [.box 0 [sgs x_1.1.sg,.int .i64 (AK x_1.1.sg (xh x_1) x_1.2.2.2.2.2).pos,.bool (AK x_1.1.sg (xh x_1) x_1.2.2.2.2.2).bad,.int .i64 ((AK x_1.1.sg (xh x_1) x_1.2.2.2.2.2).deep+(1:Int)),AW (AK x_1.1.sg (xh x_1) x_1.2.2.2.2.2).nodes],Ab []]∧∀(i:Int×Int×Bool×List Nd×List Int×Nat),mbS x.1.sg n (xg x) (iG i) i.2.2.2.2.1 i.2.2.2.2.2→Aa (!(iG i).bad) (cA BU [srd x.1 (iG i),.str #[(125:UInt8)].toList] fun x_2 y=>Aa (!isG x_2.1.sg (xh x_2) (4:Int) x_2.2.2.2.2.2) (cA Fv [srd x_2.1 (AP x_2.1.sg (xh x_2) x_2.2.2.2.2.2)] fun x_3 y=>Aa (blG x_3.1.sg (xg x_3)) (cA (Jm n) [srd x_3.1 (xg x_3)] fun x_4 y=>cA DX [srd x_4.1 (yG y.2),.int .i64 y.1,.bool (decide ((↑(List.length i.2.2.2.2.1):Int)>(0:Int)))] fun x_5 y_1=>∃(x_6:Int),y.1=x_6∧∃(zs:List Int),Ab [x_6]=Ab zs∧BF Bj∧Ba (List.length i.2.2.2.2.1+List.length zs) (8:Nat)∧eN (Kb n x) i [srd x_5.1 (gBl (xh x_5) x_5.2.2.2.2.2.1 x_5.2.2.2.2.2.2),Ab (i.2.2.2.2.1++zs)]) (cA (Jm n) [srd x_3.1 (xg x_3)] fun x_4 y=>cA DX [srd x_4.1 (yG y.2),.int .i64 y.1,.bool false] fun x_5 y_1=>∃(x_6:Int),y.1=x_6∧∃(zs:List Int),Ab [x_6]=Ab zs∧BF Bj∧Ba (List.length i.2.2.2.2.1+List.length zs) (8:Nat)∧eN (Kb n x) i [srd x_5.1 (gBl (xh x_5) x_5.2.2.2.2.2.1 x_5.2.2.2.2.2.2),Ab (i.2.2.2.2.1++zs)])) (inR IntKind.i64 ((AP x_2.1.sg (xh x_2) x_2.2.2.2.2.2).deep-(1:Int))∧cA Br [.box 0 [sgs x_2.1.sg,.int .i64 (AP x_2.1.sg (xh x_2) x_2.2.2.2.2.2).pos,.bool (AP x_2.1.sg (xh x_2) x_2.2.2.2.2.2).bad,.int .i64 ((AP x_2.1.sg (xh x_2) x_2.2.2.2.2.2).deep-(1:Int)),AW (AP x_2.1.sg (xh x_2) x_2.2.2.2.2.2).nodes],.int .i64 (18:Int),.str #[].toList,Ab i.2.2.2.2.1] fun x_3 y=>rA (HN n) x [.int .i64 (AX (xh x_3)),srd x_3.1 (As (xh x_3) {kind:=x_3.2.2.2.2.2.1,text:=x_3.2.2.2.2.2.2.1,kids:=x_3.2.2.2.2.2.2.2,blank:=false})])) (inR IntKind.i64 ((iG i).deep-(1:Int))∧cA Br [.box 0 [sgs x.1.sg,.int .i64 (iG i).pos,.bool (iG i).bad,.int .i64 ((iG i).deep-(1:Int)),AW (iG i).nodes],.int .i64 (18:Int),.str #[].toList,Ab i.2.2.2.2.1] fun x_2 y=>rA (HN n) x [.int .i64 (AX (xh x_2)),srd x_2.1 (As (xh x_2) {kind:=x_2.2.2.2.2.2.1,text:=x_2.2.2.2.2.2.2.1,kids:=x_2.2.2.2.2.2.2.2,blank:=false})]))) (fun x=>by kernel_rfl) fun(x:ST×Int×Int×Bool×List Nd) (hx:okQ x.1 (xg x)∧20-(xg x).deep≤(n:Int))=>(by
 dsimp only[cA,eA,eN,Kb,Bn,Ab,AW,rA,Fv,DX,HN,BU,Br,Jm,BI,CO,sgs,srd,Au,Ax,mvL,lnL,mvE,lnE,Bm]
 obtain⟨s,p,d,b,ns⟩:=x;dsimp only[xg,xh] at hx ⊢
 obtain⟨hx,hn⟩:=hx
 have hx:okQ s ⟨p,d,b,ns⟩:=hx
 have hD:=El hx;have hM:=MW hx;have h1:=hD.1
 have td:=b4P hx
 (repeat' first|(with_reducible first|rfl|exact True.intro|apply AJ|apply And.intro|((first|apply Az|apply AH|apply AA|apply AI)<;>intro _))|(apply Av<;>intro _)|apply AG|refine Af () ?_ ?_|((first|apply AO|apply AN|apply AM|apply AL|apply AF|apply AE|apply AD|apply AC|apply AB)<;>try dsimp only)|apply Af|(refine Prod.forall.2 ?_;intro _;try dsimp only)|(intro _;try dsimp only))
 all_goals(try dsimp only[xg,xh,yG,yS,iG,iF] at*)
 all_goals(try simp only[FS] at*)
 all_goals first
  |(show Nat;skip)
  |rfl
  |exact h1
  |exact b4N hx ‹_›
  |exact b4O hx ‹_›
  |exact RV hx ‹_›
  |exact Fe (RV hx ‹_›)
  |exact(VQ hx hn ‹_› ‹_› ‹_›).1
  |exact(VQ hx hn ‹_› ‹_› ‹_›).2.1
  |exact(VQ hx hn ‹_› ‹_› ‹_›).2.2
  |exact EN h1 ‹_›
  |exact MV VK ‹_›
  |exact MV VK ‹_› ‹_›
  |exact(RW ‹_› ‹_› ‹_› ‹_› (JX ‹_›)).1
  |exact(RW ‹_› ‹_› ‹_› ‹_› (JY ‹_›)).1
  |exact b4Q hx ‹_› ‹_›
  |exact b4R hx ‹_› ‹_›
  |exact(VS hx ‹_›).2.1
  |exact(VS hx ‹_›).2.2.1
  |(simp [Ba];done)
  |(have hq:=VR hx (show mbS _ _ _ _ _ _ by assumption);(try simp only[Ba,List.length_append,List.length_cons,List.length_nil]);omega)
  |(have hq:=VS hx (show mbS _ _ _ _ _ _ by assumption);(try dsimp only at hq);(try simp only[AR]);omega)
  |((try simp only[AR]);omega)
  |skip
 all_goals first
  |exact(RW ‹_› ‹_› ‹_› ‹_› (JX ‹_›)).2
  |exact(RW ‹_› ‹_› ‹_› ‹_› (JY ‹_›)).2
  |skip)
def FX(n:Nat):Sig:= {X:=ST×Int×Int×Bool×List Nd,args:=fun x=>[srd x.1 (xg x)],pre:=fun x=>(okQ x.1 (xg x)∧(xg x).bad=false)∧21-(xg x).deep≤(n+1:Nat),Y:=Int×Int×Int×Bool×List Nd,post:=fun x y=>Aj x.1.sg (xg x) (stR x.1.sg (n+1) false) (yS y),res:=fun x y=> .int .i64 y.1,outs:=fun x y=>[srd x.1 (yG y.2)],keep:=true}
theorem b5m(n:Nat)(h:Am G Go.Proofs.Tryz.prog 173 (Jm n)):Am G Tryz.prog 173 (FX n):=
 vcFun_okP [(137,0,Ix),(138,0,Cp),(117,0,Br),(139,0,EC),(140,0,Gy),(171,0,DL),(172,0,Fw),(141,0,BI),(189,0,Lv),(144,0,(HN n))] [(26,⟨Int,Bj⟩)] false (fun x=>[]) Tryz.func173 rfl (by decide) ⟨b5k,JZ,He,Vm,VT,Pl,VF,HI,b5l,(a2X n h),trivial⟩ (fun(x:ST×Int×Int×Bool×List Nd)=>True∧cA Ix [srd x.1 (xg x),.int .i64 (5:Int)] fun x_1 y=>Aa (kdG x_1.1.sg (xh x_1) x_1.2.2.2.2.2) (cA Cp [srd x.1 (xg x),.int .i64 (5:Int)] fun x_2 y=>cA Br [srd x_2.1 (Bi x_2.1.sg (xh x_2) x_2.2.2.2.2.2),.int .i64 (19:Int),.str (Bx x_2.1.sg (xh x_2) x_2.2.2.2.2.2),Ab []] fun x_3 y=>rA (FX n) x [.int .i64 (AX (xh x_3)),srd x_3.1 (As (xh x_3) {kind:=x_3.2.2.2.2.2.1,text:=x_3.2.2.2.2.2.2.1,kids:=x_3.2.2.2.2.2.2.2,blank:=false})]) (cA EC [srd x.1 (xg x),.str #[(118:UInt8),(97:UInt8),(114:UInt8)].toList] fun x_2 y=>Aa (isG x_2.1.sg (xh x_2) (1:Int) x_2.2.2.2.2.2) (cA Gy [srd x_2.1 (BA x_2.1.sg (xh x_2) x_2.2.2.2.2.2)] fun x_3 y=>rA (FX n) x [.int .i64 y.1,srd x_3.1 (yG y.2)]) (cA EC [srd x_2.1 (BA x_2.1.sg (xh x_2) x_2.2.2.2.2.2),.str #[(114:UInt8),(101:UInt8),(116:UInt8),(117:UInt8),(114:UInt8),(110:UInt8)].toList] fun x_3 y=>Aa (isG x_3.1.sg (xh x_3) (1:Int) x_3.2.2.2.2.2) (cA DL [srd x_3.1 (BA x_3.1.sg (xh x_3) x_3.2.2.2.2.2),.int .i64 (4:Int),.str #[(59:UInt8)].toList] fun x_4 y=>Aa (!isG x_4.1.sg (xh x_4) x_4.2.2.2.2.2.1 x_4.2.2.2.2.2.2) (cA Fw [srd x_4.1 (xh x_4)] fun x_5 y=>∃(x_6:Int),y.1=x_6∧∃(zs:List Int),Ab [x_6]=Ab zs∧BF Bj∧Ba ((0:Nat)+List.length zs) (8:Nat)∧cA BI [srd x_5.1 (yG y.2),.str #[(59:UInt8)].toList] fun x_7 y=>cA Br [srd x_7.1 (AK x_7.1.sg (xh x_7) x_7.2.2.2.2.2),.int .i64 (15:Int),.str #[].toList,Ab ([]++zs)] fun x_8 y=>rA (FX n) x [.int .i64 (AX (xh x_8)),srd x_8.1 (As (xh x_8) {kind:=x_8.2.2.2.2.2.1,text:=x_8.2.2.2.2.2.2.1,kids:=x_8.2.2.2.2.2.2.2,blank:=false})]) (cA BI [srd x_4.1 (xh x_4),.str #[(59:UInt8)].toList] fun x_5 y=>cA Br [srd x_5.1 (AK x_5.1.sg (xh x_5) x_5.2.2.2.2.2),.int .i64 (15:Int),.str #[].toList,Ab []] fun x_6 y=>rA (FX n) x [.int .i64 (AX (xh x_6)),srd x_6.1 (As (xh x_6) {kind:=x_6.2.2.2.2.2.1,text:=x_6.2.2.2.2.2.2.1,kids:=x_6.2.2.2.2.2.2.2,blank:=false})])) (cA EC [srd x_3.1 (BA x_3.1.sg (xh x_3) x_3.2.2.2.2.2),.str #[(105:UInt8),(102:UInt8)].toList] fun x_4 y=>Aa (isG x_4.1.sg (xh x_4) (1:Int) x_4.2.2.2.2.2) (cA Lv [srd x_4.1 (BA x_4.1.sg (xh x_4) x_4.2.2.2.2.2)] fun x_5 y=>∃(x_6:Int),y.1=x_6∧cA (HN n) [srd x_5.1 (yG y.2)] fun x_7 y=>∃(x_8:Int),y.1=x_8∧∃(zs:List Int),Ab [x_8]=Ab zs∧BF Bj∧Ba (List.length [x_6]+List.length zs) (8:Nat)∧cA EC [srd x_7.1 (yG y.2),.str #[(101:UInt8),(108:UInt8),(115:UInt8),(101:UInt8)].toList] fun x_9 y=>Aa (isG x_9.1.sg (xh x_9) (1:Int) x_9.2.2.2.2.2) (cA (HN n) [srd x_9.1 (BA x_9.1.sg (xh x_9) x_9.2.2.2.2.2)] fun x_10 y=>∃(x_11:Int),y.1=x_11∧∃(zs_1:List Int),Ab [x_11]=Ab zs_1∧BF Bj∧Ba (List.length (x_6::List.append._f [] PUnit.unit zs)+List.length zs_1) (8:Nat)∧cA Br [srd x_10.1 (yG y.2),.int .i64 (16:Int),.str #[].toList,Ab (x_6::List.append._f [] PUnit.unit zs++zs_1)] fun x_12 y=>rA (FX n) x [.int .i64 (AX (xh x_12)),srd x_12.1 (As (xh x_12) {kind:=x_12.2.2.2.2.2.1,text:=x_12.2.2.2.2.2.2.1,kids:=x_12.2.2.2.2.2.2.2,blank:=false})]) (cA Br [srd x_9.1 (BA x_9.1.sg (xh x_9) x_9.2.2.2.2.2),.int .i64 (16:Int),.str #[].toList,Ab ([x_6]++zs)] fun x_10 y=>rA (FX n) x [.int .i64 (AX (xh x_10)),srd x_10.1 (As (xh x_10) {kind:=x_10.2.2.2.2.2.1,text:=x_10.2.2.2.2.2.2.1,kids:=x_10.2.2.2.2.2.2.2,blank:=false})])) (cA EC [srd x_4.1 (BA x_4.1.sg (xh x_4) x_4.2.2.2.2.2),.str #[(119:UInt8),(104:UInt8),(105:UInt8),(108:UInt8),(101:UInt8)].toList] fun x_5 y=>Aa (isG x_5.1.sg (xh x_5) (1:Int) x_5.2.2.2.2.2) (cA Lv [srd x_5.1 (BA x_5.1.sg (xh x_5) x_5.2.2.2.2.2)] fun x_6 y=>∃(x_7:Int),y.1=x_7∧cA (HN n) [srd x_6.1 (yG y.2)] fun x_8 y=>∃(x_9:Int),y.1=x_9∧∃(zs:List Int),Ab [x_9]=Ab zs∧BF Bj∧Ba (List.length [x_7]+List.length zs) (8:Nat)∧cA Br [srd x_8.1 (yG y.2),.int .i64 (17:Int),.str #[].toList,Ab ([x_7]++zs)] fun x_10 y=>rA (FX n) x [.int .i64 (AX (xh x_10)),srd x_10.1 (As (xh x_10) {kind:=x_10.2.2.2.2.2.1,text:=x_10.2.2.2.2.2.2.1,kids:=x_10.2.2.2.2.2.2.2,blank:=false})]) (true=true∧true=true∧∃(x_6:ST×Int×Int×Bool×List Nd×Int),(rOk x_6.1 (xh x_6)∧x_6.2.2.2.2.2≠(0:Int))∧AV.pf [AV.sl false (0:Nat) (4:Nat) Sg (fun(x:Sg)=>fzL._f [.int .i64 x.kind,.str x.text,.int .i64 x.pos,.bool x.blank] ⟨AV.rec (fun(k:IntKind) (n:Int)=>⟨fz._f (AV.int k n) PUnit.unit,PUnit.unit⟩) (fun(b:Bool)=>⟨fz._f (.bool b) PUnit.unit,PUnit.unit⟩) (fun(l:List UInt8)=>⟨fz._f (.str l) PUnit.unit,PUnit.unit⟩) (fun(v:Value)=>⟨fz._f (.val v) PUnit.unit,PUnit.unit⟩) ⟨fz._f AV.any PUnit.unit,PUnit.unit⟩ ⟨fz._f .top PUnit.unit,PUnit.unit⟩ ⟨fz._f .nil PUnit.unit,PUnit.unit⟩ (fun(id:Nat)=>⟨fz._f (AV.hole id) PUnit.unit,PUnit.unit⟩) (fun(id:Nat)=>⟨fz._f (AV.al id) PUnit.unit,PUnit.unit⟩) (fun(id k sz off:Nat)=>⟨fz._f (AV.po id k sz off) PUnit.unit,PUnit.unit⟩) (fun(fs:List AV) (fs_ih:List AV×' AV.below_1 fs)=>⟨fz._f (.agg fs) fs_ih,fs_ih⟩) (fun(vs:List AV) (vs_ih:List AV×' AV.below_1 vs)=>⟨fz._f (.tup vs) vs_ih,vs_ih⟩) (fun(id:Nat) (c:List AV) (c_ih:List AV×' AV.below_1 c)=>⟨fz._f (.box id c) c_ih,c_ih⟩) (fun(x:Value) (c:List AV) (c_ih:List AV×' AV.below_1 c)=>⟨fz._f (AV.bv x c) c_ih,c_ih⟩) (fun(x:Value)=>⟨fz._f (AV.hv x) PUnit.unit,PUnit.unit⟩) (fun(c:List AV) (c_ih:List AV×' AV.below_1 c)=>⟨fz._f (AV.pf c) c_ih,c_ih⟩) (fun(fn:Fn) (caps:List AV) (caps_ih:List AV×' AV.below_1 caps)=>⟨fz._f (AV.clo fn caps) caps_ih,caps_ih⟩) (fun(own:Bool) (id sz:Nat) (α:Type) (f:α→List AV) (xs:List α) (f_ih:(a:α)→List AV×' AV.below_1 (f a))=>⟨fz._f (AV.sl own id sz α f xs) f_ih,f_ih⟩) ⟨fzL._f [] PUnit.unit,PUnit.unit⟩ (fun(head:AV) (tail:List AV) (head_ih:AV×' AV.below head) (tail_ih:List AV×' AV.below_1 tail)=>⟨fzL._f (head::tail) ⟨head_ih,tail_ih⟩,head_ih,tail_ih⟩) (.int .i64 x.kind),AV.rec_1 (fun(k:IntKind) (n:Int)=>⟨fz._f (AV.int k n) PUnit.unit,PUnit.unit⟩) (fun(b:Bool)=>⟨fz._f (.bool b) PUnit.unit,PUnit.unit⟩) (fun(l:List UInt8)=>⟨fz._f (.str l) PUnit.unit,PUnit.unit⟩) (fun(v:Value)=>⟨fz._f (.val v) PUnit.unit,PUnit.unit⟩) ⟨fz._f AV.any PUnit.unit,PUnit.unit⟩ ⟨fz._f .top PUnit.unit,PUnit.unit⟩ ⟨fz._f .nil PUnit.unit,PUnit.unit⟩ (fun(id:Nat)=>⟨fz._f (AV.hole id) PUnit.unit,PUnit.unit⟩) (fun(id:Nat)=>⟨fz._f (AV.al id) PUnit.unit,PUnit.unit⟩) (fun(id k sz off:Nat)=>⟨fz._f (AV.po id k sz off) PUnit.unit,PUnit.unit⟩) (fun(fs:List AV) (fs_ih:List AV×' AV.below_1 fs)=>⟨fz._f (.agg fs) fs_ih,fs_ih⟩) (fun(vs:List AV) (vs_ih:List AV×' AV.below_1 vs)=>⟨fz._f (.tup vs) vs_ih,vs_ih⟩) (fun(id:Nat) (c:List AV) (c_ih:List AV×' AV.below_1 c)=>⟨fz._f (.box id c) c_ih,c_ih⟩) (fun(x:Value) (c:List AV) (c_ih:List AV×' AV.below_1 c)=>⟨fz._f (AV.bv x c) c_ih,c_ih⟩) (fun(x:Value)=>⟨fz._f (AV.hv x) PUnit.unit,PUnit.unit⟩) (fun(c:List AV) (c_ih:List AV×' AV.below_1 c)=>⟨fz._f (AV.pf c) c_ih,c_ih⟩) (fun(fn:Fn) (caps:List AV) (caps_ih:List AV×' AV.below_1 caps)=>⟨fz._f (AV.clo fn caps) caps_ih,caps_ih⟩) (fun(own:Bool) (id sz:Nat) (α:Type) (f:α→List AV) (xs:List α) (f_ih:(a:α)→List AV×' AV.below_1 (f a))=>⟨fz._f (AV.sl own id sz α f xs) f_ih,f_ih⟩) ⟨fzL._f [] PUnit.unit,PUnit.unit⟩ (fun(head:AV) (tail:List AV) (head_ih:AV×' AV.below head) (tail_ih:List AV×' AV.below_1 tail)=>⟨fzL._f (head::tail) ⟨head_ih,tail_ih⟩,head_ih,tail_ih⟩) [.str x.text,.int .i64 x.pos,.bool x.blank]⟩) x_5.1.sg,.int .i64 (BA x_5.1.sg (xh x_5) x_5.2.2.2.2.2).pos,.bool (BA x_5.1.sg (xh x_5) x_5.2.2.2.2.2).bad,.int .i64 (BA x_5.1.sg (xh x_5) x_5.2.2.2.2.2).deep,AV.sl false (0:Nat) (4:Nat) Nd (fun(x:Nd)=>fzL._f [.int .i64 x.kind,.str x.text,Ab x.kids,.bool x.blank] ⟨AV.rec (fun(k:IntKind) (n:Int)=>⟨fz._f (AV.int k n) PUnit.unit,PUnit.unit⟩) (fun(b:Bool)=>⟨fz._f (.bool b) PUnit.unit,PUnit.unit⟩) (fun(l:List UInt8)=>⟨fz._f (.str l) PUnit.unit,PUnit.unit⟩) (fun(v:Value)=>⟨fz._f (.val v) PUnit.unit,PUnit.unit⟩) ⟨fz._f AV.any PUnit.unit,PUnit.unit⟩ ⟨fz._f .top PUnit.unit,PUnit.unit⟩ ⟨fz._f .nil PUnit.unit,PUnit.unit⟩ (fun(id:Nat)=>⟨fz._f (AV.hole id) PUnit.unit,PUnit.unit⟩) (fun(id:Nat)=>⟨fz._f (AV.al id) PUnit.unit,PUnit.unit⟩) (fun(id k sz off:Nat)=>⟨fz._f (AV.po id k sz off) PUnit.unit,PUnit.unit⟩) (fun(fs:List AV) (fs_ih:List AV×' AV.below_1 fs)=>⟨fz._f (.agg fs) fs_ih,fs_ih⟩) (fun(vs:List AV) (vs_ih:List AV×' AV.below_1 vs)=>⟨fz._f (.tup vs) vs_ih,vs_ih⟩) (fun(id:Nat) (c:List AV) (c_ih:List AV×' AV.below_1 c)=>⟨fz._f (.box id c) c_ih,c_ih⟩) (fun(x:Value) (c:List AV) (c_ih:List AV×' AV.below_1 c)=>⟨fz._f (AV.bv x c) c_ih,c_ih⟩) (fun(x:Value)=>⟨fz._f (AV.hv x) PUnit.unit,PUnit.unit⟩) (fun(c:List AV) (c_ih:List AV×' AV.below_1 c)=>⟨fz._f (AV.pf c) c_ih,c_ih⟩) (fun(fn:Fn) (caps:List AV) (caps_ih:List AV×' AV.below_1 caps)=>⟨fz._f (AV.clo fn caps) caps_ih,caps_ih⟩) (fun(own:Bool) (id sz:Nat) (α:Type) (f:α→List AV) (xs:List α) (f_ih:(a:α)→List AV×' AV.below_1 (f a))=>⟨fz._f (AV.sl own id sz α f xs) f_ih,f_ih⟩) ⟨fzL._f [] PUnit.unit,PUnit.unit⟩ (fun(head:AV) (tail:List AV) (head_ih:AV×' AV.below head) (tail_ih:List AV×' AV.below_1 tail)=>⟨fzL._f (head::tail) ⟨head_ih,tail_ih⟩,head_ih,tail_ih⟩) (.int .i64 x.kind),AV.rec_1 (fun(k:IntKind) (n:Int)=>⟨fz._f (AV.int k n) PUnit.unit,PUnit.unit⟩) (fun(b:Bool)=>⟨fz._f (.bool b) PUnit.unit,PUnit.unit⟩) (fun(l:List UInt8)=>⟨fz._f (.str l) PUnit.unit,PUnit.unit⟩) (fun(v:Value)=>⟨fz._f (.val v) PUnit.unit,PUnit.unit⟩) ⟨fz._f AV.any PUnit.unit,PUnit.unit⟩ ⟨fz._f .top PUnit.unit,PUnit.unit⟩ ⟨fz._f .nil PUnit.unit,PUnit.unit⟩ (fun(id:Nat)=>⟨fz._f (AV.hole id) PUnit.unit,PUnit.unit⟩) (fun(id:Nat)=>⟨fz._f (AV.al id) PUnit.unit,PUnit.unit⟩) (fun(id k sz off:Nat)=>⟨fz._f (AV.po id k sz off) PUnit.unit,PUnit.unit⟩) (fun(fs:List AV) (fs_ih:List AV×' AV.below_1 fs)=>⟨fz._f (.agg fs) fs_ih,fs_ih⟩) (fun(vs:List AV) (vs_ih:List AV×' AV.below_1 vs)=>⟨fz._f (.tup vs) vs_ih,vs_ih⟩) (fun(id:Nat) (c:List AV) (c_ih:List AV×' AV.below_1 c)=>⟨fz._f (.box id c) c_ih,c_ih⟩) (fun(x:Value) (c:List AV) (c_ih:List AV×' AV.below_1 c)=>⟨fz._f (AV.bv x c) c_ih,c_ih⟩) (fun(x:Value)=>⟨fz._f (AV.hv x) PUnit.unit,PUnit.unit⟩) (fun(c:List AV) (c_ih:List AV×' AV.below_1 c)=>⟨fz._f (AV.pf c) c_ih,c_ih⟩) (fun(fn:Fn) (caps:List AV) (caps_ih:List AV×' AV.below_1 caps)=>⟨fz._f (AV.clo fn caps) caps_ih,caps_ih⟩) (fun(own:Bool) (id sz:Nat) (α:Type) (f:α→List AV) (xs:List α) (f_ih:(a:α)→List AV×' AV.below_1 (f a))=>⟨fz._f (AV.sl own id sz α f xs) f_ih,f_ih⟩) ⟨fzL._f [] PUnit.unit,PUnit.unit⟩ (fun(head:AV) (tail:List AV) (head_ih:AV×' AV.below head) (tail_ih:List AV×' AV.below_1 tail)=>⟨fzL._f (head::tail) ⟨head_ih,tail_ih⟩,head_ih,tail_ih⟩) [.str x.text,Ab x.kids,.bool x.blank]⟩) (BA x_5.1.sg (xh x_5) x_5.2.2.2.2.2).nodes]=AV.pf [sgs x_6.1.sg,.int .i64 (xh x_6).pos,.bool (xh x_6).bad,.int .i64 (xh x_6).deep,nds (xh x_6).nodes]∧(1:Int)=x_6.2.2.2.2.2∧∃(y0:Unit),(∀(y:Unit),True→AV.bool (kdG x_6.1.sg (xh x_6) x_6.2.2.2.2.2)=AV.bool (kdG x_6.1.sg (xh x_6) x_6.2.2.2.2.2))∧true=true∧Aa (kdG x_6.1.sg (xh x_6) x_6.2.2.2.2.2) (inR IntKind.i64 ((BA x_5.1.sg (xh x_5) x_5.2.2.2.2.2).pos+(1:Int))∧Aa (decide ((BA x_5.1.sg (xh x_5) x_5.2.2.2.2.2).pos+(1:Int)<(↑(List.length x_5.1.sg):Int))) (inR IntKind.i64 ((BA x_5.1.sg (xh x_5) x_5.2.2.2.2.2).pos+(1:Int))∧((0:Int)≤(BA x_5.1.sg (xh x_5) x_5.2.2.2.2.2).pos+(1:Int)∧(BA x_5.1.sg (xh x_5) x_5.2.2.2.2.2).pos+(1:Int)<(↑(List.length x_5.1.sg):Int))∧∀(e:Sg),x_5.1.sg[Int.toNat ((BA x_5.1.sg (xh x_5) x_5.2.2.2.2.2).pos+(1:Int))]? =some e→Aa (e.kind==(4:Int)) (inR IntKind.i64 ((BA x_5.1.sg (xh x_5) x_5.2.2.2.2.2).pos+(1:Int))∧((0:Int)≤(BA x_5.1.sg (xh x_5) x_5.2.2.2.2.2).pos+(1:Int)∧(BA x_5.1.sg (xh x_5) x_5.2.2.2.2.2).pos+(1:Int)<(↑(List.length x_5.1.sg):Int))∧∀(e:Sg),x_5.1.sg[Int.toNat ((BA x_5.1.sg (xh x_5) x_5.2.2.2.2.2).pos+(1:Int))]? =some e→Aa (e.text== #[(61:UInt8)].toList) (cA Cp [srd x_5.1 (BA x_5.1.sg (xh x_5) x_5.2.2.2.2.2),.int .i64 (1:Int)] fun x_7 y=>cA BI [srd x_7.1 (Bi x_7.1.sg (xh x_7) x_7.2.2.2.2.2),.str #[(61:UInt8)].toList] fun x_8 y=>cA Fw [srd x_8.1 (AK x_8.1.sg (xh x_8) x_8.2.2.2.2.2)] fun x_9 y=>cA BI [srd x_9.1 (yG y.2),.str #[(59:UInt8)].toList] fun x_10 y_1=>∃(x_11:Int),y.1=x_11∧cA Br [srd x_10.1 (AK x_10.1.sg (xh x_10) x_10.2.2.2.2.2),.int .i64 (13:Int),.str (Bx x_7.1.sg (xh x_7) x_7.2.2.2.2.2),Ab [x_11]] fun x_12 y=>rA (FX n) x [.int .i64 (AX (xh x_12)),srd x_12.1 (As (xh x_12) {kind:=x_12.2.2.2.2.2.1,text:=x_12.2.2.2.2.2.2.1,kids:=x_12.2.2.2.2.2.2.2,blank:=false})]) (cA Fw [srd x_5.1 (BA x_5.1.sg (xh x_5) x_5.2.2.2.2.2)] fun x_7 y=>cA BI [srd x_7.1 (yG y.2),.str #[(59:UInt8)].toList] fun x_8 y_1=>∃(x_9:Int),y.1=x_9∧cA Br [srd x_8.1 (AK x_8.1.sg (xh x_8) x_8.2.2.2.2.2),.int .i64 (14:Int),.str #[].toList,Ab [x_9]] fun x_10 y=>rA (FX n) x [.int .i64 (AX (xh x_10)),srd x_10.1 (As (xh x_10) {kind:=x_10.2.2.2.2.2.1,text:=x_10.2.2.2.2.2.2.1,kids:=x_10.2.2.2.2.2.2.2,blank:=false})])) (cA Fw [srd x_5.1 (BA x_5.1.sg (xh x_5) x_5.2.2.2.2.2)] fun x_7 y=>cA BI [srd x_7.1 (yG y.2),.str #[(59:UInt8)].toList] fun x_8 y_1=>∃(x_9:Int),y.1=x_9∧cA Br [srd x_8.1 (AK x_8.1.sg (xh x_8) x_8.2.2.2.2.2),.int .i64 (14:Int),.str #[].toList,Ab [x_9]] fun x_10 y=>rA (FX n) x [.int .i64 (AX (xh x_10)),srd x_10.1 (As (xh x_10) {kind:=x_10.2.2.2.2.2.1,text:=x_10.2.2.2.2.2.2.1,kids:=x_10.2.2.2.2.2.2.2,blank:=false})])) (cA Fw [srd x_5.1 (BA x_5.1.sg (xh x_5) x_5.2.2.2.2.2)] fun x_7 y=>cA BI [srd x_7.1 (yG y.2),.str #[(59:UInt8)].toList] fun x_8 y_1=>∃(x_9:Int),y.1=x_9∧cA Br [srd x_8.1 (AK x_8.1.sg (xh x_8) x_8.2.2.2.2.2),.int .i64 (14:Int),.str #[].toList,Ab [x_9]] fun x_10 y=>rA (FX n) x [.int .i64 (AX (xh x_10)),srd x_10.1 (As (xh x_10) {kind:=x_10.2.2.2.2.2.1,text:=x_10.2.2.2.2.2.2.1,kids:=x_10.2.2.2.2.2.2.2,blank:=false})])) (cA Fw [srd x_5.1 (BA x_5.1.sg (xh x_5) x_5.2.2.2.2.2)] fun x_7 y=>cA BI [srd x_7.1 (yG y.2),.str #[(59:UInt8)].toList] fun x_8 y_1=>∃(x_9:Int),y.1=x_9∧cA Br [srd x_8.1 (AK x_8.1.sg (xh x_8) x_8.2.2.2.2.2),.int .i64 (14:Int),.str #[].toList,Ab [x_9]] fun x_10 y=>rA (FX n) x [.int .i64 (AX (xh x_10)),srd x_10.1 (As (xh x_10) {kind:=x_10.2.2.2.2.2.1,text:=x_10.2.2.2.2.2.2.1,kids:=x_10.2.2.2.2.2.2.2,blank:=false})]))))))) (fun x=>by kernel_rfl) fun(x:ST×Int×Int×Bool×List Nd) (hx:(okQ x.1 (xg x)∧(xg x).bad=false)∧21-(xg x).deep≤(n+1:Nat))=>(by
 dsimp only[cA,Bn,nds,Ab,AW,rA,HN,Lv,DL,Ix,Br,FX,Cp,Fw,Gy,BI,EC,CO,sgs,srd,srf,Au,Ax,mvL,lnL,mvE,lnE]
 obtain⟨s,p,d,b,ns⟩:=x;dsimp only[xg,xh] at hx ⊢
 obtain⟨⟨hx,hb⟩,hd⟩:=hx
 have hx:okQ s ⟨p,d,b,ns⟩:=hx
 have hD:=El hx;have hM:=MW hx;have h1:=hD.1
 (repeat' first|(show AV.pf _=AV.pf _;first|exact a2W|(with_unfolding_all exact a2W)|(with_unfolding_all rfl))|(with_reducible first|rfl|exact True.intro|apply AJ|apply And.intro|((first|apply Az|apply AH|apply AA|apply AI)<;>intro _))|(apply Av<;>intro _)|apply AG|refine Af () ?_ ?_|((first|apply AO|apply AN|apply AM|apply AL|apply AF|apply AE|apply AD|apply AC|apply AB)<;>try dsimp only)|apply Af|(refine Prod.forall.2 ?_;intro _;try dsimp only)|(intro _;try dsimp only))
 all_goals(try dsimp only[xg,xh,yG,yS,iG,iF] at*)
 all_goals(try simp only[FS] at*)
 all_goals(try(have e:=Jk (show isG s.sg ⟨p,d,b,ns⟩ 1 [118,97,114]=false by assumption);simp only[e] at*))
 all_goals(try(have e:=Jl (show isG s.sg ⟨p,d,b,ns⟩ 1 [118,97,114]=true by assumption);simp only[e] at*))
 all_goals(try(have e:=Jk (show isG s.sg ⟨p,d,b,ns⟩ 1 [114,101,116,117,114,110]=false by assumption);simp only[e] at*))
 all_goals(try(have e:=Jl (show isG s.sg ⟨p,d,b,ns⟩ 1 [114,101,116,117,114,110]=true by assumption);simp only[e] at*))
 all_goals(try(have e:=Jk (show isG s.sg ⟨p,d,b,ns⟩ 1 [105,102]=false by assumption);simp only[e] at*))
 all_goals(try(have e:=Jl (show isG s.sg ⟨p,d,b,ns⟩ 1 [105,102]=true by assumption);simp only[e] at*))
 all_goals(try(have e:=Jk (show isG s.sg ⟨p,d,b,ns⟩ 1 [119,104,105,108,101]=false by assumption);simp only[e] at*))
 all_goals(try(have e:=Jl (show isG s.sg ⟨p,d,b,ns⟩ 1 [119,104,105,108,101]=true by assumption);simp only[e] at*))
 all_goals first
  |rfl
  |exact h1
  |exact hM
  |omega
  |(simp;done)
  |exact b4S hx ‹_›
  |exact Hf h1 (by omega)
  |exact FW hx ‹_›
  |exact El (FW hx ‹_›)
  |exact(El (FW hx ‹_›)).1
  |exact b4T hx ‹_› ‹_› ‹_›
  |exact b4V hx ‹_› ‹_› ‹_› ‹_› ‹_›
  |exact b4U hx ‹_› ‹_› ‹_› ‹_›
  |exact EN h1 ‹_›
  |exact(Gv (EN h1 ‹_›)).1
  |exact(Gv (El (FW hx ‹_›)).1).1
  |exact b5g hx ‹_› ‹_› ‹_› ‹_› ‹_› (b5f (x:=⟨p,d,b,ns⟩) hb ‹_› ‹_› (b4Z ‹_› ‹_›) (b5b ‹_› ‹_›)) ‹_›
  |exact RX hx ‹_› ‹_› ‹_› ‹_› ‹_› (b5d ‹_›) ‹_›
  |exact RX hx ‹_› ‹_› ‹_› ‹_› ‹_› (b5e (x:=⟨p,d,b,ns⟩) ‹_›) ‹_›
  |exact RX hx ‹_› ‹_› ‹_› ‹_› ‹_› (a2R (x:=⟨p,d,b,ns⟩) hb ‹_› (.inl (b5a ‹_› ‹_›))) ‹_›
  |exact RX hx ‹_› ‹_› ‹_› ‹_› ‹_› (a2R (x:=⟨p,d,b,ns⟩) hb ‹_› (.inr (b5c ‹_› ‹_›))) ‹_›
  |(have hq:=Gp h1;dsimp only at hq;(try simp only[AR]);omega)
  |exact(a2S hx).1
  |exact El (a2S hx).2
  |exact hD
  |(simp [Ba];done)
  |exact(show Ba 2 8 by simp [Ba])
  |exact(show Ba 3 8 by simp [Ba])
  |skip
 all_goals(try(have hc:=(show BB s.sg (Aw ⟨p,d,b,ns⟩) (Dq s.sg) _ by assumption);have k0:=FW hx (show isG s.sg ⟨p,d,b,ns⟩ 1 _=true by assumption);have k1:=b5h k0 hc;have k2:=b5i (n:=n) (x:=⟨p,d,b,ns⟩) hd hc))
 all_goals first
  |exact k1
  |exact k2
  |exact(El (MX k1 ‹_›)).1
  |exact a2U (El (MX k1 ‹_›)).1
  |exact FW (MX k1 ‹_›) ‹_›
  |exact a2V (MX k1 ‹_›)
  |(have hh:=b5j (m:=[101,108,115,101]) k2 (show Aj s.sg _ (BN s.sg _) _ by assumption);exact hh)
  |exact EN h1 ‹_›
  |exact b4W hx ‹_› ‹_› ‹_› ‹_› ‹_› ‹_› ‹_›
  |exact b4X hx ‹_› ‹_› ‹_› ‹_› ‹_› ‹_› ‹_› ‹_›
  |exact b4Y hx ‹_› ‹_› ‹_› ‹_› ‹_› ‹_› ‹_›
  |exact(El (MX (a2V (MX k1 ‹_›)) ‹_›)).1
  |exact h1
  |skip)
end Go.My
end
section
set_option linter.unusedVariables false
set_option linter.unusedSimpArgs false
namespace Go.My
open Go.Eng Go.Proofs
variable {G:GInv}
theorem b5n(n:Nat):Am G Go.Proofs.Tryz.prog 173 (Jm n):=by
 induction n with
 |zero=>exact Ln Tryz.func173 rfl (by decide) (fun x h=>by have h1:=h.1.1.1.2;have h2:=h.2;omega)
 |succ n ih=>exact b5m n ih
def Lw:Sig:= {X:=ST×Int×Int×Bool×List Nd,args:=fun x=>[srd x.1 (xg x)],pre:=fun x=>okQ x.1 (xg x),Y:=Int×Int×Int×Bool×List Nd,post:=fun x y=>Aj x.1.sg (xg x) (Fb x.1.sg) (yS y),res:=fun x y=> .int .i64 y.1,outs:=fun x y=>[srd x.1 (yG y.2)],keep:=true}
theorem a2Y{s:ST}{g:Gs}(h:okQ s g):okQ s g∧20-g.deep≤(stN:Int):=by
 have h1:=h.1.1.2.2.1.1
 exact⟨h,by unfold stN;omega⟩
theorem a2Z:Am G Go.Proofs.Tryz.prog 144 Lw:=
 have c:=a2X (G:=G) stN (b5n stN)
 ⟨⟨c.1.1,fun x y hx hy=>c.1.2 x y (a2Y hx) hy⟩,fun x hx=>c.2 x (a2Y hx)⟩
theorem a3a{s:ST}{x:Gs}{v:List Int×Gs}(h:okQ s x)(hv:vlQ s.sg (BS s.sg) [41] [] (AK s.sg (Bi s.sg x 1) [40]) v):okQ s v.2:=by
 have a:=Gv (m:=[40]) (Hf (k:=1) h.1.1 (by omega))
 have e:(Bi s.sg x 1).deep=x.deep:=by unfold Bi;split<;>rfl
 obtain⟨b1,b2,b3,b4⟩:=Vu h.1.1.1 hv
 exact⟨⟨b1,by have:=h.1.2;omega⟩,h.2⟩
theorem a3b{s:ST}{x:Gs}{v:List Int×Gs}{q:Int×Gs}(h:okQ s x)(hv:vlQ s.sg (BS s.sg) [41] [] (AK s.sg (Bi s.sg x 1) [40]) v)(hq:Aj s.sg v.2 (Fb s.sg) q):
 Aj s.sg x (Gn s.sg false) (AX q.2,As q.2 ⟨20,Bx s.sg x 1,v.1++[q.1],false⟩):=by
 rw[HK.1] at hv;rw[HK.2]
 obtain⟨l,⟨a,b⟩,rfl⟩:=hv
 exact b2k (l:=l) h.1.1.1 h.1.1.2 a b hq
def clS(sg:List Sg)(x y:Gs)(ks:List Int)(N:Nat):Prop:=JW sg (Da sg) [125] (AK sg (Bi sg (Aw x) 1) [123]) y ks N∧y.deep=x.deep
theorem a3c{s:ST}{x:Gs}(h:okQ s (Aw x)):clS s.sg x (AK s.sg (Bi s.sg (Aw x) 1) [123]) [] (s.sg.length+1):=by
 have a:=Hf (k:=1) h.1.1 (by omega)
 refine⟨a1I (Gv a).1.2,?_⟩
 rw[(Gv a).2];unfold Bi;split<;>rfl
theorem b5o{s:ST}{x:Gs}(h:okQ s x)(h1:isG s.sg x 1 [118,97,114]=false)(h2:isG s.sg (BA s.sg x [118,97,114]) 1 [99,108,97,115,115]=true):
 clS s.sg x (AK s.sg (Bi s.sg (BA s.sg (BA s.sg x [118,97,114]) [99,108,97,115,115]) 1) [123]) [] (s.sg.length+1):=by
 rw[Jk h1] at h2 ⊢
 rw[Jl h2];exact a3c (FW h h2)
theorem b5p{s:ST}{x:Gs}(h:okQ s (Aw x)):rOk s (Bi s.sg (Aw x) 1)∧rOk s (AK s.sg (Bi s.sg (Aw x) 1) [123]):=
 have a:=Hf (k:=1) h.1.1 (by omega)
 ⟨a,(Gv a).1⟩
theorem VU{s:ST}{x y:Gs}{ks:List Int}{N:Nat}(h:okQ s (Aw x))(hj:clS s.sg x y ks N):okQ s y:=⟨⟨⟨h.1.1.1,hj.1.1.1⟩,by have:=hj.2;have:=h.1.2;simp only[Aw] at*;omega⟩,h.2⟩
theorem a3d{s:ST}{x y:Gs}{ks:List Int}{N:Nat}(h:okQ s (Aw x))(hj:clS s.sg x y ks N)(hb:y.bad=false)(hq:isG s.sg y 4 [125]=false):okQ s (AP s.sg y [125])∧(AP s.sg y [125]).bad=false:=by
 rw[Dl hq];exact⟨VU h hj,hb⟩
theorem VV{s:ST}{x y:Gs}{ks:List Int}{N:Nat}(h:okQ s (Aw x))(hj:clS s.sg x y ks N):ks.length≤3001:=by
 have:=hj.1.2.2.1;have:=hj.1.1.1.1;have:=h.1.1.1.1;omega
theorem Kc{s:ST}{x y:Gs}{ks:List Int}{N:Nat}{b:Bool}{z:Int×Gs}(hj:clS s.sg x y ks N)(hb:y.bad=false)(hq:isG s.sg y 4 [125]=false)(hz:Aj s.sg (AP s.sg y [125]) (Da s.sg false) z)(e:b=(blG s.sg (AP s.sg y [125])&&decide (0<(ks.length:Int)))):
 clS s.sg x (gBl z.2 z.1 b) (ks++[z.1]) (N-1)∧N-1<N:=by
 rw[Dl hq] at hz e
 rw[VO hb] at e
 have hz2:Aj s.sg y (Da s.sg b) (z.1,gBl z.2 z.1 b):=VN VL hz
 subst e
 obtain⟨a,b⟩:=ML (a1M hj.1 hb hq (z:=(z.1,gBl z.2 z.1 ((pkG s.sg y 0).blank&&decide (0<(ks.length:Int))))) (by
  have:decide (0<ks.length)=decide (0<(ks.length:Int)):=by simp
  rw[this];exact hz2))
 have:=(CE hz2).1
 exact⟨⟨a,by have:=hj.2;simp only at*;omega⟩,b⟩
theorem a3e{s:ST}{x:Gs}{l:List Int×Gs}(h:okQ s (Aw x))(hl:BB s.sg (AK s.sg (Bi s.sg (Aw x) 1) [123]) (CD s.sg (Da s.sg) [125] (s.sg.length+1) []) l)(hll:l.1.length≤3001):
 Aj s.sg (Aw x) (Ha s.sg false) (AX (AK s.sg l.2 [125]),As (AK s.sg l.2 [125]) ⟨21,Bx s.sg (Aw x) 1,l.1,false⟩):=by
 rw[HK.1] at hl;rw[HK.2]
 exact HJ hl.1 (EB (Jf h.1.1.1) (by omega)) (b2l h.1.1.1 h.1.1.2 hl hll)
theorem b5q{s:ST}{x y:Gs}{ks:List Int}{N:Nat}(h:okQ s (Aw x))(hj:clS s.sg x y ks N)(hq:isG s.sg y 4 [125]=true):
 Aj s.sg (Aw x) (Ha s.sg false) (AX (AP s.sg y [125]),As (AP s.sg y [125]) ⟨21,Bx s.sg (Aw x) 1,ks,false⟩):=by
 rw[Ek hq,←Jh hq];exact a3e (l:=(ks,y)) h (a1L hj.1 hq) (VV h hj)
theorem b5r{s:ST}{x y:Gs}{ks:List Int}{N:Nat}(h:okQ s (Aw x))(hj:clS s.sg x y ks N)(hb:y.bad=true):
 Aj s.sg (Aw x) (Ha s.sg false) (AX y,As y ⟨21,Bx s.sg (Aw x) 1,ks,false⟩):=by
 have a:=a3e (l:=(ks,y)) h (a1J hj.1 hb) (VV h hj)
 simp only[RH hb] at a;exact a
theorem b5s{s:ST}{x:Gs}(h:okQ s x)(hk:kdG s.sg x 5=true):Aj s.sg x (Da s.sg false) (AX (Bi s.sg x 5),As (Bi s.sg x 5) ⟨19,Bx s.sg x 5,[],false⟩):=by
 have hn:=hk
 rw[Pm (by omega)] at hn
 exact MS h.1.1.1 h.1.1.2 (by omega) hk (b2m h.1.1.1 h.1.1.2 (by simpa using hn))
theorem b5t{s:ST}{x:Gs}(h:okQ s x)(hk:kdG s.sg x 5=true):Aj s.sg x (Dk s.sg false) (AX (Bi s.sg x 5),As (Bi s.sg x 5) ⟨19,Bx s.sg x 5,[],false⟩):=by
 have hn:=hk
 rw[Pm (by omega)] at hn
 exact MS h.1.1.1 h.1.1.2 (by omega) hk (b2p h.1.1.1 h.1.1.2 (by simpa using hn))
theorem b5u{s:ST}{x:Gs}{z:Int×Gs}(h:okQ s x)(hk:kdG s.sg x 5=false)(hq:isG s.sg x 1 [118,97,114]=true)(hz:Aj s.sg (Aw x) (Dj s.sg false) z):Aj s.sg x (Da s.sg false) z:=b2n h.1.1.2 (Gx hk) hq hz
theorem b5v{s:ST}{x:Gs}{z:Int×Gs}(h:okQ s x)(hk:kdG s.sg x 5=false)(hq:isG s.sg x 1 [118,97,114]=true)(hz:Aj s.sg (Aw x) (Dj s.sg false) z):Aj s.sg x (Dk s.sg false) z:=b2q h.1.1.2 (Gx hk) hq hz
theorem b5w{s:ST}{x:Gs}{z:Int×Gs}(h:okQ s x)(hk:kdG s.sg x 5=false)(hq:isG s.sg x 1 [118,97,114]=false)(hz:Aj s.sg x (Gn s.sg false) z):Aj s.sg x (Da s.sg false) z:=b2o h.1.1.2 (Gx hk) hq hz
theorem b5x{s:ST}{x:Gs}{z:Int×Gs}(h:okQ s x)(hk:kdG s.sg x 5=false)(h1:isG s.sg x 1 [118,97,114]=false)(hq:isG s.sg x 1 [99,108,97,115,115]=false)(hz:Aj s.sg x (Gn s.sg false) z):Aj s.sg x (Dk s.sg false) z:=b2s h.1.1.2 (Gx hk) h1 hq hz
theorem a3f{s:ST}{x:Gs}{z:Int×Gs}(h:okQ s x)(hk:kdG s.sg x 5=false)(h1:isG s.sg x 1 [118,97,114]=false)(hq:isG s.sg x 1 [99,108,97,115,115]=true)(hz:Aj s.sg (Aw x) (Ha s.sg false) z):Aj s.sg x (Dk s.sg false) z:=b2r h.1.1.2 (Gx hk) h1 hq hz
def a3g:Sig:= {X:=ST×Int×Int×Bool×List Nd,args:=fun x=>[srd x.1 (xg x),.bool false],pre:=fun x=>False,Y:=Int×Int×Int×Bool×List Nd,post:=fun x y=>True,res:=fun x y=> .int .i64 y.1,outs:=fun x y=>[srd x.1 (yG y.2),.top],keep:=true}
theorem b5y:Am G Go.Proofs.Tryz.prog 115 a3g:=Ln Tryz.func115 rfl (by decide) (fun x h=>h)
attribute [local irreducible] pE Bw CP fnR Aj BB gsOk AK Cx As CT Eh AP DJ DW AX Cy pkG isG nmG kdG Bi Bx BS vlQ BA gBl blG Dj Gu Dq Cg BN stR CD okQ sgM clS Da Dk Gn Ha Fb
def Jn:Sig:= {X:=ST×Int×Int×Bool×List Nd,args:=fun x=>[srd x.1 (xg x),.bool false],pre:=fun x=>okQ x.1 (xg x)∧(xg x).bad=false,Y:=Int×Int×Int×Bool×List Nd,post:=fun x y=>Aj x.1.sg (xg x) (Da x.1.sg false) (yS y),res:=fun x y=> .int .i64 y.1,outs:=fun x y=>[srd x.1 (yG y.2),.top],keep:=true}
def b5z(x:ST×Int×Int×Bool×List Nd):LS:= {ι:=Int×Int×Bool×List Nd×List Int×Nat,inv:=fun i=>False,regs:=fun i=>[(0,srd x.1 (iG i)),(5,.str (Bx x.1.sg (Aw (xg x)) 1)),(6,Ab i.2.2.2.2.1)],als:=[],meas:=fun i=>i.2.2.2.2.2}
theorem b5A:Am G Tryz.prog 115 Jn:=
 vcFun_okP [(137,0,DM),(138,0,Cp),(117,0,Br),(139,0,EC),(140,0,Gy),(141,0,BI),(142,0,BU),(114,0,Fv),(115,0,a3g),(116,0,DX),(143,0,FV),(144,0,Lw)] [(26,⟨Int,Bj⟩)] false (fun x=>[(9,b5z x)]) Tryz.func115 rfl (by decide) ⟨RE,JZ,He,Vm,VT,HI,Hd,RF,b5y,RG,Vy,a2Z,trivial⟩ (fun(x:ST×Int×Int×Bool×List Nd)=>True∧cA DM [srd x.1 (xg x),.int .i64 (5:Int)] fun x_1 y=>Aa (kdG x_1.1.sg (xh x_1) x_1.2.2.2.2.2) (cA Cp [srd x_1.1 (xh x_1),.int .i64 (5:Int)] fun x_2 y=>cA Br [srd x_2.1 (Bi x_2.1.sg (xh x_2) x_2.2.2.2.2.2),.int .i64 (19:Int),.str (Bx x_2.1.sg (xh x_2) x_2.2.2.2.2.2),Ab []] fun x_3 y=>rA Jn x [.int .i64 (AX (xh x_3)),srd x_3.1 (As (xh x_3) {kind:=x_3.2.2.2.2.2.1,text:=x_3.2.2.2.2.2.2.1,kids:=x_3.2.2.2.2.2.2.2,blank:=false}),.top]) (cA EC [srd x_1.1 (xh x_1),.str #[(118:UInt8),(97:UInt8),(114:UInt8)].toList] fun x_2 y=>Aa (isG x_2.1.sg (xh x_2) (1:Int) x_2.2.2.2.2.2) (cA Gy [srd x_2.1 (BA x_2.1.sg (xh x_2) x_2.2.2.2.2.2)] fun x_3 y=>rA Jn x [.int .i64 y.1,srd x_3.1 (yG y.2),.top]) (cA Cp [srd x_2.1 (BA x_2.1.sg (xh x_2) x_2.2.2.2.2.2),.int .i64 (1:Int)] fun x_3 y=>cA FV [srd x_3.1 (Bi x_3.1.sg (xh x_3) x_3.2.2.2.2.2)] fun x_4 y=>cA Lw [srd x_4.1 (yG y.2)] fun x_5 y_1=>∃(x_6:Int),y_1.1=x_6∧∃(zs:List Int),Ab [x_6]=Ab zs∧BF Bj∧Ba (List.length y.1+List.length zs) (8:Nat)∧cA Br [srd x_5.1 (yG y_1.2),.int .i64 (20:Int),.str (Bx x_3.1.sg (xh x_3) x_3.2.2.2.2.2),Ab (y.1++zs)] fun x_7 y=>rA Jn x [.int .i64 (AX (xh x_7)),srd x_7.1 (As (xh x_7) {kind:=x_7.2.2.2.2.2.1,text:=x_7.2.2.2.2.2.2.1,kids:=x_7.2.2.2.2.2.2.2,blank:=false}),.top]))) (fun x=>by kernel_rfl) fun(x:ST×Int×Int×Bool×List Nd) (hx:okQ x.1 (xg x)∧(xg x).bad=false)=>(by
 dsimp only[cA,Bn,Ab,AW,rA,Lw,DM,Jn,FV,Br,Cp,Gy,EC,CO,sgs,srd,Au,Ax,mvL,lnL,mvE,lnE]
 obtain⟨s,p,d,b,ns⟩:=x;dsimp only[xg,xh] at hx ⊢
 obtain⟨hx,hb⟩:=hx
 have hx:okQ s ⟨p,d,b,ns⟩:=hx
 have hD:=El hx;have hM:=MW hx;have h1:=hD.1;have hs:=h1.1
 (repeat' first|(with_reducible first|rfl|exact True.intro|apply AJ|apply And.intro|((first|apply Az|apply AH|apply AA|apply AI)<;>intro _))|(apply Av<;>intro _)|apply AG|refine Af () ?_ ?_|((first|apply AO|apply AN|apply AM|apply AL|apply AF|apply AE|apply AD|apply AC|apply AB)<;>try dsimp only)|apply Af|(refine Prod.forall.2 ?_;intro _;try dsimp only)|(intro _;try dsimp only))
 all_goals(try dsimp only[xg,xh,yG,yS,iG,iF] at*)
 all_goals(try simp only[FS] at*)
 all_goals(try(have e:=Jk (show isG s.sg ⟨p,d,b,ns⟩ 1 [118,97,114]=false by assumption);simp only[e] at*))
 all_goals(try(have e:=Jl (show isG s.sg ⟨p,d,b,ns⟩ 1 [118,97,114]=true by assumption);simp only[e] at*))
 all_goals first
  |rfl
  |exact h1
  |omega
  |contradiction
  |exact b5s hx ‹_›
  |exact Hf h1 (by omega)
  |exact FW hx ‹_›
  |exact b5u hx ‹_› ‹_› ‹_›
  |exact a3a hx ‹_›
  |exact EN h1 ‹_›
  |exact b5w hx ‹_› ‹_› (a3b hx ‹_› ‹_›)
  |(have hq:=VB hs (show vlQ _ _ _ [] _ _ by assumption);(try simp only[Ba,List.length_append,List.length_cons,List.length_nil] at*);omega)
  |skip)
def HO:Sig:= {X:=ST×Int×Int×Bool×List Nd,args:=fun x=>[srd x.1 (xg x),.bool true],pre:=fun x=>okQ x.1 (xg x)∧(xg x).bad=false,Y:=Int×Int×Int×Bool×List Nd,post:=fun x y=>Aj x.1.sg (xg x) (Dk x.1.sg false) (yS y),res:=fun x y=> .int .i64 y.1,outs:=fun x y=>[srd x.1 (yG y.2),.top],keep:=true}
def Pq(x:ST×Int×Int×Bool×List Nd):LS:= {ι:=Int×Int×Bool×List Nd×List Int×Nat,inv:=fun i=>clS x.1.sg (xg x) (iG i) i.2.2.2.2.1 i.2.2.2.2.2,regs:=fun i=>[(0,srd x.1 (iG i)),(5,.str (Bx x.1.sg (Aw (xg x)) 1)),(6,Ab i.2.2.2.2.1)],als:=[],meas:=fun i=>i.2.2.2.2.2}
theorem b5B:Am G Tryz.prog 115 HO:=
 vcFun_okP [(137,0,DM),(138,0,Cp),(117,0,Br),(139,0,EC),(140,0,Gy),(141,0,BI),(142,0,BU),(114,0,Fv),(115,0,Jn),(116,0,DX),(143,0,FV),(144,0,Lw)] [(26,⟨Int,Bj⟩)] false (fun x=>[(9,Pq x)]) Tryz.func115 rfl (by decide) ⟨RE,JZ,He,Vm,VT,HI,Hd,RF,b5A,RG,Vy,a2Z,trivial⟩ (fun(x:ST×Int×Int×Bool×List Nd)=>True∧cA DM [srd x.1 (xg x),.int .i64 (5:Int)] fun x_1 y=>Aa (kdG x_1.1.sg (xh x_1) x_1.2.2.2.2.2) (cA Cp [srd x_1.1 (xh x_1),.int .i64 (5:Int)] fun x_2 y=>cA Br [srd x_2.1 (Bi x_2.1.sg (xh x_2) x_2.2.2.2.2.2),.int .i64 (19:Int),.str (Bx x_2.1.sg (xh x_2) x_2.2.2.2.2.2),Ab []] fun x_3 y=>rA HO x [.int .i64 (AX (xh x_3)),srd x_3.1 (As (xh x_3) {kind:=x_3.2.2.2.2.2.1,text:=x_3.2.2.2.2.2.2.1,kids:=x_3.2.2.2.2.2.2.2,blank:=false}),.top]) (cA EC [srd x_1.1 (xh x_1),.str #[(118:UInt8),(97:UInt8),(114:UInt8)].toList] fun x_2 y=>Aa (isG x_2.1.sg (xh x_2) (1:Int) x_2.2.2.2.2.2) (cA Gy [srd x_2.1 (BA x_2.1.sg (xh x_2) x_2.2.2.2.2.2)] fun x_3 y=>rA HO x [.int .i64 y.1,srd x_3.1 (yG y.2),.top]) (cA EC [srd x_2.1 (BA x_2.1.sg (xh x_2) x_2.2.2.2.2.2),.str #[(99:UInt8),(108:UInt8),(97:UInt8),(115:UInt8),(115:UInt8)].toList] fun x_3 y=>Aa (isG x_3.1.sg (xh x_3) (1:Int) x_3.2.2.2.2.2) (cA Cp [srd x_3.1 (BA x_3.1.sg (xh x_3) x_3.2.2.2.2.2),.int .i64 (1:Int)] fun x_4 y=>cA BI [srd x_4.1 (Bi x_4.1.sg (xh x_4) x_4.2.2.2.2.2),.str #[(123:UInt8)].toList] fun x_5 y=>eA (Pq x) [srd x_5.1 (AK x_5.1.sg (xh x_5) x_5.2.2.2.2.2),.str (Bx x_4.1.sg (xh x_4) x_4.2.2.2.2.2),Ab []]∧∀(i:Int×Int×Bool×List Nd×List Int×Nat),clS x.1.sg (xg x) (iG i) i.2.2.2.2.1 i.2.2.2.2.2→Aa (!(iG i).bad) (cA BU [srd x.1 (iG i),.str #[(125:UInt8)].toList] fun x_6 y=>Aa (!isG x_6.1.sg (xh x_6) (4:Int) x_6.2.2.2.2.2) (cA Fv [srd x_6.1 (AP x_6.1.sg (xh x_6) x_6.2.2.2.2.2)] fun x_7 y=>Aa (blG x_7.1.sg (xg x_7)) (cA Jn [srd x_7.1 (xg x_7),.bool false] fun x_8 y=>cA DX [srd x_8.1 (yG y.2),.int .i64 y.1,.bool (decide ((↑(List.length i.2.2.2.2.1):Int)>(0:Int)))] fun x_9 y_1=>∃(x_10:Int),y.1=x_10∧∃(zs:List Int),Ab [x_10]=Ab zs∧BF Bj∧Ba (List.length i.2.2.2.2.1+List.length zs) (8:Nat)∧eN (Pq x) i [srd x_9.1 (gBl (xh x_9) x_9.2.2.2.2.2.1 x_9.2.2.2.2.2.2),.str (Bx x.1.sg (Aw (xg x)) (1:Int)),Ab (i.2.2.2.2.1++zs)]) (cA Jn [srd x_7.1 (xg x_7),.bool false] fun x_8 y=>cA DX [srd x_8.1 (yG y.2),.int .i64 y.1,.bool false] fun x_9 y_1=>∃(x_10:Int),y.1=x_10∧∃(zs:List Int),Ab [x_10]=Ab zs∧BF Bj∧Ba (List.length i.2.2.2.2.1+List.length zs) (8:Nat)∧eN (Pq x) i [srd x_9.1 (gBl (xh x_9) x_9.2.2.2.2.2.1 x_9.2.2.2.2.2.2),.str (Bx x.1.sg (Aw (xg x)) (1:Int)),Ab (i.2.2.2.2.1++zs)])) (cA Br [srd x_6.1 (AP x_6.1.sg (xh x_6) x_6.2.2.2.2.2),.int .i64 (21:Int),.str (Bx x.1.sg (Aw (xg x)) (1:Int)),Ab i.2.2.2.2.1] fun x_7 y=>rA HO x [.int .i64 (AX (xh x_7)),srd x_7.1 (As (xh x_7) {kind:=x_7.2.2.2.2.2.1,text:=x_7.2.2.2.2.2.2.1,kids:=x_7.2.2.2.2.2.2.2,blank:=false}),.top])) (cA Br [srd x.1 (iG i),.int .i64 (21:Int),.str (Bx x.1.sg (Aw (xg x)) (1:Int)),Ab i.2.2.2.2.1] fun x_6 y=>rA HO x [.int .i64 (AX (xh x_6)),srd x_6.1 (As (xh x_6) {kind:=x_6.2.2.2.2.2.1,text:=x_6.2.2.2.2.2.2.1,kids:=x_6.2.2.2.2.2.2.2,blank:=false}),.top])) (cA Cp [srd x_3.1 (BA x_3.1.sg (xh x_3) x_3.2.2.2.2.2),.int .i64 (1:Int)] fun x_4 y=>cA FV [srd x_4.1 (Bi x_4.1.sg (xh x_4) x_4.2.2.2.2.2)] fun x_5 y=>cA Lw [srd x_5.1 (yG y.2)] fun x_6 y_1=>∃(x_7:Int),y_1.1=x_7∧∃(zs:List Int),Ab [x_7]=Ab zs∧BF Bj∧Ba (List.length y.1+List.length zs) (8:Nat)∧cA Br [srd x_6.1 (yG y_1.2),.int .i64 (20:Int),.str (Bx x_4.1.sg (xh x_4) x_4.2.2.2.2.2),Ab (y.1++zs)] fun x_8 y=>rA HO x [.int .i64 (AX (xh x_8)),srd x_8.1 (As (xh x_8) {kind:=x_8.2.2.2.2.2.1,text:=x_8.2.2.2.2.2.2.1,kids:=x_8.2.2.2.2.2.2.2,blank:=false}),.top])))) (fun x=>by kernel_rfl) fun(x:ST×Int×Int×Bool×List Nd) (hx:okQ x.1 (xg x)∧(xg x).bad=false)=>(by
 dsimp only[cA,eA,eN,Pq,Bn,Ab,AW,rA,Lw,Fv,DX,DM,BU,HO,Jn,FV,Br,Cp,Gy,BI,EC,CO,sgs,srd,Au,Ax,mvL,lnL,mvE,lnE,Bm]
 obtain⟨s,p,d,b,ns⟩:=x;dsimp only[xg,xh] at hx ⊢
 obtain⟨hx,hb⟩:=hx
 have hx:okQ s ⟨p,d,b,ns⟩:=hx
 have hD:=El hx;have hM:=MW hx;have h1:=hD.1;have hs:=h1.1
 (repeat' first|(with_reducible first|rfl|exact True.intro|apply AJ|apply And.intro|((first|apply Az|apply AH|apply AA|apply AI)<;>intro _))|(apply Av<;>intro _)|apply AG|refine Af () ?_ ?_|((first|apply AO|apply AN|apply AM|apply AL|apply AF|apply AE|apply AD|apply AC|apply AB)<;>try dsimp only)|apply Af|(refine Prod.forall.2 ?_;intro _;try dsimp only)|(intro _;try dsimp only))
 all_goals(try dsimp only[xg,xh,yG,yS,iG,iF] at*)
 all_goals(try simp only[FS] at*)
 all_goals first
  |(show Nat;skip)
  |exact b5o hx ‹_› ‹_›
  |exact(Kc ‹_› ‹_› ‹_› ‹_› (JX ‹_›)).1
  |exact(Kc ‹_› ‹_› ‹_› ‹_› (JY ‹_›)).1
  |skip
 all_goals(try(first|exact(Kc ‹_› ‹_› ‹_› ‹_› (JX ‹_›)).2|exact(Kc ‹_› ‹_› ‹_› ‹_› (JY ‹_›)).2))
 all_goals(try(have e:=Jk (show isG s.sg ⟨p,d,b,ns⟩ 1 [118,97,114]=false by assumption);simp only[e] at*))
 all_goals(try(have e:=Jl (show isG s.sg ⟨p,d,b,ns⟩ 1 [118,97,114]=true by assumption);simp only[e] at*))
 all_goals(try(have e:=Jk (show isG s.sg ⟨p,d,b,ns⟩ 1 [99,108,97,115,115]=false by assumption);simp only[e] at*))
 all_goals(try(have e:=Jl (show isG s.sg ⟨p,d,b,ns⟩ 1 [99,108,97,115,115]=true by assumption);simp only[e] at*))
 all_goals(try(have hw:=FW hx (show isG s.sg ⟨p,d,b,ns⟩ 1 [99,108,97,115,115]=true by assumption)))
 all_goals first
  |(show Nat;skip)
  |rfl
  |exact h1
  |omega
  |contradiction
  |exact b5t hx ‹_›
  |exact Hf h1 (by omega)
  |exact FW hx ‹_›
  |exact b5v hx ‹_› ‹_› ‹_›
  |exact a3a hx ‹_›
  |exact(El hw).1
  |exact(b5p hw).1
  |exact a3c hw
  |exact(El (VU hw ‹_›)).1
  |exact(a3d hw ‹_› ‹_› ‹_›).1
  |exact(a3d hw ‹_› ‹_› ‹_›).2
  |exact Fe (El (VU hw ‹_›)).1
  |exact EN h1 ‹_›
  |exact MV VL ‹_›
  |exact MV VL ‹_› ‹_›
  |exact(Kc ‹_› ‹_› ‹_› ‹_› (JX ‹_›)).1
  |exact(Kc ‹_› ‹_› ‹_› ‹_› (JY ‹_›)).1
  |exact a3f hx ‹_› ‹_› ‹_› (b5q hw ‹_› ‹_›)
  |exact a3f hx ‹_› ‹_› ‹_› (b5r hw ‹_› ‹_›)
  |exact b5x hx ‹_› ‹_› ‹_› (a3b hx ‹_› ‹_›)
  |(have hq:=VB hs (show vlQ _ _ _ [] _ _ by assumption);(try simp only[Ba,List.length_append,List.length_cons,List.length_nil] at*);omega)
  |(have hq:=VV hw (show clS _ _ _ _ _ by assumption);(try simp only[Ba,List.length_append,List.length_cons,List.length_nil]);omega)
  |skip
 all_goals first
  |exact(Kc ‹_› ‹_› ‹_› ‹_› (JX ‹_›)).2
  |exact(Kc ‹_› ‹_› ‹_› ‹_› (JY ‹_›)).2
  |skip)
end Go.My
end
section
set_option linter.unusedVariables false
set_option linter.unusedSimpArgs false
namespace Go.My
open Go.Eng Go.Proofs
variable {G:GInv}
theorem a3h{c:UInt8}(h1:Cj c=false)(h2:Bt c=false):BJ c=false:=by simp [BJ,h1,h2]
theorem b5C{c:UInt8}(h1:Cj c=true):BJ c=true:=by simp [BJ,h1]
theorem b5D{c:UInt8}(h1:Bt c=true):BJ c=true:=by simp [BJ,h1]
theorem b5E{s:List UInt8}:Cn s≤s.length:=by
 unfold Cn
 cases h:DA isQ (s.drop 1) with
 |none=>simp
 |some i=>
  simp only
  split
  ·have:=Um h;simp at this;omega
  ·omega
theorem b5F{s:List UInt8}:Ci s≤s.length:=by
 unfold Ci
 split
 ·split
  ·exact Ry
  ·omega
 ·omega
theorem b5G{s:List UInt8}:(Fu s).length≤2:=by
 rw[a2f]
 split
 ·simp;omega
 ·split
  ·simp;omega
  ·simp
theorem b5H{x:List UInt8×Int}(h0:0≤x.2)(h1:x.2<x.1.length):(Ci (x.1.drop x.2.toNat):Int)≤x.1.length-x.2∧(Cn (x.1.drop x.2.toNat):Int)≤x.1.length-x.2:=by
 have a:= @b5F (x.1.drop x.2.toNat);have b:= @b5E (x.1.drop x.2.toNat)
 simp at a b;omega
theorem a3i{x:List UInt8×Int}{i:Int}{c d e:UInt8}(h0:0≤x.2)(hf:Cj c=false)(hc:x.1[x.2.toNat]? =some c)(hg:Bt d=true)(hd:x.1[x.2.toNat]? =some d)(h:rwI Bt x i)(hz:Bt e=false)(he:x.1[i.toNat]? =some e):
 (i-x.2>12→sgR x 0 [] 0 false 0)∧(¬i-x.2>12→sgR x 2 (List.drop (Int.toNat x.2) (List.take (Int.toNat i) x.1)) x.2 false (i-x.2)):=by
 rw[hc] at hd;cases hd
 exact Pk h0 hc hf hg h (.inr ⟨_,he,hz⟩)
theorem a3j{t:List UInt8}{i br:Int}{l:List Sg}{n:Nat}{c c2:UInt8}{k p m:Int}{tx:List UInt8}{b:Bool}(h32:(c.toNat:Int)≠32)(hc:t[i.toNat]? =some c)(h10:(c2.toNat:Int)≠10)(hc2:t[i.toNat]? =some c2)(h:sgJ t i br l n)(hi:i<t.length)(hs:sgR (t,i) k tx p b m)(hm:m≠0):
 sgJ t (i+m) 0 (l++[⟨k,tx,p,decide (br>1)⟩]) (n-1)∧n-1<n:=by
 rw[hc] at hc2;cases hc2
 rcases hs with⟨h1,⟨rfl,rfl,rfl,rfl⟩,rfl⟩|hs
 ·exact b2S hc h hi (by omega) (by omega) h1
 ·exact(hm hs.2).elim
theorem a3k{t:List UInt8}{i br:Int}{l:List Sg}{n:Nat}{c c2:UInt8}{k p m:Int}{tx:List UInt8}{b:Bool}(h32:(c.toNat:Int)≠32)(hc:t[i.toNat]? =some c)(h10:(c2.toNat:Int)≠10)(hc2:t[i.toNat]? =some c2)(h:sgJ t i br l n)(hi:i<t.length)(hs:sgR (t,i) k tx p b m)(hm:m=0):CA t=none:=by
 rw[hc] at hc2;cases hc2
 rcases hs with⟨h1,_,h2⟩|hs
 ·have a:=(a1V h1).1;rw[hm] at h2;rw[←h2] at a;omega
 ·exact b2T hc h hi (by omega) (by omega) hs.1
theorem b5I{t:List UInt8}{i br:Int}{l:List Sg}{n:Nat}{k p m:Int}{tx:List UInt8}{b:Bool}(h:sgJ t i br l n)(hs:sgR (t,i) k tx p b m):0≤m∧m≤t.length-i:=by
 rcases hs with⟨h1,_,h2⟩|hs
 ·have a:=a1Y h h1;simp only at h2;omega
 ·have:=MN h;omega
attribute [local irreducible] rwI sgR Bf Ci Cn Fu
def RY:Sig:= {X:=List UInt8×Int,args:=fun x=>[.str x.1,.int .i64 x.2],pre:=fun x=>0≤x.2∧x.2<x.1.length∧x.1.length<2^62,Y:=Int×List UInt8×Int×Bool×Int,post:=fun x y=>sgR x y.1 y.2.1 y.2.2.1 y.2.2.2.1 y.2.2.2.2,res:=fun x y=> .tup [.agg [.int .i64 y.1,.str y.2.1,.int .i64 y.2.2.1,.bool y.2.2.2.1],.int .i64 y.2.2.2.2],outs:=fun x y=>[.top,.top],keep:=false}
def Pr(x:List UInt8×Int):LS:= {ι:=Int,inv:=fun i=>rwI BJ x i,regs:=fun i=>[(0,.str x.1),(1,.int .i64 x.2),(4,.box 0 [.int .i64 0,.str [],.int .i64 0,.bool false]),(6,.int .i64 i)],als:=[],meas:=fun i=>x.1.length-i.toNat}
def RZ(x:List UInt8×Int):LS:= {ι:=Int,inv:=fun i=>rwI Bt x i,regs:=fun i=>[(0,.str x.1),(1,.int .i64 x.2),(4,.box 0 [.int .i64 0,.str [],.int .i64 0,.bool false]),(6,.int .i64 i)],als:=[],meas:=fun i=>x.1.length-i.toNat}
theorem b5J:Am G Tryz.prog 136 RY:=
 vcFun_okP [(134,0,Gf),(135,0,Ie),(124,0,EJ),(126,0,Fo),(133,0,Hv),(170,0,Lp)] [] false (fun x=>[(6,Pr x),(12,RZ x)]) Tryz.func136 rfl (by decide) ⟨Ys,Yo,XZ,Ul,Yr,b3k,trivial⟩ (fun(x:List UInt8×Int)=>(∀(y:Int×List UInt8×Int×Bool×Int),sgR x y.1 y.2.1 y.2.2.1 y.2.2.2.1 y.2.2.2.2→((True∧True∧True∧True∧True)∧True∧True)∧True∧True∧True)∧cA Gf [.str x.1,.int .i64 x.2] fun x_1 y=>Aa (decide ((↑(Ci (List.drop (Int.toNat x_1.2) x_1.1)):Int)>(0:Int))) (inR IntKind.i64 (x.2+(↑(Ci (List.drop (Int.toNat x_1.2) x_1.1)):Int))∧((0:Int)≤x.2∧x.2≤x.2+(↑(Ci (List.drop (Int.toNat x_1.2) x_1.1)):Int)∧x.2+(↑(Ci (List.drop (Int.toNat x_1.2) x_1.1)):Int)≤(↑(List.length x.1):Int))∧cA Ie [.str (List.drop (Int.toNat x.2) (List.take (Int.toNat (x.2+(↑(Ci (List.drop (Int.toNat x_1.2) x_1.1)):Int))) x.1))] fun x_2 y=>∃(y:Int×List UInt8×Int×Bool×Int),sgR x y.1 y.2.1 y.2.2.1 y.2.2.2.1 y.2.2.2.2∧(5:Int)=y.1∧Cs x_2=y.2.1∧x.2=y.2.2.1∧false=y.2.2.2.1∧(↑(Ci (List.drop (Int.toNat x_1.2) x_1.1)):Int)=y.2.2.2.2∧True) (((0:Int)≤x.2∧x.2<(↑(List.length x.1):Int))∧∀(c:UInt8),x.1[Int.toNat x.2]? =some c→cA EJ [AV.int IntKind.u8 (↑(UInt8.toNat c):Int)] fun x_2 y=>Aa (Cj x_2) (eA (Pr x) [.str x.1,.int .i64 x.2,.box 0 [.int .i64 (0:Int),.str #[].toList,.int .i64 (0:Int),.bool false],.int .i64 x.2]∧∀(i:Int),rwI BJ x i→Aa (decide (i<(↑(List.length x.1):Int))) (((0:Int)≤i∧i<(↑(List.length x.1):Int))∧∀(c:UInt8),x.1[Int.toNat i]? =some c→cA EJ [AV.int IntKind.u8 (↑(UInt8.toNat c):Int)] fun x_3 y=>Aa (Cj x_3) (inR IntKind.i64 (i+(1:Int))∧eN (Pr x) i [.str x.1,.int .i64 x.2,.box 0 [.int .i64 (0:Int),.str [],.int .i64 (0:Int),.bool false],.int .i64 (i+(1:Int))]) (((0:Int)≤i∧i<(↑(List.length x.1):Int))∧∀(c:UInt8),x.1[Int.toNat i]? =some c→cA Fo [AV.int IntKind.u8 (↑(UInt8.toNat c):Int)] fun x_4 y=>Aa (Bt x_4) (inR IntKind.i64 (i+(1:Int))∧eN (Pr x) i [.str x.1,.int .i64 x.2,.box 0 [.int .i64 (0:Int),.str [],.int .i64 (0:Int),.bool false],.int .i64 (i+(1:Int))]) (inR IntKind.i64 (i-x.2)∧Aa (decide (i-x.2>(30:Int))) (∃(y:Int×List UInt8×Int×Bool×Int),sgR x y.1 y.2.1 y.2.2.1 y.2.2.2.1 y.2.2.2.2∧(0:Int)=y.1∧ #[].toList=y.2.1∧(0:Int)=y.2.2.1∧false=y.2.2.2.1∧(0:Int)=y.2.2.2.2∧True) (((0:Int)≤x.2∧x.2≤i∧i≤(↑(List.length x.1):Int))∧inR IntKind.i64 (i-x.2)∧∃(y:Int×List UInt8×Int×Bool×Int),sgR x y.1 y.2.1 y.2.2.1 y.2.2.2.1 y.2.2.2.2∧(1:Int)=y.1∧List.drop (Int.toNat x.2) (List.take (Int.toNat i) x.1)=y.2.1∧x.2=y.2.2.1∧false=y.2.2.2.1∧i-x.2=y.2.2.2.2∧True)))) (inR IntKind.i64 (i-x.2)∧Aa (decide (i-x.2>(30:Int))) (∃(y:Int×List UInt8×Int×Bool×Int),sgR x y.1 y.2.1 y.2.2.1 y.2.2.2.1 y.2.2.2.2∧(0:Int)=y.1∧ #[].toList=y.2.1∧(0:Int)=y.2.2.1∧false=y.2.2.2.1∧(0:Int)=y.2.2.2.2∧True) (((0:Int)≤x.2∧x.2≤i∧i≤(↑(List.length x.1):Int))∧inR IntKind.i64 (i-x.2)∧∃(y:Int×List UInt8×Int×Bool×Int),sgR x y.1 y.2.1 y.2.2.1 y.2.2.2.1 y.2.2.2.2∧(1:Int)=y.1∧List.drop (Int.toNat x.2) (List.take (Int.toNat i) x.1)=y.2.1∧x.2=y.2.2.1∧false=y.2.2.2.1∧i-x.2=y.2.2.2.2∧True))) (((0:Int)≤x.2∧x.2<(↑(List.length x.1):Int))∧∀(c:UInt8),x.1[Int.toNat x.2]? =some c→cA Fo [AV.int IntKind.u8 (↑(UInt8.toNat c):Int)] fun x_3 y=>Aa (Bt x_3) (eA (RZ x) [.str x.1,.int .i64 x.2,.box 0 [.int .i64 (0:Int),.str #[].toList,.int .i64 (0:Int),.bool false],.int .i64 x.2]∧∀(i:Int),rwI Bt x i→Aa (decide (i<(↑(List.length x.1):Int))) (((0:Int)≤i∧i<(↑(List.length x.1):Int))∧∀(c:UInt8),x.1[Int.toNat i]? =some c→cA Fo [AV.int IntKind.u8 (↑(UInt8.toNat c):Int)] fun x_4 y=>Aa (Bt x_4) (inR IntKind.i64 (i+(1:Int))∧eN (RZ x) i [.str x.1,.int .i64 x.2,.box 0 [.int .i64 (0:Int),.str [],.int .i64 (0:Int),.bool false],.int .i64 (i+(1:Int))]) (inR IntKind.i64 (i-x.2)∧Aa (decide (i-x.2>(12:Int))) (∃(y:Int×List UInt8×Int×Bool×Int),sgR x y.1 y.2.1 y.2.2.1 y.2.2.2.1 y.2.2.2.2∧(0:Int)=y.1∧ #[].toList=y.2.1∧(0:Int)=y.2.2.1∧false=y.2.2.2.1∧(0:Int)=y.2.2.2.2∧True) (((0:Int)≤x.2∧x.2≤i∧i≤(↑(List.length x.1):Int))∧inR IntKind.i64 (i-x.2)∧∃(y:Int×List UInt8×Int×Bool×Int),sgR x y.1 y.2.1 y.2.2.1 y.2.2.2.1 y.2.2.2.2∧(2:Int)=y.1∧List.drop (Int.toNat x.2) (List.take (Int.toNat i) x.1)=y.2.1∧x.2=y.2.2.1∧false=y.2.2.2.1∧i-x.2=y.2.2.2.2∧True))) (inR IntKind.i64 (i-x.2)∧Aa (decide (i-x.2>(12:Int))) (∃(y:Int×List UInt8×Int×Bool×Int),sgR x y.1 y.2.1 y.2.2.1 y.2.2.2.1 y.2.2.2.2∧(0:Int)=y.1∧ #[].toList=y.2.1∧(0:Int)=y.2.2.1∧false=y.2.2.2.1∧(0:Int)=y.2.2.2.2∧True) (((0:Int)≤x.2∧x.2≤i∧i≤(↑(List.length x.1):Int))∧inR IntKind.i64 (i-x.2)∧∃(y:Int×List UInt8×Int×Bool×Int),sgR x y.1 y.2.1 y.2.2.1 y.2.2.2.1 y.2.2.2.2∧(2:Int)=y.1∧List.drop (Int.toNat x.2) (List.take (Int.toNat i) x.1)=y.2.1∧x.2=y.2.2.1∧false=y.2.2.2.1∧i-x.2=y.2.2.2.2∧True))) (((0:Int)≤x.2∧x.2<(↑(List.length x.1):Int))∧∀(c:UInt8),x.1[Int.toNat x.2]? =some c→Aa ((↑(UInt8.toNat c):Int)==(39:Int)) (cA Hv [.str x.1,.int .i64 x.2] fun x_4 y=>inR IntKind.i64 (x.2+(↑(Cn (List.drop (Int.toNat x_4.2) x_4.1)):Int))∧((0:Int)≤x.2∧x.2≤x.2+(↑(Cn (List.drop (Int.toNat x_4.2) x_4.1)):Int)∧x.2+(↑(Cn (List.drop (Int.toNat x_4.2) x_4.1)):Int)≤(↑(List.length x.1):Int))∧∃(y:Int×List UInt8×Int×Bool×Int),sgR x y.1 y.2.1 y.2.2.1 y.2.2.2.1 y.2.2.2.2∧(3:Int)=y.1∧List.drop (Int.toNat x.2) (List.take (Int.toNat (x.2+(↑(Cn (List.drop (Int.toNat x_4.2) x_4.1)):Int))) x.1)=y.2.1∧x.2=y.2.2.1∧false=y.2.2.2.1∧(↑(Cn (List.drop (Int.toNat x_4.2) x_4.1)):Int)=y.2.2.2.2∧True) (cA Lp [.str x.1,.int .i64 x.2] fun x_4 y=>∃(y:Int×List UInt8×Int×Bool×Int),sgR x y.1 y.2.1 y.2.2.1 y.2.2.2.1 y.2.2.2.2∧(4:Int)=y.1∧Fu (List.drop (Int.toNat x_4.2) x_4.1)=y.2.1∧x.2=y.2.2.1∧false=y.2.2.2.1∧(↑(List.length (Fu (List.drop (Int.toNat x_4.2) x_4.1))):Int)=y.2.2.2.2∧True))))) (fun x=>by kernel_rfl) fun(x:List UInt8×Int) (hx:0≤x.2∧x.2<x.1.length∧x.1.length<2^62)=>(by
 dsimp only[cA,eA,eN,RZ,Pr,Fo,EJ,Gf,Hv,Lp,Ie,Au,Ax,mvL,lnL,mvE,lnE,Bm]
 obtain⟨h1,h2,h3⟩:=hx
 have hn:=b5H h1 h2
 (repeat' first|(with_reducible first|rfl|exact True.intro|apply AJ|apply And.intro|((first|apply Az|apply AH|apply AA|apply AI)<;>intro _))|(apply Av<;>intro _)|apply AG|refine Af () ?_ ?_|((first|apply AO|apply AN|apply AM|apply AL|apply AF|apply AE|apply AD|apply AC|apply AB)<;>try dsimp only)|apply Af|(refine Prod.forall.2 ?_;intro _;try dsimp only)|(intro _;try dsimp only))
 all_goals(try((repeat(rename x.1[_]? =some _=>hq;revert hq;rename x.1[_]? =some _=>hr;intro hq;rw[hr] at hq;cases hq))))
 all_goals first
  |rfl
  |omega
  |exact b3n h1 ‹_›
  |exact b3l (by omega)
  |exact Vk h1 ‹_› ‹_› ‹_› (b5C ‹_›)
  |exact Vk h1 ‹_› ‹_› ‹_› (b5D ‹_›)
  |exact Vk h1 ‹_› ‹_› ‹_› ‹_›
  |exact(RC h1 ‹_› ‹_› ‹_› (.inl ‹_›)).1 ‹_›
  |exact(RC h1 ‹_› ‹_› ‹_› (.inl ‹_›)).2 ‹_›
  |exact(RC h1 ‹_› ‹_› ‹_› (.inr ⟨_,by assumption,a3h ‹_› ‹_›⟩)).1 ‹_›
  |exact(RC h1 ‹_› ‹_› ‹_› (.inr ⟨_,by assumption,a3h ‹_› ‹_›⟩)).2 ‹_›
  |exact(Pk h1 ‹_› ‹_› ‹_› ‹_› (.inl ‹_›)).1 ‹_›
  |exact(Pk h1 ‹_› ‹_› ‹_› ‹_› (.inl ‹_›)).2 ‹_›
  |exact(Pk h1 ‹_› ‹_› ‹_› ‹_› (.inr ⟨_,by assumption,by assumption⟩)).1 ‹_›
  |exact(Pk h1 ‹_› ‹_› ‹_› ‹_› (.inr ⟨_,by assumption,by assumption⟩)).2 ‹_›
  |exact(a3i h1 ‹_› ‹_› ‹_› ‹_› ‹_› ‹_› ‹_›).1 ‹_›
  |exact(a3i h1 ‹_› ‹_› ‹_› ‹_› ‹_› ‹_› ‹_›).2 ‹_›
  |exact b3p h1 ‹_› ‹_› ‹_› ‹_›
  |exact b3q h1 ‹_› ‹_› ‹_› ‹_› ‹_›
  |(have hq:=b3m (show rwI _ _ _ by assumption);(try simp only[AR]);omega)
  |(have hq:= @b5G (x.1.drop x.2.toNat);(try simp only[AR]);omega)
  |(simp only[List.length_drop,List.length_take];omega)
  |skip)
attribute [local irreducible] sgJ CA
def Kd:Sig:= {X:=List UInt8,args:=fun x=>[.str x],pre:=fun x=>x.length<2^62,Y:=List Sg×Int,post:=fun x y=>sgQ x y.1,res:=fun x y=> .tup [sgs y.1,.int .i64 y.2,.bool (CA x).isSome],outs:=fun x y=>[.top],keep:=true}
def MY(x:List UInt8):LS:= {ι:=Int×Int×List Sg×Nat,inv:=fun i=>sgJ x i.1 i.2.1 i.2.2.1 i.2.2.2,regs:=fun i=>[(0,.str x),(5,GZ i.2.2.1),(6,.int .i64 i.1),(7,.int .i64 i.2.1)],als:=[],meas:=fun i=>i.2.2.2}
theorem b5K:Am G Tryz.prog 113 Kd:=
 vcFun_okP [(136,0,RY)] [(95,⟨Sg,sgA⟩)] false (fun x=>[(6,MY x)]) Tryz.func113 rfl (by decide) ⟨b5J,trivial⟩ (fun(x:List UInt8)=>True∧Aa (decide ((↑(List.length x):Int)>(3000:Int))) (rA Kd x [.tup [GZ [],.int .i64 (3000:Int),.bool false],.top]) (eA (MY x) [.str x,GZ [],.int .i64 (0:Int),.int .i64 (0:Int)]∧∀(i:Int×Int×List Sg×Nat),sgJ x i.1 i.2.1 i.2.2.1 i.2.2.2→Aa (decide (i.1<(↑(List.length x):Int))) (((0:Int)≤i.1∧i.1<(↑(List.length x):Int))∧∀(c:UInt8),x[Int.toNat i.1]? =some c→Aa ((↑(UInt8.toNat c):Int)==(32:Int)) (inR IntKind.i64 (i.1+(1:Int))∧eN (MY x) i [.str x,GZ i.2.2.1,.int .i64 (i.1+(1:Int)),.int .i64 i.2.1]) (((0:Int)≤i.1∧i.1<(↑(List.length x):Int))∧∀(c:UInt8),x[Int.toNat i.1]? =some c→Aa ((↑(UInt8.toNat c):Int)==(10:Int)) (inR IntKind.i64 (i.2.1+(1:Int))∧inR IntKind.i64 (i.1+(1:Int))∧eN (MY x) i [.str x,GZ i.2.2.1,.int .i64 (i.1+(1:Int)),.int .i64 (i.2.1+(1:Int))]) (cA RY [.str x,.int .i64 i.1] fun x_1 y=>Aa (y.2.2.2.2==(0:Int)) (rA Kd x [.tup [GZ [],.int .i64 i.1,.bool false],.top]) (∃(x_2:Sg),y.1=x_2.kind∧y.2.1=x_2.text∧y.2.2.1=x_2.pos∧decide (i.2.1>(1:Int))=x_2.blank∧∃(zs:List Sg),GZ [x_2]=GZ zs∧BF sgA∧Ba (List.length i.2.2.1+List.length zs) (40:Nat)∧inR IntKind.i64 (i.1+y.2.2.2.2)∧eN (MY x) i [.str x,GZ (i.2.2.1++zs),.int .i64 (i.1+y.2.2.2.2),.int .i64 (0:Int)])))) (rA Kd x [.tup [GZ i.2.2.1,.int .i64 (0:Int),.bool true],.top]))) (fun x=>by kernel_rfl) fun(x:List UInt8) (hx:x.length<2^62)=>(by
 dsimp only[cA,eA,eN,MY,GZ,rA,RY,Kd,CO,sgs,Au,Ax,mvL,lnL,mvE,lnE,Bm]
 have hx:x.length<2^62:=hx
 (repeat' first|(with_reducible first|rfl|exact True.intro|apply AJ|apply And.intro|((first|apply Az|apply AH|apply AA|apply AI)<;>intro _))|(apply Av<;>intro _)|apply AG|refine Af () ?_ ?_|((first|apply AO|apply AN|apply AM|apply AL|apply AF|apply AE|apply AD|apply AC|apply AB)<;>try dsimp only)|apply Af|(refine Prod.forall.2 ?_;intro _;try dsimp only)|(intro _;try dsimp only))
 all_goals first
  |(show Nat;skip)
  |rfl
  |exact b2R ‹_›
  |exact(Rz (a2a ‹_›)).2
  |exact(Rz (a2a ‹_›)).1.symm
  |exact(a1W ‹_› ‹_› ‹_› (by omega)).1
  |exact(a1X ‹_› ‹_› ‹_› (by omega)).1
  |exact(a3j ‹_› ‹_› ‹_› ‹_› ‹_› ‹_› ‹_› ‹_›).1
  |exact(Rz (a3k ‹_› ‹_› ‹_› ‹_› ‹_› ‹_› ‹_› ‹_›)).2
  |exact(Rz (a3k ‹_› ‹_› ‹_› ‹_› ‹_› ‹_› ‹_› ‹_›)).1.symm
  |exact(a1Z ‹_› ‹_›).2
  |exact(a1Z ‹_› ‹_›).1.symm
  |(have hq:=MN (show sgJ _ _ _ _ _ by assumption);(try simp only[AR]);omega)
  |(have hj:=(show sgJ _ _ _ _ _ by assumption);have hq:=MN hj;have hz:=b5I hj ‹_›;(try simp only[AR]);omega)
  |(have hq:=MN (show sgJ _ _ _ _ _ by assumption);(try simp only[Ba,List.length_append,List.length_cons,List.length_nil]);omega)
  |(simp [Ba];done)
  |skip
 all_goals first
  |exact(a1W ‹_› ‹_› ‹_› (by omega)).2
  |exact(a1X ‹_› ‹_› ‹_› (by omega)).2
  |exact(a3j ‹_› ‹_› ‹_› ‹_› ‹_› ‹_› ‹_› ‹_›).2
  |rfl
  |skip)
end Go.My
end
section
set_option linter.unusedVariables false
set_option linter.unusedSimpArgs false
namespace Go.My
open Go.Eng Go.Proofs
variable {G:GInv}
theorem b5L{s:List UInt8}:Cs s <+: s:=by
 have h:=List.dropWhile_suffix (fun c:UInt8=>decide (c.toNat=32)) (l:=s.reverse)
 unfold Cs
 rw[←List.reverse_suffix,List.reverse_reverse];exact h
theorem VW{c:UInt8}{a s t:List UInt8}(h:t <+: c::s)(ht:t=a)(ha:a≠[]):a.head? =some c:=by
 subst ht
 match t with
 |[]=>exact(ha rfl).elim
 |d::r=>
  obtain⟨k,hk⟩:=h
  simp at hk
  simp [hk.1]
theorem b5M{s:List UInt8}(h:(Bf s).ok=true)(ht:(Bf s).text=[41]∨(Bf s).text=[61,62]∨(Bf s).text=[44]):(Bf s).kind=4:=by
 match s with
 |[]=>cases h
 |b::s=>
  have key:∀t:List UInt8,t <+: b::s→(t=[41]∨t=[61,62]∨t=[44])→b=41∨b=61∨b=44:=by
   intro t hp ht
   rcases ht with ht|ht|ht
   ·have:=VW hp ht (by simp);simp at this;exact .inl this.symm
   ·have:=VW hp ht (by simp);simp at this;exact .inr (.inl this.symm)
   ·have:=VW hp ht (by simp);simp at this;exact .inr (.inr this.symm)
  unfold Bf at h ht ⊢
  simp only at h ht ⊢
  split
  ·rename_i hb
   rw[if_pos hb] at ht
   rcases key _ (List.takeWhile_prefix _) ht with rfl|rfl|rfl<;>exact absurd hb (by decide)
  ·rename_i hb
   rw[if_neg hb] at h ht
   split
   ·rename_i hb2
    rw[if_pos hb2] at ht
    rcases key _ (List.takeWhile_prefix _) ht with rfl|rfl|rfl<;>exact absurd hb2 (by decide)
   ·rename_i hb2
    rw[if_neg hb2] at h ht
    split
    ·rename_i hb3
     rw[if_pos hb3] at ht h
     simp only at ht h
     have hp:(De (b::s)).1 <+: b::s:=by
      unfold De;split
      ·exact List.nil_prefix
      ·exact List.take_prefix _ _
     rcases key _ hp ht with rfl|rfl|rfl<;>exact absurd hb3 (by decide)
    ·rename_i hb3
     rw[if_neg hb3] at h ht
     split
     ·rename_i hb4
      rw[if_pos hb4] at ht
      have hb5:b=47:=by
       cases s with
       |nil=>simp at hb4
       |cons c s=>simp at hb4;exact hb4.1
      rcases key _ (b5L.trans (List.takeWhile_prefix _)) ht with rfl|rfl|rfl<;>exact absurd hb5 (by decide)
     ·rename_i hb4
      rw[if_neg hb4] at h
      split
      ·rfl
      ·rename_i hb5
       rw[if_neg hb5] at h
       split
       ·rfl
       ·rename_i hb6
        rw[if_neg hb6] at h;cases h
theorem Sa{t:List UInt8}:∀(n:Nat) (i br:Int) (l:List Sg),Fa t n i br=some l→sgM l
 |0,_,_,_,h=>by cases h
 |n+1,i,br,l,h=>by
  rw[Fa] at h
  split at h
  ·simp at h;subst h;intro e he;simp at he
  ·split at h
   ·exact Sa n _ _ _ h
   ·split at h
    ·exact Sa n _ _ _ h
    ·split at h
     ·rename_i hok
      rw[Option.map_eq_some_iff] at h
      obtain⟨l',h1,rfl⟩:=h
      intro e he ht
      simp only[List.mem_cons] at he
      rcases he with rfl|he
      ·exact b5M hok ht
      ·exact Sa n _ _ _ h1 e he ht
     ·cases h
theorem b5N{t:List UInt8}{l:List Sg}(h:CA t=some l):sgM l:=by
 rw[CA] at h
 split at h
 ·cases h
 ·exact Sa _ _ _ _ h
def frI(t:List UInt8)(l:List Sg)(y:Gs)(ks:List Int)(ms:List (Int×Int))(N:Nat):Prop:=(CA t=some l∧sgB l)∧Fd l y ks ms N
theorem b5O{t:List UInt8}{l:List Sg}(h:sgQ t l)(hn:(CA t).isSome=true):frI t l ⟨0,0,false,[]⟩ [] [] (l.length+1):=⟨MO h hn,b2U⟩
theorem VX{t:List UInt8}{s:ST}{y:Gs}{ks:List Int}{ms:List (Int×Int)}{N:Nat}(h:frI t s.sg y ks ms N):okQ s y:=⟨b2W h.1.2 h.2,b5N h.1.1⟩
theorem Sb{t:List UInt8}{l:List Sg}{y:Gs}{ks:List Int}{ms:List (Int×Int)}{N:Nat}{b:Bool}{z:Int×Gs}(h:frI t l y ks ms N)(hb:y.bad=false)(hl:y.pos<l.length)(hz:Aj l y (Dk l false) z)(e:b=(blG l y&&decide (0<(ks.length:Int)))):
 frI t l (gBl z.2 z.1 b) (ks++[z.1]) (ms++[(y.pos,(gBl z.2 z.1 b).pos)]) (N-1)∧N-1<N:=by
 rw[VO hb] at e
 have hz2:Aj l y (Dk l b) (z.1,gBl z.2 z.1 b):=VN VM hz
 obtain⟨a,c⟩:=b2V h.2 hb hl hz2 e
 exact⟨⟨h.1,a⟩,c⟩
theorem b5P{t:List UInt8}{l:List Sg}{y:Gs}{ks:List Int}{ms:List (Int×Int)}{N:Nat}(h:frI t l y ks ms N):ks.length≤3001∧0≤y.pos∧y.pos≤l.length:=by
 have:=a2b h.1.2 h.2;omega
def frE(l:List Sg)(y:Gs):Prop:=y.bad=true∨¬y.pos<l.length
theorem MZ{l:List Sg}{y:Gs}(h:y.bad=true):frE l y:= .inl h
theorem Na{l:List Sg}{y:Gs}(h:¬y.pos<l.length):frE l y:= .inr h
theorem Nb:Be []:=⟨by simp,by simp⟩
theorem Sc{t:List UInt8}{l:List Sg}{y:Gs}{ks:List Int}{ms:List (Int×Int)}{N:Nat}(h:frI t l y ks ms N):sgQ t l∧(CA t).isSome=true:=⟨.inl h.1,by rw[h.1.1];rfl⟩
theorem Sd{t:List UInt8}{l:List Sg}{y:Gs}{ks:List Int}{ms:List (Int×Int)}{N:Nat}(h:frI t l y ks ms N)(he:frE l y)(hb:(As y ⟨22,[],ks,false⟩).bad=true):DH t=none:=a2e (b2X (Sc h).1 (Sc h).2 ⟨h.2,he⟩ hb) hb
theorem Ke{t:List UInt8}{l:List Sg}{y:Gs}{ks:List Int}{ms:List (Int×Int)}{N:Nat}(h:frI t l y ks ms N)(he:frE l y)(hb:(As y ⟨22,[],ks,false⟩).bad=false):
 (BC (As y ⟨22,[],ks,false⟩).nodes=false→DH t=none)∧(BC (As y ⟨22,[],ks,false⟩).nodes=true→DH t=some (As y ⟨22,[],ks,false⟩).nodes):=by
 have a:=b2Y (Sc h).1 (Sc h).2 ⟨h.2,he⟩ hb
 refine⟨fun h2=>a2e a (by simp only[EO,h2];rfl),fun h2=>(b2Z a (by simp only[EO,h2];rfl)).1⟩
theorem Pt{t:List UInt8}{l:List Sg}{y:Gs}{ks:List Int}{ms:List (Int×Int)}{N:Nat}(h:frI t l y ks ms N):Be (As y ⟨22,[],ks,false⟩).nodes∧(As y ⟨22,[],ks,false⟩).nodes.length≤1073741824∧0≤(As y ⟨22,[],ks,false⟩).pos:=by
 have a:=Pa h.2.1 (a2d h.1.2 h.2)
 have b:=a2c a
 exact⟨b.1,by omega,a.1.1⟩
theorem a3l{t:List UInt8}(h:(CA t).isSome=false):DH t=none:=by
 rw[DH]
 cases hs:CA t with
 |none=>rfl
 |some l=>rw[hs] at h;cases h
theorem b5Q{T0 T1 T2 T3:Type}{p q:ST×T0×T1×T2×T3→Prop}(a:List Sg)(v0:T0)(v1:T1)(v2:T2)(v3:T3)(h2:q (⟨a,0,[]⟩,v0,v1,v2,v3))(h1:p (⟨a,0,[]⟩,v0,v1,v2,v3)):∃x,p x∧q x:=⟨_,h1,h2⟩
theorem b5R{T0 T1 T2 T3 T4 T5:Type}{p q:ST×T0×T1×T2×T3×T4×T5→Prop}(a:List Sg)(v0:T0)(v1:T1)(v2:T2)(v3:T3)(v4:T4)(v5:T5)(h2:q (⟨a,0,[]⟩,v0,v1,v2,v3,v4,v5))(h1:p (⟨a,0,[]⟩,v0,v1,v2,v3,v4,v5)):∃x,p x∧q x:=⟨_,h1,h2⟩
theorem b5S{T0 T1 T2 T3 T4 T5 T6:Type}{p q:ST×T0×T1×T2×T3×T4×T5×T6→Prop}(a:List Sg)(v0:T0)(v1:T1)(v2:T2)(v3:T3)(v4:T4)(v5:T5)(v6:T6)(h2:q (⟨a,0,[]⟩,v0,v1,v2,v3,v4,v5,v6))(h1:p (⟨a,0,[]⟩,v0,v1,v2,v3,v4,v5,v6)):∃x,p x∧q x:=⟨_,h1,h2⟩
attribute [local irreducible] frI frE gBl blG As AX gsOk Aj Dk DH CA BC sgM okQ
def Fz:Sig:= {X:=List UInt8,args:=fun x=>[.str x],pre:=fun x=>x.length<2^62,Y:=List Nd×Int,post:=fun x y=>y.1=(DH x).getD []∧Be y.1,res:=fun x y=> .tup [nds y.1,.int .i64 y.2,.bool (DH x).isSome],outs:=fun x y=>[.top],keep:=true}
def Pu(x:List UInt8):LS:= {ι:=List Sg×Int×Int×Bool×List Nd×List Int×List (Int×Int)×Nat,inv:=fun i=>frI x i.1 (iF i.2) i.2.2.2.2.2.1 i.2.2.2.2.2.2.1 i.2.2.2.2.2.2.2,regs:=fun i=>[(0,.str x),(5,AW []),(6,sgs i.1),(9,srd ⟨i.1,0,[]⟩ (iF i.2)),(10,Ab i.2.2.2.2.2.1)],als:=[],meas:=fun i=>i.2.2.2.2.2.2.2}
theorem b5T:Am G Tryz.prog 73 Fz:=
 vcFun_okP [(113,0,Kd),(114,0,Fv),(115,0,HO),(116,0,DX),(117,0,Br),(17,0,FK)] [(95,⟨Sg,sgA⟩),(26,⟨Int,Bj⟩),(24,⟨Nd,ndA true⟩)] false (fun x=>[(7,Pu x)]) Tryz.func73 rfl (by decide) ⟨b5K,RF,b5B,RG,He,Zo,trivial⟩ (fun(x:List UInt8)=>True∧cA Kd [.str x] fun x_1 y=>Aa (!Option.isSome (CA x_1)) (rA Fz x [.tup [AW [],.int .i64 y.2,.bool false],.top]) (eA (Pu x) [.str x,AW [],sgs y.1,.box 0 [sgs y.1,.int .i64 (0:Int),.bool false,.int .i64 (0:Int),.nil],Ab []]∧∀(i:List Sg×Int×Int×Bool×List Nd×List Int×List (Int×Int)×Nat),frI x i.1 (iF i.2) i.2.2.2.2.2.1 i.2.2.2.2.2.2.1 i.2.2.2.2.2.2.2→Aa (!(iF i.2).bad) (Aa (decide ((iF i.2).pos<(↑(List.length i.1):Int))) (cA Fv [.box 0 [sgs i.1,.int .i64 (iF i.2).pos,.bool (iF i.2).bad,.int .i64 (iF i.2).deep,AW (iF i.2).nodes]] fun x_2 y=>Aa (blG x_2.1.sg (xg x_2)) (cA HO [srd x_2.1 (xg x_2),.bool true] fun x_3 y=>cA DX [srd x_3.1 (yG y.2),.int .i64 y.1,.bool (decide ((↑(List.length i.2.2.2.2.2.1):Int)>(0:Int)))] fun x_4 y_1=>∃(x_5:Int),y.1=x_5∧∃(zs:List Int),Ab [x_5]=Ab zs∧BF Bj∧Ba (List.length i.2.2.2.2.2.1+List.length zs) (8:Nat)∧eN (Pu x) i [.str x,AW [],sgs i.1,srd x_4.1 (gBl (xh x_4) x_4.2.2.2.2.2.1 x_4.2.2.2.2.2.2),Ab (i.2.2.2.2.2.1++zs)]) (cA HO [srd x_2.1 (xg x_2),.bool true] fun x_3 y=>cA DX [srd x_3.1 (yG y.2),.int .i64 y.1,.bool false] fun x_4 y_1=>∃(x_5:Int),y.1=x_5∧∃(zs:List Int),Ab [x_5]=Ab zs∧BF Bj∧Ba (List.length i.2.2.2.2.2.1+List.length zs) (8:Nat)∧eN (Pu x) i [.str x,AW [],sgs i.1,srd x_4.1 (gBl (xh x_4) x_4.2.2.2.2.2.1 x_4.2.2.2.2.2.2),Ab (i.2.2.2.2.2.1++zs)])) (cA Br [.box 0 [sgs i.1,.int .i64 (iF i.2).pos,.bool (iF i.2).bad,.int .i64 (iF i.2).deep,AW (iF i.2).nodes],.int .i64 (22:Int),.str #[].toList,Ab i.2.2.2.2.2.1] fun x_2 y=>Aa (As (xh x_2) {kind:=x_2.2.2.2.2.2.1,text:=x_2.2.2.2.2.2.2.1,kids:=x_2.2.2.2.2.2.2.2,blank:=false}).bad (Aa (decide ((As (xh x_2) {kind:=x_2.2.2.2.2.2.1,text:=x_2.2.2.2.2.2.2.1,kids:=x_2.2.2.2.2.2.2.2,blank:=false}).pos<(↑(List.length i.1):Int))) (true=true∧true=true∧((0:Int)≤(As (xh x_2) {kind:=x_2.2.2.2.2.2.1,text:=x_2.2.2.2.2.2.2.1,kids:=x_2.2.2.2.2.2.2.2,blank:=false}).pos∧(As (xh x_2) {kind:=x_2.2.2.2.2.2.1,text:=x_2.2.2.2.2.2.2.1,kids:=x_2.2.2.2.2.2.2.2,blank:=false}).pos<(↑(List.length i.1):Int))∧∀(e:Sg),i.1[Int.toNat (As (xh x_2) {kind:=x_2.2.2.2.2.2.1,text:=x_2.2.2.2.2.2.2.1,kids:=x_2.2.2.2.2.2.2.2,blank:=false}).pos]? =some e→rA Fz x [.tup [AW [],.int .i64 e.pos,.bool false],.top]) (rA Fz x [.tup [AW [],.int .i64 (↑(List.length x):Int),.bool false],.top])) (cA FK [AW (As (xh x_2) {kind:=x_2.2.2.2.2.2.1,text:=x_2.2.2.2.2.2.2.1,kids:=x_2.2.2.2.2.2.2.2,blank:=false}).nodes] fun x_3 y=>Aa (!BC x_3) (rA Fz x [.tup [AW [],.int .i64 (0:Int),.bool false],.top]) (rA Fz x [.tup [AW (As (xh x_2) {kind:=x_2.2.2.2.2.2.1,text:=x_2.2.2.2.2.2.2.1,kids:=x_2.2.2.2.2.2.2.2,blank:=false}).nodes,.int .i64 (0:Int),.bool true],.top])))) (cA Br [.box 0 [sgs i.1,.int .i64 (iF i.2).pos,.bool (iF i.2).bad,.int .i64 (iF i.2).deep,AW (iF i.2).nodes],.int .i64 (22:Int),.str #[].toList,Ab i.2.2.2.2.2.1] fun x_2 y=>Aa (As (xh x_2) {kind:=x_2.2.2.2.2.2.1,text:=x_2.2.2.2.2.2.2.1,kids:=x_2.2.2.2.2.2.2.2,blank:=false}).bad (Aa (decide ((As (xh x_2) {kind:=x_2.2.2.2.2.2.1,text:=x_2.2.2.2.2.2.2.1,kids:=x_2.2.2.2.2.2.2.2,blank:=false}).pos<(↑(List.length i.1):Int))) (true=true∧true=true∧((0:Int)≤(As (xh x_2) {kind:=x_2.2.2.2.2.2.1,text:=x_2.2.2.2.2.2.2.1,kids:=x_2.2.2.2.2.2.2.2,blank:=false}).pos∧(As (xh x_2) {kind:=x_2.2.2.2.2.2.1,text:=x_2.2.2.2.2.2.2.1,kids:=x_2.2.2.2.2.2.2.2,blank:=false}).pos<(↑(List.length i.1):Int))∧∀(e:Sg),i.1[Int.toNat (As (xh x_2) {kind:=x_2.2.2.2.2.2.1,text:=x_2.2.2.2.2.2.2.1,kids:=x_2.2.2.2.2.2.2.2,blank:=false}).pos]? =some e→rA Fz x [.tup [AW [],.int .i64 e.pos,.bool false],.top]) (rA Fz x [.tup [AW [],.int .i64 (↑(List.length x):Int),.bool false],.top])) (cA FK [AW (As (xh x_2) {kind:=x_2.2.2.2.2.2.1,text:=x_2.2.2.2.2.2.2.1,kids:=x_2.2.2.2.2.2.2.2,blank:=false}).nodes] fun x_3 y=>Aa (!BC x_3) (rA Fz x [.tup [AW [],.int .i64 (0:Int),.bool false],.top]) (rA Fz x [.tup [AW (As (xh x_2) {kind:=x_2.2.2.2.2.2.1,text:=x_2.2.2.2.2.2.2.1,kids:=x_2.2.2.2.2.2.2.2,blank:=false}).nodes,.int .i64 (0:Int),.bool true],.top]))))) (fun x=>by kernel_rfl) fun(x:List UInt8) (hx:x.length<2^62)=>(by
 dsimp only[cA,eA,eN,Pu,Bn,nds,Ab,AW,GZ,rA,Fv,DX,HO,Br,Fz,Kd,FK,CO,sgs,srd,Au,Ax,mvL,lnL,mvE,lnE,Bm]
 have hx:x.length<2^62:=hx
 (repeat' first|(apply b5S<;>try dsimp only)|(apply b5R<;>try dsimp only)|(apply b5Q<;>try dsimp only)|(with_reducible first|rfl|exact True.intro|apply AJ|apply And.intro|((first|apply Az|apply AH|apply AA|apply AI)<;>intro _))|(apply Av<;>intro _)|apply AG|refine Af () ?_ ?_|((first|apply AO|apply AN|apply AM|apply AL|apply AF|apply AE|apply AD|apply AC|apply AB)<;>try dsimp only)|apply Af|(refine Prod.forall.2 ?_;intro _;try dsimp only)|(intro _;try dsimp only))
 all_goals(try dsimp only[xg,xh,yG,yS,iG,iF] at*)
 all_goals(try simp only[FS] at*)
 all_goals first
  |(show Nat;skip)
  |(show List (Int×Int);skip)
  |rfl
  |exact hx
  |exact b5O ‹_› ‹_›
  |(rw[a3l ‹_›];rfl)
  |(rw[a3l ‹_›];exact Nb)
  |exact(Sb ‹_› ‹_› ‹_› ‹_› (JX ‹_›)).1
  |exact(Sb ‹_› ‹_› ‹_› ‹_› (JY ‹_›)).1
  |exact VX (s:=⟨_,0,[]⟩) ‹_›
  |exact(El (VX (s:=⟨_,0,[]⟩) ‹_›)).1
  |exact EN (El (VX (s:=⟨_,0,[]⟩) ‹_›)).1 ‹_›
  |exact MV VM ‹_›
  |exact MV VM ‹_› ‹_›
  |assumption
  |omega
  |exact(Pt ‹_›).1
  |exact(Pt ‹_›).2.1
  |(rw[Sd ‹_› (MZ ‹_›) ‹_›];rfl)
  |(rw[Sd ‹_› (MZ ‹_›) ‹_›];exact Nb)
  |(rw[(Ke ‹_› (MZ ‹_›) ‹_›).1 ‹_›];rfl)
  |(rw[(Ke ‹_› (MZ ‹_›) ‹_›).2 ‹_›];rfl)
  |(rw[(Ke ‹_› (MZ ‹_›) ‹_›).1 ‹_›];exact Nb)
  |(rw[(Ke ‹_› (MZ ‹_›) ‹_›).2 ‹_›];exact(Pt ‹_›).1)
  |(rw[Sd ‹_› (Na ‹_›) ‹_›];rfl)
  |(rw[Sd ‹_› (Na ‹_›) ‹_›];exact Nb)
  |(rw[(Ke ‹_› (Na ‹_›) ‹_›).1 ‹_›];rfl)
  |(rw[(Ke ‹_› (Na ‹_›) ‹_›).2 ‹_›];rfl)
  |(rw[(Ke ‹_› (Na ‹_›) ‹_›).1 ‹_›];exact Nb)
  |(rw[(Ke ‹_› (Na ‹_›) ‹_›).2 ‹_›];exact(Pt ‹_›).1)
  |(have hq:=(Pt (show frI _ _ _ _ _ _ by assumption)).2.2;omega)
  |exact Nb
  |(simp [Ba];done)
  |(have hq:=b5P (show frI _ _ _ _ _ _ by assumption);(try simp only[Ba,List.length_append,List.length_cons,List.length_nil]);omega)
  |skip
 all_goals first
  |exact(Sb ‹_› ‹_› ‹_› ‹_› (JX ‹_›)).2
  |exact(Sb ‹_› ‹_› ‹_› ‹_› (JY ‹_›)).2
  |rfl
  |skip)
end Go.My
end
