/- A part of the proof: the engine and the contracts, joined. -/
import Derived.Test.YtjmoahjpdapjkaaGreatDoorQH
section
set_option linter.unusedVariables false
set_option linter.unusedSimpArgs false
namespace Go.My
open Go.Eng
theorem Dx{k:Int}{t:List UInt8}{ks:List Int}{b:Bool}(ht:t.length≤3000)(hk:ks.length≤4000):Cq ⟨k,t,ks,b⟩:=⟨ht,hk⟩
theorem JH{α:Type}{sg:List Sg}{x:Gs}{f g:Ps→Option (α×Ps)}{y:α×Gs}(h:Ae sg x g y)(e:∀s,pur x=some s→f s=g s):Ae sg x f y:=by
 have e2:(pur x).bind f=(pur x).bind g:=by
  cases hp:pur x with
  |none=>rfl
  |some s=>exact e s hp
 obtain⟨⟨a1,a2,a3,a4,a5⟩,b⟩:=h
 exact⟨⟨a1,a2,a3,by rw[e2];exact a4,by rw[e2];exact a5⟩,b⟩
theorem KQ{α:Type}{sg:List Sg}{x:Gs}{k:Int}{m:List UInt8}{f g:Ps→Option (α×Ps)}{y:α×Gs}(hx:gsOk sg x)(hk:k≠0)(hm:isG sg x k m=true)(h:Bh sg (Aj x) g y)
 (e:∀s,pur x=some s→isT sg s k m=true→f s=g (adv s)):Ae sg x f y:=by
 have k1:=FK (g':=g) (Df (f:=f) hx) hk hm e
 have k2:=BI (k:=fun a s=>some (a,s)) k1 h (fun s _=>by cases g s<;>rfl)
 refine⟨Fq k2,fun _=> ?_⟩
 have:=h.2.2.1
 simp only[Aj] at this;omega
theorem KR{sg:List Sg}{x y:Gs}{f:Ps→PR}{w:Nd}{m:List UInt8}(h:restP sg x f y (Bl sg m w) 0)(hw:Cq w):Ae sg x f (Bw sg y m,Bn sg y m w):=by
 refine⟨PO h hw,fun hb=> ?_⟩
 have:=(Jz (m:=m) h.1 hw).2 hb
 have:=h.2.2.1
 simp only at*;omega
theorem Qh{sg:List Sg}{x y:Gs}{f:Ps→PR}{w:Nd}(h:restP sg x f y (AZ w) 0)(hw:Cq w)(hp:y.bad=false→x.pos<y.pos):Ae sg x f (Au y,Ah y w):=by
 obtain⟨d1,d2,d3⟩:= @GM y w
 exact⟨PN h hw,fun hb=>by simp only[d2];exact hp (d3 hb)⟩
theorem a0d{sg:List Sg}{x:Gs}{b:Bool}(h:gsOk sg x):restP sg x (Dd sg b) (BP sg x) (fun s=>if isM sg s [61] then(BZ sg (adv s)).bind fun q=>Bl sg [59] ⟨12,BQ sg x,[q.1],b⟩ q.2 else Bl sg [59] ⟨12,BQ sg x,[],b⟩ s) 0:=
 BI (k:=fun t s=>if isM sg s [61] then(BZ sg (adv s)).bind fun q=>Bl sg [59] ⟨12,t,[q.1],b⟩ q.2 else Bl sg [59] ⟨12,t,[],b⟩ s) (Df h) (Mi h).1 (fun _ _=>rfl)
theorem GS{sg:List Sg}{x:Gs}(hs:sgB sg):(BQ sg x).length≤3000:=by
 unfold BQ;split
 ·exact JA hs
 ·simp
theorem a8W{sg:List Sg}{x:Gs}{b:Bool}(hs:sgB sg)(h:gsOk sg x)(hq:isG sg (BP sg x) 4 [61]=false):
 Ae sg x (Dd sg b) (Bw sg (BP sg x) [59],Bn sg (BP sg x) [59] ⟨12,BQ sg x,[],b⟩):=
 KR (Dq (a0d h) (fun s hs=>by rw[if_neg (by simp [Ek hs hq])])) (Dx (GS hs) (by simp))
theorem a8X{sg:List Sg}{x:Gs}{b:Bool}{z:Int×Gs}(hs:sgB sg)(h:gsOk sg x)(hq:isG sg (BP sg x) 4 [61]=true)(hz:Ae sg (Aj (BP sg x)) (BZ sg) z):
 Ae sg x (Dd sg b) (Bw sg z.2 [59],Bn sg z.2 [59] ⟨12,BQ sg x,[z.1],b⟩):=by
 have k1:=FK (g':=fun s=>(BZ sg s).bind fun q=>Bl sg [59] ⟨12,BQ sg x,[q.1],b⟩ q.2) (a0d h) (by omega) hq (fun s hs ht=>by rw[if_pos (show isM sg s [61]=true from ht)])
 have k2:=BI (k:=fun k s=>Bl sg [59] ⟨12,BQ sg x,[k],b⟩ s) k1 hz.1 (fun _ _=>rfl)
 exact KR k2 (Dx (GS hs) (by simp))
def FO(sg:List Sg)(b:Bool)(s:Ps):PR:=if isM sg s [59] then Bl sg [59] ⟨15,[],[],b⟩ s else(BZ sg s).bind fun p=>Bl sg [59] ⟨15,[],[p.1],b⟩ p.2
theorem a0e{sg:List Sg}{x:Gs}{b:Bool}(h:gsOk sg x)(hq:isG sg x 4 [59]=true):Ae sg x (FO sg b) (Bw sg x [59],Bn sg x [59] ⟨15,[],[],b⟩):=
 KR (Dq (Df h) (fun s hs=>by rw[FO,if_pos (Hq hs hq)])) (Dx (by simp) (by simp))
theorem a0f{sg:List Sg}{x:Gs}{b:Bool}{z:Int×Gs}(h:gsOk sg x)(hq:isG sg x 4 [59]=false)(hz:Ae sg x (BZ sg) z):Ae sg x (FO sg b) (Bw sg z.2 [59],Bn sg z.2 [59] ⟨15,[],[z.1],b⟩):=by
 have k1:=Dq (Df (f:=FO sg b) h) (g':=fun s=>(BZ sg s).bind fun p=>Bl sg [59] ⟨15,[],[p.1],b⟩ p.2) (fun s hs=>by rw[FO,if_neg (by simp [Ek hs hq])])
 have k2:=BI (k:=fun k s=>Bl sg [59] ⟨15,[],[k],b⟩ s) k1 hz.1 (fun _ _=>rfl)
 exact KR k2 (Dx (by simp) (by simp))
theorem a0g{sg:List Sg}{x:Gs}{z:Int×Gs}(h:gsOk sg x)(hz:Ae sg (Al sg x [40]) (BZ sg) z):Bh sg x (CZ sg) (z.1,Al sg z.2 [41]):=by
 have k1:=GL (g':=fun s1=>(BZ sg s1).bind fun p=>(BC sg [41] p.2).map fun s2=>(p.1,s2)) (Df (f:=CZ sg) h) (fun _ _=>rfl)
 have k2:=BI (k:=fun k s=>(BC sg [41] s).map fun s2=>(k,s2)) k1 hz.1 (fun _ _=>rfl)
 have k3:=GL (g':=fun s=>some (z.1,s)) k2 (fun s _=>by cases BC sg [41] s<;>rfl)
 exact Fq k3
theorem a8Y{sg:List Sg}{one:Bool→Ps→PR}{m:List UInt8}{N:Nat}{ks:List Int}{s:Ps}(h:isM sg s m=true):CE sg one m (N+1) ks s=some (ks,s):=by rw[CE,if_pos h]
theorem a8Z{sg:List Sg}{one:Bool→Ps→PR}{m:List UInt8}{N:Nat}{ks:List Int}{s:Ps}(h:isM sg s m=false):CE sg one m (N+1) ks s=(one ((sgO sg s.pos).blank&&decide (0<ks.length)) s).bind fun p=>CE sg one m N (ks++[p.1]) p.2:=by rw[CE,if_neg (by simp [h])]
def Ig(sg:List Sg)(one:Bool→Ps→PR)(m:List UInt8)(x y:Gs)(ks:List Int)(N:Nat):Prop:=
 restP sg x (CE sg one m (sg.length+1) []) y (CE sg one m N ks) 0∧(y.bad=false→(sg.length:Int)-y.pos<N)∧(ks.length:Int)≤y.pos+1∧(y.bad=false→(ks.length:Int)≤y.pos)
theorem Qi{sg:List Sg}{one:Bool→Ps→PR}{m:List UInt8}{x:Gs}(h:gsOk sg x):Ig sg one m x x [] (sg.length+1):=by
 have:=h.1
 exact⟨Df h,fun _=>by omega,by simp;omega,fun _=>by simp;omega⟩
theorem Qj{sg:List Sg}{one:Bool→Ps→PR}{m:List UInt8}{x y:Gs}{ks:List Int}{N:Nat}(h:Ig sg one m x y ks N)(hb:y.bad=true):Bh sg x (CE sg one m (sg.length+1) []) (ks,y):=ND h.1 hb
theorem a0h{sg:List Sg}{one:Bool→Ps→PR}{m:List UInt8}{x y:Gs}{ks:List Int}{N:Nat}(h:Ig sg one m x y ks N)(hb:y.bad=false):∃M,N=M+1:=by
 have h1:=h.1.1.1;have h2:=h.2.1 hb
 match N with
 |0=>omega
 |M+1=>exact⟨M,rfl⟩
theorem Qk{sg:List Sg}{one:Bool→Ps→PR}{m:List UInt8}{x y:Gs}{ks:List Int}{N:Nat}(h:Ig sg one m x y ks N)(hq:isG sg y 4 m=true):Bh sg x (CE sg one m (sg.length+1) []) (ks,y):=by
 obtain⟨M,rfl⟩:=a0h h (Ct hq (by omega)).1
 exact Fq (Dq h.1 (g':=fun s=>some (ks,s)) (fun s hs=>a8Y (Hq hs hq)))
theorem Ql{sg:List Sg}{one:Bool→Ps→PR}{m:List UInt8}{x y:Gs}{ks:List Int}{N:Nat}{z:Int×Gs}(h:Ig sg one m x y ks N)(hb:y.bad=false)(hq:isG sg y 4 m=false)
 (hz:Ae sg y (one ((pkG sg y 0).blank&&decide (0<ks.length))) z):∃M,N=M+1∧Ig sg one m x z.2 (ks++[z.1]) M:=by
 obtain⟨M,rfl⟩:=a0h h hb
 obtain⟨h1,h2,h3,h4⟩:=h
 have k1:=Dq h1 (g':=fun s=>(one ((pkG sg y 0).blank&&decide (0<ks.length)) s).bind fun p=>CE sg one m M (ks++[p.1]) p.2) (fun s hs=>by
  rw[a8Z (Ek hs hq)]
  obtain⟨_,rfl⟩:=Eh.1 hs
  rw[Gk hb];simp)
 have k2:=BI (k:=fun k s=>CE sg one m M (ks++[k]) s) k1 hz.1 (fun _ _=>rfl)
 have e:=Cw hz
 have:=h2 hb;have:=h4 hb
 exact⟨M,rfl,k2,fun hw=>by have:=e.2.2.2 hw;omega,by simp;omega,fun hw=>by have:=e.2.2.2 hw;simp;omega⟩
theorem a0i{sg:List Sg}{one:Bool→Ps→PR}{x:Gs}(h:gsOk sg x)(hd:x.deep≤20):restP sg x (BE sg one) (Al sg (gDp (if x.deep=20 then Bc x else x) 1) [123])
 (fun s1=>(CE sg one [125] (sg.length+1) [] s1).bind fun p=>(Bl sg [125] ⟨18,[],p.1,false⟩ p.2).map fun q=>(q.1,dp q.2 (-1))) 1:=by
 have k0:restP sg x (BE sg one) (gDp (if x.deep=20 then Bc x else x) 1) (fun s=>(BC sg [123] s).bind fun s1=>(CE sg one [125] (sg.length+1) [] s1).bind fun p=>(Bl sg [125] ⟨18,[],p.1,false⟩ p.2).map fun q=>(q.1,dp q.2 (-1))) 1:=by
  split
  ·rename_i h20
   have h2:=Zb (d:=0) (g':=BE sg one) (Df (f:=BE sg one) h) (fun s hs=>by
    obtain⟨_,rfl⟩:=Eh.1 hs
    rw[BE,if_pos (by simp only;omega)])
   refine JB (d:=0) h2 ⟨by simp only[Bc];omega,by simp only[Bc];omega⟩ (fun s hs=> ?_)
   rw[IG] at hs;cases hs
  ·rename_i h20
   refine JB (d:=0) (Df h) ⟨by have:=h.2.1.1;omega,by omega⟩ (fun s hs=> ?_)
   obtain⟨_,rfl⟩:=Eh.1 hs
   rw[BE,if_neg (by simp only;omega)]
 exact GL k0 (fun _ _=>rfl)
theorem a9a{sg:List Sg}{one:Bool→Ps→PR}{x:Gs}{l:List Int×Gs}(hs:sgB sg)(h:gsOk sg x)(hd:x.deep≤20)
 (hl:Bh sg (Al sg (gDp (if x.deep=20 then Bc x else x) 1) [123]) (CE sg one [125] (sg.length+1) []) l) (hll:l.1.length≤3001):
 Ae sg x (BE sg one) (Bw sg l.2 [125],gDp (Bn sg l.2 [125] ⟨18,[],l.1,false⟩) (-1)):=by
 have k1:=BI (k:=fun ks s=>(Bl sg [125] ⟨18,[],ks,false⟩ s).map fun q=>(q.1,dp q.2 (-1))) (a0i h hd) hl (fun _ _=>rfl)
 have hw:Cq ⟨18,[],l.1,false⟩:=⟨by simp,by simp only;omega⟩
 have hc:=Jz (m:=[125]) k1.1 hw
 have k2:=BI (k:=fun k s=>some (k,dp s (-1))) k1 hc.1 (fun s _=>by cases Bl sg [125] ⟨18,[],l.1,false⟩ s<;>rfl)
 simp only at k2
 refine⟨Fq (JB (e:= -1) k2 ?_ (fun s hs=>rfl)),fun hb=> ?_⟩
 ·have:=k2.2.1;have:=h.2.1;omega
 ·have:=hc.2 hb
  have:=k1.2.2.1
  simp only[gDp] at*;omega
def ifR(sg:List Sg)(n:Nat)(b:Bool)(s:Ps):PR:=(CZ sg s).bind fun p=>(BE sg (stR sg n) p.2).bind fun q=>
 if isW sg q.2 [101,108,115,101] then(BE sg (stR sg n) (adv q.2)).bind fun r=>AZ ⟨16,[],[p.1,q.1,r.1],b⟩ r.2 else AZ ⟨16,[],[p.1,q.1],b⟩ q.2
theorem a0j{sg:List Sg}{n:Nat}{b:Bool}{x:Gs}{c q:Int×Gs}(h:gsOk sg x)(hc:Bh sg x (CZ sg) c)(hq:Ae sg c.2 (BE sg (stR sg n)) q):
 restP sg x (ifR sg n b) q.2 (fun s=>if isW sg s [101,108,115,101] then(BE sg (stR sg n) (adv s)).bind fun r=>AZ ⟨16,[],[c.1,q.1,r.1],b⟩ r.2 else AZ ⟨16,[],[c.1,q.1],b⟩ s) 0:=by
 have k1:=BI (k:=fun a s=>(BE sg (stR sg n) s).bind fun q=>if isW sg q.2 [101,108,115,101] then(BE sg (stR sg n) (adv q.2)).bind fun r=>AZ ⟨16,[],[a,q.1,r.1],b⟩ r.2 else AZ ⟨16,[],[a,q.1],b⟩ q.2) (Df (f:=ifR sg n b) h) hc (fun _ _=>rfl)
 exact BI (k:=fun k s=>if isW sg s [101,108,115,101] then(BE sg (stR sg n) (adv s)).bind fun r=>AZ ⟨16,[],[c.1,k,r.1],b⟩ r.2 else AZ ⟨16,[],[c.1,k],b⟩ s) k1 hq.1 (fun _ _=>rfl)
theorem a0k{sg:List Sg}{n:Nat}{b:Bool}{x:Gs}{c q:Int×Gs}(h:gsOk sg x)(hc:Bh sg x (CZ sg) c)(hq:Ae sg c.2 (BE sg (stR sg n)) q)(he:isG sg q.2 1 [101,108,115,101]=false):
 Ae sg x (ifR sg n b) (Au q.2,Ah q.2 ⟨16,[],[c.1,q.1],b⟩):=by
 have k:=Dq (a0j (b:=b) h hc hq) (g':=AZ ⟨16,[],[c.1,q.1],b⟩) (fun s hs=>by rw[if_neg (by simp [El hs he])])
 refine Qh k (Dx (by simp) (by simp)) (fun hb=> ?_)
 have:=(Cw hq).2.2.2 hb;have:=hc.2.2.1;omega
theorem a0l{sg:List Sg}{n:Nat}{b:Bool}{x:Gs}{c q r:Int×Gs}(h:gsOk sg x)(hc:Bh sg x (CZ sg) c)(hq:Ae sg c.2 (BE sg (stR sg n)) q)(he:isG sg q.2 1 [101,108,115,101]=true)
 (hr:Ae sg (Aj q.2) (BE sg (stR sg n)) r):Ae sg x (ifR sg n b) (Au r.2,Ah r.2 ⟨16,[],[c.1,q.1,r.1],b⟩):=by
 have k:=FK (a0j (b:=b) h hc hq) (g':=fun s=>(BE sg (stR sg n) s).bind fun r=>AZ ⟨16,[],[c.1,q.1,r.1],b⟩ r.2) (by omega) he (fun s hs ht=>by rw[if_pos (show isW sg s [101,108,115,101]=true from ht)])
 have k2:=BI (k:=fun k s=>AZ ⟨16,[],[c.1,q.1,k],b⟩ s) k hr.1 (fun _ _=>rfl)
 refine Qh k2 (Dx (by simp) (by simp)) (fun hb=> ?_)
 have:=(Cw hr).2.2.2 hb;have:=hc.2.2.1;have:=(Cw hq).2.1
 simp only[Aj] at*;omega
def whR(sg:List Sg)(n:Nat)(b:Bool)(s:Ps):PR:=(CZ sg s).bind fun p=>(BE sg (stR sg n) p.2).bind fun q=>AZ ⟨17,[],[p.1,q.1],b⟩ q.2
theorem a9b{sg:List Sg}{n:Nat}{b:Bool}{x:Gs}{c q:Int×Gs}(h:gsOk sg x)(hc:Bh sg x (CZ sg) c)(hq:Ae sg c.2 (BE sg (stR sg n)) q):
 Ae sg x (whR sg n b) (Au q.2,Ah q.2 ⟨17,[],[c.1,q.1],b⟩):=by
 have k1:=BI (k:=fun a s=>(BE sg (stR sg n) s).bind fun q=>AZ ⟨17,[],[a,q.1],b⟩ q.2) (Df (f:=whR sg n b) h) hc (fun _ _=>rfl)
 have k2:=BI (k:=fun k s=>AZ ⟨17,[],[c.1,k],b⟩ s) k1 hq.1 (fun _ _=>rfl)
 refine Qh k2 (Dx (by simp) (by simp)) (fun hb=> ?_)
 have:=(Cw hq).2.2.2 hb;have:=hc.2.2.1;omega
def setR(sg:List Sg)(b:Bool)(s:Ps):PR:=(EW sg s).bind fun p=>(BC sg [61] p.2).bind fun s1=>(BZ sg s1).bind fun q=>Bl sg [59] ⟨13,p.1,[q.1],b⟩ q.2
theorem a0m{sg:List Sg}{b:Bool}{x:Gs}{z:Int×Gs}(hs:sgB sg)(h:gsOk sg x)(hz:Ae sg (Al sg (BP sg x) [61]) (BZ sg) z):
 Ae sg x (setR sg b) (Bw sg z.2 [59],Bn sg z.2 [59] ⟨13,BQ sg x,[z.1],b⟩):=by
 have k1:=BI (k:=fun t s=>(BC sg [61] s).bind fun s1=>(BZ sg s1).bind fun q=>Bl sg [59] ⟨13,t,[q.1],b⟩ q.2) (Df (f:=setR sg b) h) (Mi h).1 (fun _ _=>rfl)
 have k2:=GL (g':=fun s1=>(BZ sg s1).bind fun q=>Bl sg [59] ⟨13,BQ sg x,[q.1],b⟩ q.2) k1 (fun _ _=>rfl)
 have k3:=BI (k:=fun k s=>Bl sg [59] ⟨13,BQ sg x,[k],b⟩ s) k2 hz.1 (fun _ _=>rfl)
 exact KR k3 (Dx (GS hs) (by simp))
def doR(sg:List Sg)(b:Bool)(s:Ps):PR:=(BZ sg s).bind fun p=>Bl sg [59] ⟨14,[],[p.1],b⟩ p.2
theorem a0n{sg:List Sg}{b:Bool}{x:Gs}{z:Int×Gs}(h:gsOk sg x)(hz:Ae sg x (BZ sg) z):Ae sg x (doR sg b) (Bw sg z.2 [59],Bn sg z.2 [59] ⟨14,[],[z.1],b⟩):=by
 have k3:=BI (k:=fun k s=>Bl sg [59] ⟨14,[],[k],b⟩ s) (Df (f:=doR sg b) h) hz.1 (fun _ _=>rfl)
 exact KR k3 (Dx (by simp) (by simp))
theorem IP{sg:List Sg}{n:Nat}{b:Bool}{s:Ps}:stR sg (n+1) b s=
 if(sgO sg s.pos).kind=5 then DM sg 19 b s
 else if isW sg s [118,97,114] then Dd sg b (adv s)
 else if isW sg s [114,101,116,117,114,110] then FO sg b (adv s)
 else if isW sg s [105,102] then ifR sg n b (adv s)
 else if isW sg s [119,104,105,108,101] then whR sg n b (adv s)
 else if CY sg s.pos&&isM sg (adv s) [61] then(BZ sg (adv (adv s))).bind fun p=>Bl sg [59] ⟨13,(sgO sg s.pos).text,[p.1],b⟩ p.2
 else doR sg b s:=rfl
theorem set_eq{sg:List Sg}{b:Bool}{s:Ps}(h:(CY sg s.pos&&isM sg (adv s) [61])=true):(BZ sg (adv (adv s))).bind (fun p=>Bl sg [59] ⟨13,(sgO sg s.pos).text,[p.1],b⟩ p.2)=setR sg b s:=by
 simp only[Bool.and_eq_true] at h
 rw[setR,EW,if_pos h.1]
 simp only[Option.bind_some]
 rw[BC,if_pos h.2];rfl
theorem FQ{sg:List Sg}{x:Gs}{s:Ps}(hs:pur x=some s):(sgO sg s.pos).kind=(pkG sg x 0).kind:=(PQ hs).symm
theorem a0o{sg:List Sg}{x:Gs}{n:Nat}{b:Bool}(hs:sgB sg)(h:gsOk sg x)(hk:(pkG sg x 0).kind=5):Ae sg x (stR sg (n+1) b) (Au x,CS sg x 19 b):=
 JH (NA hs h (fun _=>(NG (by omega)).2)) (fun s hp=>by rw[IP,if_pos (by rw[FQ hp];exact hk)])
theorem a0p{sg:List Sg}{x:Gs}{n:Nat}{b:Bool}{z:Int×Gs}(h:gsOk sg x)(hk:(pkG sg x 0).kind≠5)(hq:isG sg x 1 [118,97,114]=true)(hz:Ae sg (Aj x) (Dd sg b) z):Ae sg x (stR sg (n+1) b) z:=
 KQ h (by omega) hq hz.1 (fun s hp ht=>by rw[IP,if_neg (by rw[FQ hp];exact hk),if_pos (show isW sg s _=true from ht)])
theorem TT{sg:List Sg}{x:Gs}{n:Nat}{b:Bool}{z:Int×Gs}(h:gsOk sg x)(hk:(pkG sg x 0).kind≠5)(h1:isG sg x 1 [118,97,114]=false)(hq:isG sg x 1 [114,101,116,117,114,110]=true)(hz:Ae sg (Aj x) (FO sg b) z):Ae sg x (stR sg (n+1) b) z:=
 KQ h (by omega) hq hz.1 (fun s hp ht=>by rw[IP,if_neg (by rw[FQ hp];exact hk),if_neg (by simp [El hp h1]),if_pos (show isW sg s _=true from ht)])
theorem TU{sg:List Sg}{x:Gs}{n:Nat}{b:Bool}{z:Int×Gs}(h:gsOk sg x)(hk:(pkG sg x 0).kind≠5)(h1:isG sg x 1 [118,97,114]=false)(h2:isG sg x 1 [114,101,116,117,114,110]=false)(hq:isG sg x 1 [105,102]=true)
 (hz:Ae sg (Aj x) (ifR sg n b) z):Ae sg x (stR sg (n+1) b) z:=
 KQ h (by omega) hq hz.1 (fun s hp ht=>by rw[IP,if_neg (by rw[FQ hp];exact hk),if_neg (by simp [El hp h1]),if_neg (by simp [El hp h2]),if_pos (show isW sg s _=true from ht)])
theorem a9c{sg:List Sg}{x:Gs}{n:Nat}{b:Bool}{z:Int×Gs}(h:gsOk sg x)(hk:(pkG sg x 0).kind≠5)(h1:isG sg x 1 [118,97,114]=false)(h2:isG sg x 1 [114,101,116,117,114,110]=false)(h3:isG sg x 1 [105,102]=false)(hq:isG sg x 1 [119,104,105,108,101]=true)
 (hz:Ae sg (Aj x) (whR sg n b) z):Ae sg x (stR sg (n+1) b) z:=
 KQ h (by omega) hq hz.1 (fun s hp ht=>by rw[IP,if_neg (by rw[FQ hp];exact hk),if_neg (by simp [El hp h1]),if_neg (by simp [El hp h2]),if_neg (by simp [El hp h3]),if_pos (show isW sg s _=true from ht)])
def seG(sg:List Sg)(x:Gs):Bool:=nmG sg x 0&&(decide ((pkG sg x 1).kind=4)&&((pkG sg x 1).text==[61]))
theorem TV{sg:List Sg}{x:Gs}{s:Ps}(hs:pur x=some s):(CY sg s.pos&&isM sg (adv s) [61])=seG sg x:=by
 obtain⟨hb,rfl⟩:=Eh.1 hs
 have:=Jy (sg:=sg) (n:=0) (CR hb)
 simp only[Int.add_zero] at this
 rw[seG,this,Gk hb];rfl
theorem a0q{sg:List Sg}{x:Gs}{n:Nat}{b:Bool}{z:Int×Gs}(h:gsOk sg x)(hk:(pkG sg x 0).kind≠5)(h1:isG sg x 1 [118,97,114]=false)(h2:isG sg x 1 [114,101,116,117,114,110]=false)(h3:isG sg x 1 [105,102]=false)(h4:isG sg x 1 [119,104,105,108,101]=false)
 (hq:seG sg x=true) (hz:Ae sg x (setR sg b) z):Ae sg x (stR sg (n+1) b) z:=
 JH hz (fun s hp=>by rw[IP,if_neg (by rw[FQ hp];exact hk),if_neg (by simp [El hp h1]),if_neg (by simp [El hp h2]),if_neg (by simp [El hp h3]),if_neg (by simp [El hp h4]),if_pos (by rw[TV hp];exact hq),set_eq (by rw[TV hp];exact hq)])
theorem a0r{sg:List Sg}{x:Gs}{n:Nat}{b:Bool}{z:Int×Gs}(h:gsOk sg x)(hk:(pkG sg x 0).kind≠5)(h1:isG sg x 1 [118,97,114]=false)(h2:isG sg x 1 [114,101,116,117,114,110]=false)(h3:isG sg x 1 [105,102]=false)(h4:isG sg x 1 [119,104,105,108,101]=false)
 (hq:seG sg x=false) (hz:Ae sg x (doR sg b) z):Ae sg x (stR sg (n+1) b) z:=
 JH hz (fun s hp=>by rw[IP,if_neg (by rw[FQ hp];exact hk),if_neg (by simp [El hp h1]),if_neg (by simp [El hp h2]),if_neg (by simp [El hp h3]),if_neg (by simp [El hp h4]),if_neg (by rw[TV hp];simp [hq])])
theorem a0s{sg:List Sg}{x:Gs}{b:Bool}{l:List Int×Gs}{q:Int×Gs}(hs:sgB sg)(h:gsOk sg x)(hl:Bh sg (Al sg (BP sg x) [40]) (Bg sg (Bu sg) [41] (sg.length+1) []) l)(hll:l.1.length≤3001)
 (hq:Ae sg (Al sg l.2 [41]) (Ey sg) q):Ae sg x (EK sg b) (Au q.2,Ah q.2 ⟨20,BQ sg x,l.1++[q.1],b⟩):=by
 have k1:=BI (k:=fun t s=>(BC sg [40] s).bind fun s1=>(Bg sg (Bu sg) [41] (sg.length+1) [] s1).bind fun q=>(BC sg [41] q.2).bind fun s2=>(Ey sg s2).bind fun r=>AZ ⟨20,t,q.1++[r.1],b⟩ r.2) (Df (f:=EK sg b) h) (Mi h).1 (fun _ _=>rfl)
 have k2:=GL (g':=fun s1=>(Bg sg (Bu sg) [41] (sg.length+1) [] s1).bind fun q=>(BC sg [41] q.2).bind fun s2=>(Ey sg s2).bind fun r=>AZ ⟨20,BQ sg x,q.1++[r.1],b⟩ r.2) k1 (fun _ _=>rfl)
 have k3:=BI (k:=fun ks s=>(BC sg [41] s).bind fun s2=>(Ey sg s2).bind fun r=>AZ ⟨20,BQ sg x,ks++[r.1],b⟩ r.2) k2 hl (fun _ _=>rfl)
 have k4:=GL (g':=fun s2=>(Ey sg s2).bind fun r=>AZ ⟨20,BQ sg x,l.1++[r.1],b⟩ r.2) k3 (fun _ _=>rfl)
 have k5:=BI (k:=fun k s=>AZ ⟨20,BQ sg x,l.1++[k],b⟩ s) k4 hq.1 (fun _ _=>rfl)
 refine Qh k5 (Dx (GS hs) (by simp;omega)) (fun hb=> ?_)
 have:=(Cw hq).2.2.2 hb;have:=k4.2.2.1;omega
theorem a0t{sg:List Sg}{x:Gs}{b:Bool}{l:List Int×Gs}(hs:sgB sg)(h:gsOk sg x)(hl:Bh sg (Al sg (BP sg x) [123]) (CE sg (CN sg) [125] (sg.length+1) []) l)(hll:l.1.length≤3001):
 Ae sg x (EY sg b) (Bw sg l.2 [125],Bn sg l.2 [125] ⟨21,BQ sg x,l.1,b⟩):=by
 have k1:=BI (k:=fun t s=>(BC sg [123] s).bind fun s1=>(CE sg (CN sg) [125] (sg.length+1) [] s1).bind fun q=>Bl sg [125] ⟨21,t,q.1,b⟩ q.2) (Df (f:=EY sg b) h) (Mi h).1 (fun _ _=>rfl)
 have k2:=GL (g':=fun s1=>(CE sg (CN sg) [125] (sg.length+1) [] s1).bind fun q=>Bl sg [125] ⟨21,BQ sg x,q.1,b⟩ q.2) k1 (fun _ _=>rfl)
 have k3:=BI (k:=fun ks s=>Bl sg [125] ⟨21,BQ sg x,ks,b⟩ s) k2 hl (fun _ _=>rfl)
 exact KR k3 (Dx (GS hs) (by omega))
theorem a0u{sg:List Sg}{x:Gs}{b:Bool}(hs:sgB sg)(h:gsOk sg x)(hk:(pkG sg x 0).kind=5):Ae sg x (CN sg b) (Au x,CS sg x 19 b):=
 JH (NA hs h (fun _=>(NG (by omega)).2)) (fun s hp=>by rw[CN,if_pos (by rw[FQ hp];exact hk)])
theorem a0v{sg:List Sg}{x:Gs}{b:Bool}{z:Int×Gs}(h:gsOk sg x)(hk:(pkG sg x 0).kind≠5)(hq:isG sg x 1 [118,97,114]=true)(hz:Ae sg (Aj x) (Dd sg b) z):Ae sg x (CN sg b) z:=
 KQ h (by omega) hq hz.1 (fun s hp ht=>by rw[CN,if_neg (by rw[FQ hp];exact hk),if_pos (show isW sg s _=true from ht)])
theorem a0w{sg:List Sg}{x:Gs}{b:Bool}{z:Int×Gs}(h:gsOk sg x)(hk:(pkG sg x 0).kind≠5)(hq:isG sg x 1 [118,97,114]=false)(hz:Ae sg x (EK sg b) z):Ae sg x (CN sg b) z:=
 JH hz (fun s hp=>by rw[CN,if_neg (by rw[FQ hp];exact hk),if_neg (by simp [El hp hq])])
theorem a0x{sg:List Sg}{x:Gs}{b:Bool}(hs:sgB sg)(h:gsOk sg x)(hk:(pkG sg x 0).kind=5):Ae sg x (De sg b) (Au x,CS sg x 19 b):=
 JH (NA hs h (fun _=>(NG (by omega)).2)) (fun s hp=>by rw[De,if_pos (by rw[FQ hp];exact hk)])
theorem a0y{sg:List Sg}{x:Gs}{b:Bool}{z:Int×Gs}(h:gsOk sg x)(hk:(pkG sg x 0).kind≠5)(hq:isG sg x 1 [118,97,114]=true)(hz:Ae sg (Aj x) (Dd sg b) z):Ae sg x (De sg b) z:=
 KQ h (by omega) hq hz.1 (fun s hp ht=>by rw[De,if_neg (by rw[FQ hp];exact hk),if_pos (show isW sg s _=true from ht)])
theorem a0z{sg:List Sg}{x:Gs}{b:Bool}{z:Int×Gs}(h:gsOk sg x)(hk:(pkG sg x 0).kind≠5)(h1:isG sg x 1 [118,97,114]=false)(hq:isG sg x 1 [99,108,97,115,115]=true)(hz:Ae sg (Aj x) (EY sg b) z):Ae sg x (De sg b) z:=
 KQ h (by omega) hq hz.1 (fun s hp ht=>by rw[De,if_neg (by rw[FQ hp];exact hk),if_neg (by simp [El hp h1]),if_pos (show isW sg s _=true from ht)])
theorem a0A{sg:List Sg}{x:Gs}{b:Bool}{z:Int×Gs}(h:gsOk sg x)(hk:(pkG sg x 0).kind≠5)(h1:isG sg x 1 [118,97,114]=false)(hq:isG sg x 1 [99,108,97,115,115]=false)(hz:Ae sg x (EK sg b) z):Ae sg x (De sg b) z:=
 JH hz (fun s hp=>by rw[De,if_neg (by rw[FQ hp];exact hk),if_neg (by simp [El hp h1]),if_neg (by simp [El hp hq])])
def Dj(sg:List Sg)(y:Gs)(ks:List Int)(ms:List (Int×Int))(N:Nat):Prop:=
 gsOk sg y∧y.deep=0∧(pur y).bind (IB sg N ks ms)=IB sg (sg.length+1) [] [] ps0∧(y.bad=false→(sg.length:Int)-y.pos<N)∧(ks.length:Int)≤y.pos+1∧(y.bad=false→(ks.length:Int)≤y.pos)∧ms.length=ks.length
def gs0:Gs:=⟨0,0,false,[]⟩
theorem a9d{sg:List Sg}:gsOk sg gs0:=⟨by simp [gs0],by simp [gs0],by simp [gs0],by simp [gs0]⟩
theorem a9e{sg:List Sg}:Dj sg gs0 [] [] (sg.length+1):=⟨a9d,rfl,rfl,fun _=>by simp only[gs0];omega,by simp [gs0],fun _=>by simp [gs0],rfl⟩
theorem a9f{sg:List Sg}{y:Gs}{ks:List Int}{ms:List (Int×Int)}{N:Nat}{z:Int×Gs}(h:Dj sg y ks ms N)(hb:y.bad=false)(hl:y.pos<sg.length)(hz:Ae sg y (De sg ((pkG sg y 0).blank&&decide (0<ks.length))) z):
 ∃M,N=M+1∧Dj sg z.2 (ks++[z.1]) (ms++[(y.pos,z.2.pos)]) M:=by
 obtain⟨h0,hd,h1,h2,h3,h4,h5⟩:=h
 have h2:=h2 hb;have h4:=h4 hb
 match N with
 |0=>omega
 |M+1=>
  have e:=Cw hz
  obtain⟨⟨a1,a2,a3,a4,a5⟩,b⟩:=hz
  refine⟨M,rfl,a1,by omega,?_,fun hw=>by have:=e.2.2.2 hw;omega,by simp;omega,fun hw=>by have:=e.2.2.2 hw;simp;omega,by simp [h5]⟩
  rw[←h1,CR hb,Option.bind_some,IB,if_pos hl]
  rw[CR hb] at a4 a5
  have eb:(sgO sg y.pos).blank=(pkG sg y 0).blank:=by rw[Gk hb];simp
  simp only[Option.bind_some] at a4 a5
  rw[eb,a4]
  cases hp:De sg ((pkG sg y 0).blank&&decide (0<ks.length)) ⟨y.pos,y.deep,y.nodes⟩ with
  |none=>rfl
  |some p=>
   simp only[Option.map_some,Option.bind_some]
   have:=a5 p hp
   have hpos:z.2.pos=p.2.pos:=by
    rw[hp] at a4
    simp only[Option.map_some] at a4
    obtain⟨_,e2⟩:=Eh.1 a4
    rw[e2]
   rw[this,hpos]
def BJ(sg:List Sg)(y:Gs)(ks:List Int):Gs:=Ah y ⟨22,[],ks,false⟩
theorem a9g{sg:List Sg}{y:Gs}{ks:List Int}{ms:List (Int×Int)}{N:Nat}(h:Dj sg y ks ms N)(hb:(BJ sg y ks).bad=true)(he:y.bad=true∨¬y.pos<sg.length):IC sg=none:=by
 obtain⟨h0,hd,h1,h2,h3,h4,h5⟩:=h
 rw[IC,←h1]
 cases hy:y.bad with
 |true=>rw[DC hy];rfl
 |false=>
  have h2:=h2 hy
  have he:¬y.pos<sg.length:=by rcases he with he|he
                               ·rw[hy] at he;cases he
                               ·exact he
  match N with
  |0=>have:=h0.1;omega
  |N+1=>
   rw[CR hy,Option.bind_some,IB,if_neg he,Option.bind_some]
   unfold BJ Ah at hb
   split at hb
   ·rename_i hf
    have h3:y.nodes.length=300:=by simpa [CM,hy] using hf
    rw[AZ,if_pos (by simp only;omega)];rfl
   ·simp only at hb;rw[hy] at hb;cases hb
theorem a9h{sg:List Sg}{y:Gs}{ks:List Int}{ms:List (Int×Int)}{N:Nat}(h:Dj sg y ks ms N)(hb:(BJ sg y ks).bad=false)(he:y.bad=true∨¬y.pos<sg.length):
 IC sg=if Dn (BJ sg y ks).nodes then some (ms,(BJ sg y ks).nodes) else none:=by
 obtain⟨h0,hd,h1,h2,h3,h4,h5⟩:=h
 have hy:=(@GM y ⟨22,[],ks,false⟩).2.2 hb
 have h2:=h2 hy
 have he:¬y.pos<sg.length:=by rcases he with he|he
                              ·rw[hy] at he;cases he
                              ·exact he
 rw[IC,←h1]
 match N with
 |0=>have:=h0.1;omega
 |N+1=>
  rw[CR hy,Option.bind_some,IB,if_neg he,Option.bind_some]
  unfold BJ Ah at hb ⊢
  split at hb
  ·simp [Bc] at hb
  ·rename_i hf
   rw[if_neg hf]
   have hf2:=PG (by simpa using hf)
   have:=h0.2.2.1
   rw[AZ,if_neg (by simp only;omega)]
   simp only[Option.bind_some]
end Go.My
end
section
set_option linter.unusedVariables false
set_option linter.unusedSimpArgs false
namespace Go.My
open Go.Eng Go.Proofs
variable {G:GInv}
theorem FR{P:Program}{f:FuncId}{S:Sig}{fn:Func}{c:Code}(hfn:P.funcs[f]? =some fn)(hb:fn.body=some c)(hn:(fn.name== "runtime.NumGoroutine")=false)(hp:∀x,¬S.pre x):Aq G P f S:=
 ⟨⟨⟨fn,hfn,hn,by simp [hb]⟩,fun x y hx _=>(hp x hx).elim⟩,fun x hx=>(hp x hx).elim⟩
theorem Qm{r:Nat}{s:ST}{g:Gs}(hr:1≤r)(h:wP r 0 s g):False:=by
 have h1:=h.1.1.2.1.2;have h2:=h.2;omega
theorem TW{r:Nat}{s:ST}{g:Gs}(hr:1≤r)(h:vP r 0 s g):False:=by
 have h1:=h.1.1.2.1.2;have h2:=h.2;omega
theorem a9i:rAll G 0:=
 ⟨FR Tryz.func164 rfl (by decide) (fun x h=>TW (by omega) h),FR Tryz.func180 rfl (by decide) (fun x h=>TW (by omega) h),
  FR Tryz.func190 rfl (by decide) (fun x h=>Qm (by have:=h.2;omega) h.1),FR Tryz.func193 rfl (by decide) (fun x h=>Qm (by omega) h),FR Tryz.func196 rfl (by decide) (fun x h=>Qm (by omega) h)⟩
theorem a9j(n:Nat):rAll G n:=by
 induction n with
 |zero=>exact a9i
 |succ n ih=>exact⟨a8V n ih,a8U n ih,a8T n ih,a8H n ih,a8G n ih⟩
def Fa:Sig:= {X:=ST×Int×Int×Bool×List Nd,args:=fun x=>[rdG x.1 (xg x)],pre:=fun x=>rOk x.1 (xg x)∧(xg x).deep≤20,Y:=Int×Int×Int×Bool×List Nd,post:=fun x y=>Ae x.1.sg (xg x) (BZ x.1.sg) (yS y),res:=fun x y=> .int .i64 y.1,outs:=fun x y=>[rdG x.1 (yG y.2)],keep:=true}
theorem TX{s:ST}{g:Gs}(h:rOk s g∧g.deep≤20):vP 11 peN s g:=by
 have h1:=h.1.2.1;have h2:=h.1.1.1
 exact⟨h,by unfold peN;omega⟩
theorem Qn:Aq G Go.Proofs.Tryz.prog 164 Fa:=
 have c:=(a9j (G:=G) peN).val
 ⟨⟨c.1.1,fun x y hx hy=>c.1.2 x y (TX hx) hy⟩,fun x hx=>c.2 x (TX hx)⟩
end Go.My
end
section
set_option linter.unusedVariables false
set_option linter.unusedSimpArgs false
namespace Go.My
open Go.Eng Go.Proofs
variable {G:GInv}
def okD(s:ST)(x:Gs):Prop:=rOk s x∧x.deep≤20
def okN(s:ST)(x:Gs):Prop:=okD s x∧x.bad=false∧x.pos<s.sg.length
theorem Mn{x:Gs}(h:x.bad=false):BW x=Aj x:=by simp [BW,h]
theorem JI{s:ST}{x:Gs}(h:okN s x):rOk s (Aj x)∧(Aj x).deep≤20:=⟨⟨h.1.1.1,EL h.1.1.2 h.2.2⟩,h.1.2⟩
theorem Hu{s:ST}{x:Gs}(h:rOk s x):rOk s (BP s.sg x):=⟨h.1,(Mi h.2).1.1⟩
theorem TY{s:ST}{x:Gs}(h:rOk s x):(BP s.sg x).deep=x.deep∧x.pos≤(BP s.sg x).pos:=by
 have:=Cw (Mi h.2);exact⟨this.1,this.2.1⟩
theorem DX{s:ST}{x:Gs}{m:List UInt8}(h:rOk s x):rOk s (Al s.sg x m)∧(Al s.sg x m).deep=x.deep:=⟨⟨h.1,(Ft h.2).1⟩,(Ft h.2).2.1⟩
theorem Gn{a:Bool}{k:Int}(h:a=true):decide (k>0)=(a&&decide (0<k)):=by simp [h]
theorem Gp{a:Bool}{k:Int}(h:a=false):false=(a&&decide (0<k)):=by simp [h]
theorem TZ{s:ST}{x:Gs}(h:rOk s x)(hd:x.deep≤20)(hq:isG s.sg (BP s.sg x) 4 [61]=true):rOk s (Ai s.sg (BP s.sg x) [61])∧(Ai s.sg (BP s.sg x) [61]).deep≤20:=by
 rw[CU hq]
 have a:=Hu h;have b:=TY h
 refine⟨⟨h.1,EL a.2 (Ct hq (by omega)).2⟩,?_⟩
 have e:(Aj (BP s.sg x)).deep=(BP s.sg x).deep:=rfl
 omega
theorem a0B{s:ST}{x:Gs}{b:Bool}{z:Int×Gs}(h:rOk s x)(hq:isG s.sg (BP s.sg x) 4 [61]=true)(hz:Ae s.sg (Ai s.sg (BP s.sg x) [61]) (BZ s.sg) z):
 Ae s.sg x (Dd s.sg b) (Bw s.sg z.2 [59],Bn s.sg z.2 [59] ⟨12,BQ s.sg x,[z.1],b⟩):=by
 rw[CU hq] at hz;exact a8X h.1 h.2 hq hz
theorem a0C{s:ST}{x:Gs}(h:rOk s x)(hq:isG s.sg (BP s.sg x) 4 [61]=false):rOk s (Ai s.sg (BP s.sg x) [61]):=by
 rw[CT hq];exact Hu h
theorem a0D{s:ST}{x:Gs}{b:Bool}(h:rOk s x)(hq:isG s.sg (BP s.sg x) 4 [61]=false):
 Ae s.sg x (Dd s.sg b) (Bw s.sg (Ai s.sg (BP s.sg x) [61]) [59],Bn s.sg (Ai s.sg (BP s.sg x) [61]) [59] ⟨12,BQ s.sg x,[],b⟩):=by
 rw[CT hq];exact a8W h.1 h.2 hq
theorem KS{α:Type}{s:ST}{x:Gs}{f:Ps→Option (α×Ps)}{y:α×Gs}(h:okD s x)(hy:Bh s.sg x f y):okD s y.2:=⟨⟨h.1.1,hy.1⟩,by have:=hy.2.1;have:=h.2;omega⟩
def mbJ(sg:List Sg)(n:Nat)(x y:Gs)(ks:List Int)(N:Nat):Prop:=
 Ig sg (stR sg n) [125] (Al sg (gDp (if x.deep=20 then Bc x else x) 1) [123]) y ks N∧y.deep=x.deep+1∧(y.bad=false→x.deep≠20)
theorem a0E{s:ST}{x:Gs}(h:okD s x):rOk s (gDp (if x.deep=20 then Bc x else x) 1):=by
 refine⟨h.1.1,?_⟩
 have h1:=h.1.2.2.1;have h2:=h.2
 split
 ·exact⟨h.1.2.1,by simp only[gDp,Bc];omega,h.1.2.2.2⟩
 ·exact⟨h.1.2.1,by simp only[gDp];omega,h.1.2.2.2⟩
theorem a9k{s:ST}{x:Gs}{n:Nat}(h:okD s x):mbJ s.sg n x (Al s.sg (gDp (if x.deep=20 then Bc x else x) 1) [123]) [] (s.sg.length+1):=by
 have a:=a0E h
 obtain⟨t1,t2,t3,t4⟩:=Ft (m:=[123]) a.2
 refine⟨Qi t1,?_,fun hb=> ?_⟩
 ·rw[t2];split<;>rfl
 ·intro h20
  have:=t4 hb
  rw[if_pos h20] at this
  simp [gDp,Bc] at this
theorem a0F{s:ST}{x y:Gs}{n:Nat}{ks:List Int}{N:Nat}(h:okD s x)(hj:mbJ s.sg n x y ks N):rOk s y:=⟨h.1.1,hj.1.1.1⟩
theorem a0G{s:ST}{x y:Gs}{n:Nat}{ks:List Int}{N:Nat}(h:okD s x)(h2:20-x.deep≤n)(hj:mbJ s.sg n x y ks N)(hb:y.bad=false):y.deep≤20∧21-y.deep≤n:=by
 have:=hj.2.1;have:=hj.2.2 hb;have:=h.2;omega
theorem Ua{s:ST}{x y:Gs}{n:Nat}{ks:List Int}{N:Nat}(h:okD s x)(hj:mbJ s.sg n x y ks N):ks.length≤3001:=by
 have:=hj.1.2.2.1;have:=hj.1.1.1.1;have:=h.1.1.1;omega
theorem Qo{s:ST}{x y:Gs}{n:Nat}{ks:List Int}{N:Nat}{b:Bool}{z:Int×Gs}(hj:mbJ s.sg n x y ks N)(hb:y.bad=false)(hq:isG s.sg y 4 [125]=false)(hz:Ae s.sg y (stR s.sg n b) z)(e:b=((pkG s.sg y 0).blank&&decide (0<(ks.length:Int)))):
 mbJ s.sg n x z.2 (ks++[z.1]) (N-1)∧N-1<N:=by
 subst e
 obtain⟨a,b⟩:=GP (Ql hj.1 hb hq (z:=z) (by
  have:decide (0<ks.length)=decide (0<(ks.length:Int)):=by simp
  rw[this];exact hz))
 have:=(Cw hz).1
 exact⟨⟨a,by have:=hj.2.1;omega,fun hw=>hj.2.2 hb⟩,b⟩
theorem a0H{s:ST}{x y:Gs}{n:Nat}{ks:List Int}{N:Nat}(h:okD s x)(hj:mbJ s.sg n x y ks N):Cq ⟨18,[],ks,false⟩:=⟨by simp,by have:=Ua h hj;simp only;omega⟩
theorem a0I{s:ST}{x y:Gs}{n:Nat}{ks:List Int}{N:Nat}(h:okD s x)(hj:mbJ s.sg n x y ks N)(hy:y.bad=true∨isG s.sg y 4 [125]=true):
 Ae s.sg x (BE s.sg (stR s.sg n)) (Bw s.sg y [125],gDp (Bn s.sg y [125] ⟨18,[],ks,false⟩) (-1)):=by
 refine a9a (l:=(ks,y)) h.1.1 h.1.2 h.2 ?_ (Ua h hj)
 rcases hy with hy|hy
 ·exact Qj hj.1 hy
 ·exact Qk hj.1 hy
theorem a9l{s:ST}{x y:Gs}{n:Nat}{ks:List Int}{N:Nat}{m:List UInt8}{w:Nd}(h:okD s x)(hj:mbJ s.sg n x y ks N)(hw:Cq w):1≤(Bn s.sg y m w).deep∧(Bn s.sg y m w).deep≤21:=by
 have:=(Cw (Jz (m:=m) hj.1.1.1 hw)).1
 have:=hj.2.1;have:=h.2;have:=h.1.2.2.1
 simp only at*;omega
theorem NK{s:ST}{x:Gs}{w:List UInt8}(h:okD s x)(hq:isG s.sg x 1 w=true):okN s x:=⟨h,(Ct hq (by omega)).1,(Ct hq (by omega)).2⟩
theorem NL{s:ST}{x:Gs}{f:Ps→PR}{z:Int×Gs}(h:okD s x)(hz:Ae s.sg x f z):okD s z.2:=KS h hz.1
theorem KT{s:ST}{x:Gs}{m:List UInt8}(h:okD s x)(hq:isG s.sg x 1 m=true):okD s (Aj x):=⟨(JI (NK h hq)).1,(JI (NK h hq)).2⟩
theorem a9m{s:ST}{x:Gs}{n:Nat}{b:Bool}{z:Int×Gs}(h:rOk s x)(hk:(pkG s.sg x 0).kind≠5)(h1:isG s.sg x 1 [118,97,114]=false)(h2:isG s.sg x 1 [114,101,116,117,114,110]=false)(h3:isG s.sg x 1 [105,102]=false)(h4:isG s.sg x 1 [119,104,105,108,101]=false)
 (hn:nmG s.sg x 0=true) (ht:(pkG s.sg x 1).text=[61]) (hk2:(pkG s.sg x 1).kind=4) (hz:Ae s.sg (Al s.sg (BP s.sg x) [61]) (BZ s.sg) z):
 Ae s.sg x (stR s.sg (n+1) b) (Bw s.sg z.2 [59],Bn s.sg z.2 [59] ⟨13,BQ s.sg x,[z.1],b⟩):=
 a0q h.2 hk h1 h2 h3 h4 (by simp [seG,hn,hk2,ht]) (a0m h.1 h.2 hz)
theorem Ub{s:ST}{x:Gs}{n:Nat}{b:Bool}{z:Int×Gs}(h:rOk s x)(hk:(pkG s.sg x 0).kind≠5)(h1:isG s.sg x 1 [118,97,114]=false)(h2:isG s.sg x 1 [114,101,116,117,114,110]=false)(h3:isG s.sg x 1 [105,102]=false)(h4:isG s.sg x 1 [119,104,105,108,101]=false)
 (hn:nmG s.sg x 0=false∨(pkG s.sg x 1).text≠[61]∨(pkG s.sg x 1).kind≠4) (hz:Ae s.sg x (BZ s.sg) z):
 Ae s.sg x (stR s.sg (n+1) b) (Bw s.sg z.2 [59],Bn s.sg z.2 [59] ⟨14,[],[z.1],b⟩):=
 a0r h.2 hk h1 h2 h3 h4 (by rcases hn with hn|hn|hn<;>simp [seG,hn]) (a0n h.2 hz)
theorem a0J{s:ST}{x:Gs}{n:Nat}{b:Bool}{c q:Int×Gs}(h:okD s x)(hk:(pkG s.sg x 0).kind≠5)(h1:isG s.sg x 1 [118,97,114]=false)(h2:isG s.sg x 1 [114,101,116,117,114,110]=false)(h3:isG s.sg x 1 [105,102]=false)(hq:isG s.sg x 1 [119,104,105,108,101]=true)
 (hc:Bh s.sg (Aj x) (CZ s.sg) c) (hz:Ae s.sg c.2 (BE s.sg (stR s.sg n)) q):Ae s.sg x (stR s.sg (n+1) b) (Au q.2,Ah q.2 ⟨17,[],[c.1,q.1],b⟩):=
 a9c h.1.2 hk h1 h2 h3 hq (a9b (KT h hq).1.2 hc hz)
theorem Qp{α:Type}{s:ST}{x:Gs}{n:Nat}{f:Ps→Option (α×Ps)}{y:α×Gs}(h:20-x.deep≤(n:Int))(hy:Bh s.sg x f y):20-y.2.deep≤(n:Int):=by have:=hy.2.1;omega
theorem a0K{α:Type}{s:ST}{x:Gs}{n:Nat}{f:Ps→Option (α×Ps)}{y:α×Gs}(h:20-x.deep≤(n:Int))(hy:Ae s.sg x f y):20-y.2.deep≤(n:Int):=Qp h hy.1
theorem a0L{s:ST}{x:Gs}{m:List UInt8}(h:okD s x):(Al s.sg (BP s.sg x) m).deep≤20:=by rw[(DX (Hu h.1)).2,(TY h.1).1];exact h.2
def JJ(n:Nat):Sig:= {X:=ST×Int×Int×Bool×List Nd×Bool,args:=fun x=>[rdG x.1 (xh x),.bool x.2.2.2.2.2],pre:=fun x=>(okD x.1 (xh x)∧(xh x).bad=false)∧21-(xh x).deep≤n,Y:=Int×Int×Int×Bool×List Nd,post:=fun x y=>Ae x.1.sg (xh x) (stR x.1.sg n x.2.2.2.2.2) (yS y),res:=fun x y=> .int .i64 y.1,outs:=fun x y=>[rdG x.1 (yG y.2),.top],keep:=true}
attribute [local irreducible] pE Bg CL fnR Ae Bh gsOk Al Bn Ah BW CS Ai Cu Da Au Bw pkG isG nmG BP BQ Dd FO CZ BZ BE stR CE
def GT:Sig:= {X:=ST×Int×Int×Bool×List Nd×Bool,args:=fun x=>[rdG x.1 (xh x),.bool x.2.2.2.2.2],pre:=fun x=>rOk x.1 (xh x)∧(pkG x.1.sg (xh x) 0).kind=5,Y:=Unit,post:=fun x y=>True,res:=fun x y=> .int .i64 (Au (xh x)),outs:=fun x y=>[rdG x.1 (CS x.1.sg (xh x) 19 x.2.2.2.2.2),.top],keep:=true}
theorem Uc:Aq G Tryz.prog 132 GT:=
 vcFun_okP [(103,0,Cm),(104,0,BR),(162,0,CJ)] [(45,⟨Int,Ba⟩)] false (fun x=>[]) Tryz.func132 rfl (by decide) ⟨GK,Gl,IK,trivial⟩ (fun(x:ST×Int×Int×Bool×List Nd×Bool)=>True∧cA Cm [rdG x.1 (xh x)] fun x_1 y=>cA BR [rdG x_1.1 (xg x_1),.agg [.int .i64 (19:Int),.str (pkG x_1.1.sg (xg x_1) (0:Int)).text,.nil,.bool x.2.2.2.2.2]] fun x_2 y=>cA CJ [rdG x_2.1 (Ah (xh x_2) {kind:=x_2.2.2.2.2.2.1,text:=x_2.2.2.2.2.2.2.1,kids:=x_2.2.2.2.2.2.2.2.1,blank:=x_2.2.2.2.2.2.2.2.2})] fun x_3 y=>rA GT x [.int .i64 (Au (xh x_2)),rdG x_3.1 (BW (xg x_3)),.top]) (fun x=>by kernel_rfl) fun(x:ST×Int×Int×Bool×List Nd×Bool) (hx:rOk x.1 (xh x)∧(pkG x.1.sg (xh x) 0).kind=5)=>(by
 dsimp only[cA,mbs,Bf,As,rA,rdG,BR,Cm,GT,CJ,Br,sgs,Av,Az,mvL,lnL,mvE,lnE]
 obtain⟨s,p,d,b,ns,e⟩:=x;dsimp only[xg,xh] at hx ⊢
 obtain⟨h1,h2⟩:=hx
 (repeat' first|(with_reducible first|rfl|exact True.intro|apply AK|apply And.intro|((first|apply AA|apply AI|apply AB|apply AJ)<;>intro _))|(apply Ax<;>intro _)|apply AH|refine Af () ?_ ?_|((first|apply AO|apply AN|apply AM|apply AL|apply AG|apply AF|apply AE|apply AD|apply AC)<;>try dsimp only)|apply Af|(refine Prod.forall.2 ?_;intro _;try dsimp only)|(intro _;try dsimp only))
 all_goals first
  |rfl
  |exact h1
  |exact⟨h1.1,Ib h1.2 ⟨JA h1.1,by simp⟩⟩
  |(simp [CS, *];done)
  |skip)
def Gq:Sig:= {X:=ST×Int×Int×Bool×List Nd×Bool,args:=fun x=>[rdG x.1 (xh x),.bool x.2.2.2.2.2],pre:=fun x=>okN x.1 (xh x),Y:=Int×Int×Int×Bool×List Nd,post:=fun x y=>Ae x.1.sg (Aj (xh x)) (Dd x.1.sg x.2.2.2.2.2) (yS y),res:=fun x y=> .int .i64 y.1,outs:=fun x y=>[rdG x.1 (yG y.2),.top],keep:=true}
theorem Ud:Aq G Tryz.prog 134 Gq:=
 vcFun_okP [(162,0,CJ),(136,0,Ej),(163,0,CF),(164,0,Fa),(165,0,Cz)] [(45,⟨Int,Ba⟩)] false (fun x=>[]) Tryz.func134 rfl (by decide) ⟨IK,NC,II,Qn,KN,trivial⟩ (fun(x:ST×Int×Int×Bool×List Nd×Bool)=>True∧cA CJ [rdG x.1 (xh x)] fun x_1 y=>cA Ej [rdG x_1.1 (BW (xg x_1))] fun x_2 y=>cA CF [rdG x_2.1 (BP x_2.1.sg (xg x_2)),.str #[(61:UInt8)].toList] fun x_3 y=>Aa (isG x_3.1.sg (xh x_3) (4:Int) x_3.2.2.2.2.2) (cA Fa [rdG x_3.1 (Ai x_3.1.sg (xh x_3) x_3.2.2.2.2.2)] fun x_4 y=>∃(x_5:Int),y.1=x_5∧cA Cz [rdG x_4.1 (yG y.2),.str #[(59:UInt8)].toList,.agg [.int .i64 (12:Int),.str (BQ x_2.1.sg (xg x_2)),Ad [x_5],.bool x.2.2.2.2.2]] fun x_6 y=>rA Gq x [.int .i64 (Bw x_6.1.sg (xh x_6) x_6.2.2.2.2.2.1),rdG x_6.1 (Bn x_6.1.sg (xh x_6) x_6.2.2.2.2.2.1 {kind:=x_6.2.2.2.2.2.2.1,text:=x_6.2.2.2.2.2.2.2.1,kids:=x_6.2.2.2.2.2.2.2.2.1,blank:=x_6.2.2.2.2.2.2.2.2.2}),.top]) (cA Cz [rdG x_3.1 (Ai x_3.1.sg (xh x_3) x_3.2.2.2.2.2),.str #[(59:UInt8)].toList,.agg [.int .i64 (12:Int),.str (BQ x_2.1.sg (xg x_2)),.nil,.bool x.2.2.2.2.2]] fun x_4 y=>rA Gq x [.int .i64 (Bw x_4.1.sg (xh x_4) x_4.2.2.2.2.2.1),rdG x_4.1 (Bn x_4.1.sg (xh x_4) x_4.2.2.2.2.2.1 {kind:=x_4.2.2.2.2.2.2.1,text:=x_4.2.2.2.2.2.2.2.1,kids:=x_4.2.2.2.2.2.2.2.2.1,blank:=x_4.2.2.2.2.2.2.2.2.2}),.top])) (fun x=>by kernel_rfl) fun(x:ST×Int×Int×Bool×List Nd×Bool) (hx:okN x.1 (xh x))=>(by
 dsimp only[cA,mbs,Bf,Ad,As,rA,rdG,Cz,Ej,CJ,CF,Fa,Gq,Br,sgs,Av,Az,mvL,lnL,mvE,lnE]
 obtain⟨s,p,d,b,ns,e⟩:=x;dsimp only[xg,xh] at hx ⊢
 have hx:okN s ⟨p,d,b,ns⟩:=hx
 have hp:=Mn hx.2.1
 obtain⟨h1,h2⟩:=JI hx
 (repeat' first|(with_reducible first|rfl|exact True.intro|apply AK|apply And.intro|((first|apply AA|apply AI|apply AB|apply AJ)<;>intro _))|(apply Ax<;>intro _)|apply AH|refine Af () ?_ ?_|((first|apply AO|apply AN|apply AM|apply AL|apply AG|apply AF|apply AE|apply AD|apply AC)<;>try dsimp only)|apply Af|(refine Prod.forall.2 ?_;intro _;try dsimp only)|(intro _;try dsimp only))
 all_goals(try dsimp only[xg,xh,yG,yS,iG] at*)
 all_goals(try simp only[CG,hp] at*)
 all_goals first
  |rfl
  |exact hx.1.1
  |exact h1
  |exact h2
  |exact Hu h1
  |exact(TZ h1 h2 ‹_›).1
  |exact(TZ h1 h2 ‹_›).2
  |exact a0C h1 ‹_›
  |exact Dg h1 ‹_›
  |exact Dx (GS h1.1) (by simp)
  |exact a0B h1 ‹_› ‹_›
  |exact a0D h1 ‹_›
  |skip)
def KU:Sig:= {X:=ST×Int×Int×Bool×List Nd×Bool,args:=fun x=>[rdG x.1 (xh x),.bool x.2.2.2.2.2],pre:=fun x=>okN x.1 (xh x),Y:=Int×Int×Int×Bool×List Nd,post:=fun x y=>Ae x.1.sg (Aj (xh x)) (FO x.1.sg x.2.2.2.2.2) (yS y),res:=fun x y=> .int .i64 y.1,outs:=fun x y=>[rdG x.1 (yG y.2),.top],keep:=true}
theorem a9n:Aq G Tryz.prog 182 KU:=
 vcFun_okP [(162,0,CJ),(166,0,Cr),(164,0,Fa),(165,0,Cz)] [(45,⟨Int,Ba⟩)] false (fun x=>[]) Tryz.func182 rfl (by decide) ⟨IK,Hp,Qn,KN,trivial⟩ (fun(x:ST×Int×Int×Bool×List Nd×Bool)=>True∧cA CJ [rdG x.1 (xh x)] fun x_1 y=>cA Cr [rdG x_1.1 (BW (xg x_1)),.str #[(59:UInt8)].toList] fun x_2 y=>Aa (!isG x_2.1.sg (xh x_2) (4:Int) x_2.2.2.2.2.2) (cA Fa [rdG x_2.1 (xh x_2)] fun x_3 y=>∃(x_4:Int),y.1=x_4∧cA Cz [rdG x_3.1 (yG y.2),.str #[(59:UInt8)].toList,.agg [.int .i64 (15:Int),.str #[].toList,Ad [x_4],.bool x.2.2.2.2.2]] fun x_5 y=>rA KU x [.int .i64 (Bw x_5.1.sg (xh x_5) x_5.2.2.2.2.2.1),rdG x_5.1 (Bn x_5.1.sg (xh x_5) x_5.2.2.2.2.2.1 {kind:=x_5.2.2.2.2.2.2.1,text:=x_5.2.2.2.2.2.2.2.1,kids:=x_5.2.2.2.2.2.2.2.2.1,blank:=x_5.2.2.2.2.2.2.2.2.2}),.top]) (cA Cz [rdG x_2.1 (xh x_2),.str #[(59:UInt8)].toList,.agg [.int .i64 (15:Int),.str #[].toList,.nil,.bool x.2.2.2.2.2]] fun x_3 y=>rA KU x [.int .i64 (Bw x_3.1.sg (xh x_3) x_3.2.2.2.2.2.1),rdG x_3.1 (Bn x_3.1.sg (xh x_3) x_3.2.2.2.2.2.1 {kind:=x_3.2.2.2.2.2.2.1,text:=x_3.2.2.2.2.2.2.2.1,kids:=x_3.2.2.2.2.2.2.2.2.1,blank:=x_3.2.2.2.2.2.2.2.2.2}),.top])) (fun x=>by kernel_rfl) fun(x:ST×Int×Int×Bool×List Nd×Bool) (hx:okN x.1 (xh x))=>(by
 dsimp only[cA,mbs,Bf,Ad,As,rA,rdG,Cz,Cr,KU,CJ,Fa,Br,sgs,Av,Az,mvL,lnL,mvE,lnE]
 obtain⟨s,p,d,b,ns,e⟩:=x;dsimp only[xg,xh] at hx ⊢
 have hx:okN s ⟨p,d,b,ns⟩:=hx
 have hp:=Mn hx.2.1
 obtain⟨h1,h2⟩:=JI hx
 (repeat' first|(with_reducible first|rfl|exact True.intro|apply AK|apply And.intro|((first|apply AA|apply AI|apply AB|apply AJ)<;>intro _))|(apply Ax<;>intro _)|apply AH|refine Af () ?_ ?_|((first|apply AO|apply AN|apply AM|apply AL|apply AG|apply AF|apply AE|apply AD|apply AC)<;>try dsimp only)|apply Af|(refine Prod.forall.2 ?_;intro _;try dsimp only)|(intro _;try dsimp only))
 all_goals(try dsimp only[xg,xh,yG,yS,iG] at*)
 all_goals(try simp only[CG,hp] at*)
 all_goals first
  |rfl
  |exact hx.1.1
  |exact h1
  |exact h2
  |exact Dg h1 ‹_›
  |exact Dx (by simp) (by simp)
  |exact a0e h1.2 ‹_›
  |exact a0f h1.2 ‹_› ‹_›
  |skip)
def IQ:Sig:= {X:=ST×Int×Int×Bool×List Nd,args:=fun x=>[rdG x.1 (xg x)],pre:=fun x=>okD x.1 (xg x),Y:=Int×Int×Int×Bool×List Nd,post:=fun x y=>Bh x.1.sg (xg x) (CZ x.1.sg) (yS y),res:=fun x y=>Ad [y.1],outs:=fun x y=>[rdG x.1 (yG y.2)],keep:=true}
theorem a0M:Aq G Tryz.prog 184 IQ:=
 vcFun_okP [(137,0,Cv),(164,0,Fa)] [(45,⟨Int,Ba⟩)] false (fun x=>[]) Tryz.func184 rfl (by decide) ⟨IJ,Qn,trivial⟩ (fun(x:ST×Int×Int×Bool×List Nd)=>True∧cA Cv [rdG x.1 (xg x),.str #[(40:UInt8)].toList] fun x_1 y=>cA Fa [rdG x_1.1 (Al x_1.1.sg (xh x_1) x_1.2.2.2.2.2)] fun x_2 y=>cA Cv [rdG x_2.1 (yG y.2),.str #[(41:UInt8)].toList] fun x_3 y_1=>∃(x_4:Int),y.1=x_4∧rA IQ x [Ad [x_4],rdG x_3.1 (Al x_3.1.sg (xh x_3) x_3.2.2.2.2.2)]) (fun x=>by kernel_rfl) fun(x:ST×Int×Int×Bool×List Nd) (hx:okD x.1 (xg x))=>(by
 dsimp only[cA,mbs,Bf,Ad,As,rA,rdG,IQ,Cv,Fa,Br,sgs,Av,Az,mvL,lnL,mvE,lnE]
 obtain⟨s,p,d,b,ns⟩:=x;dsimp only[xg,xh] at hx ⊢
 have hx:okD s ⟨p,d,b,ns⟩:=hx
 have t:=DX (m:=[40]) hx.1;have hd:=hx.2;dsimp only at hd
 (repeat' first|(with_reducible first|rfl|exact True.intro|apply AK|apply And.intro|((first|apply AA|apply AI|apply AB|apply AJ)<;>intro _))|(apply Ax<;>intro _)|apply AH|refine Af () ?_ ?_|((first|apply AO|apply AN|apply AM|apply AL|apply AG|apply AF|apply AE|apply AD|apply AC)<;>try dsimp only)|apply Af|(refine Prod.forall.2 ?_;intro _;try dsimp only)|(intro _;try dsimp only))
 all_goals(try dsimp only[xg,xh,yG,yS,iG] at*)
 all_goals(try simp only[CG] at*)
 all_goals first
  |rfl
  |exact hx.1
  |exact t.1
  |(rw[t.2];exact hd)
  |exact Dg hx.1 ‹_›
  |exact a0g hx.1.2 ‹_›
  |skip)
def Hv(n:Nat):Sig:= {X:=ST×Int×Int×Bool×List Nd,args:=fun x=>[rdG x.1 (xg x)],pre:=fun x=>okD x.1 (xg x)∧20-(xg x).deep≤(n:Int),Y:=Int×Int×Int×Bool×List Nd,post:=fun x y=>Ae x.1.sg (xg x) (BE x.1.sg (stR x.1.sg n)) (yS y),res:=fun x y=> .int .i64 y.1,outs:=fun x y=>[rdG x.1 (yG y.2)],keep:=true}
def NM(n:Nat)(x:ST×Int×Int×Bool×List Nd):LS:= {ι:=Int×Int×Bool×List Nd×List Int×Nat,inv:=fun i=>mbJ x.1.sg n (xg x) (iG i) i.2.2.2.2.1 i.2.2.2.2.2,regs:=fun i=>[(0,rdG x.1 (iG i)),(3,Ad i.2.2.2.2.1)],als:=[],meas:=fun i=>i.2.2.2.2.2}
theorem Ue(n:Nat)(h:Aq G Go.Proofs.Tryz.prog 170 (JJ n)):Aq G Tryz.prog 140 (Hv n):=
 vcFun_okP [(169,0,Ie),(137,0,Cv),(166,0,Cr),(103,0,Cm),(170,0,(JJ n)),(165,0,Cz)] [(45,⟨Int,Ba⟩)] false (fun x=>[(4,NM n x)]) Tryz.func140 rfl (by decide) ⟨YX,IJ,Hp,GK,h,KN,trivial⟩ (fun(x:ST×Int×Int×Bool×List Nd)=>True∧cA Ie [rdG x.1 (xg x)] fun x_1 y=>cA Cv [.box 0 [sgs x_1.1.sg,.int .i64 x_1.1.z,.int .i64 (gDp (if(xg x_1).deep=(20:Int) then Bc (xg x_1) else xg x_1) (1:Int)).pos,.int .i64 (gDp (if(xg x_1).deep=(20:Int) then Bc (xg x_1) else xg x_1) (1:Int)).deep,.bool (gDp (if(xg x_1).deep=(20:Int) then Bc (xg x_1) else xg x_1) (1:Int)).bad,As (gDp (if(xg x_1).deep=(20:Int) then Bc (xg x_1) else xg x_1) (1:Int)).nodes,mbs x_1.1.ms],.str #[(123:UInt8)].toList] fun x_2 y=>eA (NM n x) [rdG x_2.1 (Al x_2.1.sg (xh x_2) x_2.2.2.2.2.2),.nil]∧∀(i:Int×Int×Bool×List Nd×List Int×Nat),mbJ x.1.sg n (xg x) (iG i) i.2.2.2.2.1 i.2.2.2.2.2→Aa (!(iG i).bad) (cA Cr [rdG x.1 (iG i),.str #[(125:UInt8)].toList] fun x_3 y=>Aa (!isG x_3.1.sg (xh x_3) (4:Int) x_3.2.2.2.2.2) (cA Cm [rdG x_3.1 (xh x_3)] fun x_4 y=>Aa (pkG x_4.1.sg (xg x_4) (0:Int)).blank (cA (JJ n) [rdG x_4.1 (xg x_4),.bool (decide ((↑(List.length i.2.2.2.2.1):Int)>(0:Int)))] fun x_5 y=>∃(x_6:Int),y.1=x_6∧∃(zs:List Int),Ad [x_6]=Ad zs∧Bt Ba∧AW (List.length i.2.2.2.2.1+List.length zs) (8:Nat)∧eN (NM n x) i [rdG x_5.1 (yG y.2),Ad (i.2.2.2.2.1++zs)]) (cA (JJ n) [rdG x_4.1 (xg x_4),.bool false] fun x_5 y=>∃(x_6:Int),y.1=x_6∧∃(zs:List Int),Ad [x_6]=Ad zs∧Bt Ba∧AW (List.length i.2.2.2.2.1+List.length zs) (8:Nat)∧eN (NM n x) i [rdG x_5.1 (yG y.2),Ad (i.2.2.2.2.1++zs)])) (cA Cz [rdG x_3.1 (xh x_3),.str #[(125:UInt8)].toList,.agg [.int .i64 (18:Int),.str #[].toList,Ad i.2.2.2.2.1,.bool false]] fun x_4 y=>inR IntKind.i64 ((Bn x_4.1.sg (xh x_4) x_4.2.2.2.2.2.1 {kind:=x_4.2.2.2.2.2.2.1,text:=x_4.2.2.2.2.2.2.2.1,kids:=x_4.2.2.2.2.2.2.2.2.1,blank:=x_4.2.2.2.2.2.2.2.2.2}).deep-(1:Int))∧rA (Hv n) x [.int .i64 (Bw x_4.1.sg (xh x_4) x_4.2.2.2.2.2.1),.box 0 [sgs x_4.1.sg,.int .i64 x_4.1.z,.int .i64 (Bn x_4.1.sg (xh x_4) x_4.2.2.2.2.2.1 {kind:=x_4.2.2.2.2.2.2.1,text:=x_4.2.2.2.2.2.2.2.1,kids:=x_4.2.2.2.2.2.2.2.2.1,blank:=x_4.2.2.2.2.2.2.2.2.2}).pos,.int .i64 ((Bn x_4.1.sg (xh x_4) x_4.2.2.2.2.2.1 {kind:=x_4.2.2.2.2.2.2.1,text:=x_4.2.2.2.2.2.2.2.1,kids:=x_4.2.2.2.2.2.2.2.2.1,blank:=x_4.2.2.2.2.2.2.2.2.2}).deep-(1:Int)),.bool (Bn x_4.1.sg (xh x_4) x_4.2.2.2.2.2.1 {kind:=x_4.2.2.2.2.2.2.1,text:=x_4.2.2.2.2.2.2.2.1,kids:=x_4.2.2.2.2.2.2.2.2.1,blank:=x_4.2.2.2.2.2.2.2.2.2}).bad,As (Bn x_4.1.sg (xh x_4) x_4.2.2.2.2.2.1 {kind:=x_4.2.2.2.2.2.2.1,text:=x_4.2.2.2.2.2.2.2.1,kids:=x_4.2.2.2.2.2.2.2.2.1,blank:=x_4.2.2.2.2.2.2.2.2.2}).nodes,mbs x_4.1.ms]])) (cA Cz [rdG x.1 (iG i),.str #[(125:UInt8)].toList,.agg [.int .i64 (18:Int),.str #[].toList,Ad i.2.2.2.2.1,.bool false]] fun x_3 y=>inR IntKind.i64 ((Bn x_3.1.sg (xh x_3) x_3.2.2.2.2.2.1 {kind:=x_3.2.2.2.2.2.2.1,text:=x_3.2.2.2.2.2.2.2.1,kids:=x_3.2.2.2.2.2.2.2.2.1,blank:=x_3.2.2.2.2.2.2.2.2.2}).deep-(1:Int))∧rA (Hv n) x [.int .i64 (Bw x_3.1.sg (xh x_3) x_3.2.2.2.2.2.1),.box 0 [sgs x_3.1.sg,.int .i64 x_3.1.z,.int .i64 (Bn x_3.1.sg (xh x_3) x_3.2.2.2.2.2.1 {kind:=x_3.2.2.2.2.2.2.1,text:=x_3.2.2.2.2.2.2.2.1,kids:=x_3.2.2.2.2.2.2.2.2.1,blank:=x_3.2.2.2.2.2.2.2.2.2}).pos,.int .i64 ((Bn x_3.1.sg (xh x_3) x_3.2.2.2.2.2.1 {kind:=x_3.2.2.2.2.2.2.1,text:=x_3.2.2.2.2.2.2.2.1,kids:=x_3.2.2.2.2.2.2.2.2.1,blank:=x_3.2.2.2.2.2.2.2.2.2}).deep-(1:Int)),.bool (Bn x_3.1.sg (xh x_3) x_3.2.2.2.2.2.1 {kind:=x_3.2.2.2.2.2.2.1,text:=x_3.2.2.2.2.2.2.2.1,kids:=x_3.2.2.2.2.2.2.2.2.1,blank:=x_3.2.2.2.2.2.2.2.2.2}).bad,As (Bn x_3.1.sg (xh x_3) x_3.2.2.2.2.2.1 {kind:=x_3.2.2.2.2.2.2.1,text:=x_3.2.2.2.2.2.2.2.1,kids:=x_3.2.2.2.2.2.2.2.2.1,blank:=x_3.2.2.2.2.2.2.2.2.2}).nodes,mbs x_3.1.ms]])) (fun x=>by kernel_rfl) fun(x:ST×Int×Int×Bool×List Nd) (hx:okD x.1 (xg x)∧20-(xg x).deep≤(n:Int))=>(by
 dsimp only[cA,eA,eN,NM,mbs,Bf,Ad,As,rA,rdG,Hv,Cz,Ie,Cr,Cm,JJ,Cv,Br,sgs,Av,Az,mvL,lnL,mvE,lnE,BA]
 obtain⟨s,p,d,b,ns⟩:=x;dsimp only[xg,xh] at hx ⊢
 obtain⟨hx,hd⟩:=hx
 have hx:okD s ⟨p,d,b,ns⟩:=hx;have hd2:=hx.2;dsimp only at hd2
 (repeat' first|(with_reducible first|rfl|exact True.intro|apply AK|apply And.intro|((first|apply AA|apply AI|apply AB|apply AJ)<;>intro _))|(apply Ax<;>intro _)|apply AH|refine Af () ?_ ?_|((first|apply AO|apply AN|apply AM|apply AL|apply AG|apply AF|apply AE|apply AD|apply AC)<;>try dsimp only)|apply Af|(refine Prod.forall.2 ?_;intro _;try dsimp only)|(intro _;try dsimp only))
 all_goals(try dsimp only[xg,xh,yG,yS,iG] at*)
 all_goals(try simp only[CG] at*)
 all_goals first
  |(show Nat;skip)
  |rfl
  |exact hx.1
  |exact hd2
  |assumption
  |exact a0E hx
  |exact a9k hx
  |exact a0F hx ‹_›
  |exact a0H hx ‹_›
  |exact⟨a0F hx ‹_›,(a0G hx hd ‹_› ‹_›).1⟩
  |exact(a0G hx hd ‹_› ‹_›).2
  |exact(Qo ‹_› ‹_› ‹_› ‹_› (Gn ‹_›)).1
  |exact(Qo ‹_› ‹_› ‹_› ‹_› (Gp ‹_›)).1
  |exact a0I hx ‹_› (.inl ‹_›)
  |exact a0I hx ‹_› (.inr ‹_›)
  |(have hq:=Ua hx (show mbJ _ _ _ _ _ _ by assumption);(try simp only[AW,List.length_append,List.length_cons,List.length_nil]);omega)
  |(have hj:=(show mbJ _ _ _ _ _ _ by assumption);have hq:=a9l (m:=[125]) hx hj (a0H hx hj);(try simp only[AR]);omega)
  |skip
 all_goals first
  |exact(Qo ‹_› ‹_› ‹_› ‹_› (Gn ‹_›)).2
  |exact(Qo ‹_› ‹_› ‹_› ‹_› (Gp ‹_›)).2
  |skip)
def KV(n:Nat):Sig:= {X:=ST×Int×Int×Bool×List Nd×Bool,args:=fun x=>[rdG x.1 (xh x),.bool x.2.2.2.2.2],pre:=fun x=>okN x.1 (xh x)∧20-(xh x).deep≤(n:Int),Y:=Int×Int×Int×Bool×List Nd,post:=fun x y=>Ae x.1.sg (Aj (xh x)) (ifR x.1.sg n x.2.2.2.2.2) (yS y),res:=fun x y=> .int .i64 y.1,outs:=fun x y=>[rdG x.1 (yG y.2),.top],keep:=true}
theorem a9o(n:Nat)(h:Aq G Go.Proofs.Tryz.prog 170 (JJ n)):Aq G Tryz.prog 183 (KV n):=
 vcFun_okP [(162,0,CJ),(184,0,IQ),(140,0,(Hv n)),(133,0,DW),(104,0,BR)] [(45,⟨Int,Ba⟩)] false (fun x=>[]) Tryz.func183 rfl (by decide) ⟨IK,a0M,(Ue n h),PJ,Gl,trivial⟩ (fun(x:ST×Int×Int×Bool×List Nd×Bool)=>True∧cA CJ [rdG x.1 (xh x)] fun x_1 y=>cA IQ [rdG x_1.1 (BW (xg x_1))] fun x_2 y=>cA (Hv n) [rdG x_2.1 (yG y.2)] fun x_3 y_1=>∃(x_4:Int),y_1.1=x_4∧∃(zs:List Int),Ad [x_4]=Ad zs∧Bt Ba∧AW (List.length [y.1]+List.length zs) (8:Nat)∧cA DW [rdG x_3.1 (yG y_1.2),.str #[(101:UInt8),(108:UInt8),(115:UInt8),(101:UInt8)].toList] fun x_5 y_2=>Aa (isG x_5.1.sg (xh x_5) (1:Int) x_5.2.2.2.2.2) (cA CJ [rdG x_5.1 (xh x_5)] fun x_6 y_3=>cA (Hv n) [rdG x_6.1 (BW (xg x_6))] fun x_7 y_4=>∃(x_8:Int),y_4.1=x_8∧∃(zs_1:List Int),Ad [x_8]=Ad zs_1∧Bt Ba∧AW (List.length (y.1::List.append._f [] PUnit.unit zs)+List.length zs_1) (8:Nat)∧cA BR [rdG x_7.1 (yG y_4.2),.agg [.int .i64 (16:Int),.str #[].toList,Ad (y.1::List.append._f [] PUnit.unit zs++zs_1),.bool x.2.2.2.2.2]] fun x_9 y=>rA (KV n) x [.int .i64 (Au (xh x_9)),rdG x_9.1 (Ah (xh x_9) {kind:=x_9.2.2.2.2.2.1,text:=x_9.2.2.2.2.2.2.1,kids:=x_9.2.2.2.2.2.2.2.1,blank:=x_9.2.2.2.2.2.2.2.2}),.top]) (cA BR [rdG x_5.1 (xh x_5),.agg [.int .i64 (16:Int),.str #[].toList,Ad ([y.1]++zs),.bool x.2.2.2.2.2]] fun x_6 y=>rA (KV n) x [.int .i64 (Au (xh x_6)),rdG x_6.1 (Ah (xh x_6) {kind:=x_6.2.2.2.2.2.1,text:=x_6.2.2.2.2.2.2.1,kids:=x_6.2.2.2.2.2.2.2.1,blank:=x_6.2.2.2.2.2.2.2.2}),.top])) (fun x=>by kernel_rfl) fun(x:ST×Int×Int×Bool×List Nd×Bool) (hx:okN x.1 (xh x)∧20-(xh x).deep≤(n:Int))=>(by
 dsimp only[cA,mbs,Bf,Ad,As,rA,rdG,BR,Hv,KV,IQ,DW,CJ,Br,sgs,Av,Az,mvL,lnL,mvE,lnE]
 obtain⟨s,p,d,b,ns,e⟩:=x;dsimp only[xg,xh] at hx ⊢
 obtain⟨hx,hd⟩:=hx
 have hx:okN s ⟨p,d,b,ns⟩:=hx
 have hp:=Mn hx.2.1
 have h1:okD s (Aj ⟨p,d,b,ns⟩):=JI hx
 have h2:20-(Aj ⟨p,d,b,ns⟩).deep≤(n:Int):=hd
 (repeat' first|(with_reducible first|rfl|exact True.intro|apply AK|apply And.intro|((first|apply AA|apply AI|apply AB|apply AJ)<;>intro _))|(apply Ax<;>intro _)|apply AH|refine Af () ?_ ?_|((first|apply AO|apply AN|apply AM|apply AL|apply AG|apply AF|apply AE|apply AD|apply AC)<;>try dsimp only)|apply Af|(refine Prod.forall.2 ?_;intro _;try dsimp only)|(intro _;try dsimp only))
 all_goals(try dsimp only[xg,xh,yG,yS,iG] at*)
 all_goals(try simp only[CG,hp] at*)
 all_goals first
  |rfl
  |exact hx.1.1
  |exact h1
  |exact h1.1
  |exact KS h1 ‹_›
  |exact Qp h2 ‹_›
  |skip
 all_goals(try(have e:=Mn (ZJ (show isG s.sg _ 1 [101,108,115,101]=true by assumption) (by omega));simp only[e] at*))
 all_goals(try(have hc:=(show Bh s.sg _ (CZ s.sg) _ by assumption);have k1:=KS h1 hc;have k2:=Qp h2 hc))
 all_goals first
  |exact(show AW 2 8 by simp [AW])
  |exact(show AW 3 8 by simp [AW])
  |exact(NL k1 (show Ae s.sg _ (BE s.sg _) _ by assumption)).1
  |exact KT (NL k1 ‹_›) ‹_›
  |exact(NL (KT (NL k1 ‹_›) ‹_›) ‹_›).1
  |(have hh:=a0K k2 (show Ae s.sg _ (BE s.sg _) _ by assumption);exact hh)
  |exact a0k h1.1.2 ‹_› ‹_› ‹_›
  |exact a0l h1.1.2 ‹_› ‹_› ‹_› ‹_›
  |skip)
def Hw(n:Nat):Sig:= {X:=ST×Int×Int×Bool×List Nd×Bool,args:=fun x=>[rdG x.1 (xh x),.bool x.2.2.2.2.2],pre:=fun x=>(okD x.1 (xh x)∧(xh x).bad=false)∧21-(xh x).deep≤(n+1:Nat),Y:=Int×Int×Int×Bool×List Nd,post:=fun x y=>Ae x.1.sg (xh x) (stR x.1.sg (n+1) x.2.2.2.2.2) (yS y),res:=fun x y=> .int .i64 y.1,outs:=fun x y=>[rdG x.1 (yG y.2),.top],keep:=true}
theorem a9p(n:Nat)(h:Aq G Go.Proofs.Tryz.prog 170 (JJ n)):Aq G Tryz.prog 170 (Hw n):=
 vcFun_okP [(103,0,Cm),(132,0,GT),(133,0,DW),(134,0,Gq),(182,0,KU),(183,0,(KV n)),(162,0,CJ),(184,0,IQ),(140,0,(Hv n)),(167,0,Ei),(141,0,Ez),(136,0,Ej),(137,0,Cv),(164,0,Fa),(165,0,Cz),(104,0,BR)] [(45,⟨Int,Ba⟩)] false (fun x=>[]) Tryz.func170 rfl (by decide) ⟨GK,Uc,PJ,Ud,a9n,(a9o n h),IK,a0M,(Ue n h),NB,PI,NC,IJ,Qn,KN,Gl,trivial⟩ (fun(x:ST×Int×Int×Bool×List Nd×Bool)=>True∧cA Cm [rdG x.1 (xh x)] fun x_1 y=>Aa ((pkG x_1.1.sg (xg x_1) (0:Int)).kind==(5:Int)) (cA GT [rdG x_1.1 (xg x_1),.bool x.2.2.2.2.2] fun x_2 y=>rA (Hw n) x [.int .i64 (Au (xh x_2)),rdG x_2.1 (CS x_2.1.sg (xh x_2) (19:Int) x_2.2.2.2.2.2),.top]) (cA DW [rdG x_1.1 (xg x_1),.str #[(118:UInt8),(97:UInt8),(114:UInt8)].toList] fun x_2 y=>Aa (isG x_2.1.sg (xh x_2) (1:Int) x_2.2.2.2.2.2) (cA Gq [rdG x_2.1 (xh x_2),.bool x.2.2.2.2.2] fun x_3 y=>rA (Hw n) x [.int .i64 y.1,rdG x_3.1 (yG y.2),.top]) (cA DW [rdG x_2.1 (xh x_2),.str #[(114:UInt8),(101:UInt8),(116:UInt8),(117:UInt8),(114:UInt8),(110:UInt8)].toList] fun x_3 y=>Aa (isG x_3.1.sg (xh x_3) (1:Int) x_3.2.2.2.2.2) (cA KU [rdG x_3.1 (xh x_3),.bool x.2.2.2.2.2] fun x_4 y=>rA (Hw n) x [.int .i64 y.1,rdG x_4.1 (yG y.2),.top]) (cA DW [rdG x_3.1 (xh x_3),.str #[(105:UInt8),(102:UInt8)].toList] fun x_4 y=>Aa (isG x_4.1.sg (xh x_4) (1:Int) x_4.2.2.2.2.2) (cA (KV n) [rdG x_4.1 (xh x_4),.bool x.2.2.2.2.2] fun x_5 y=>rA (Hw n) x [.int .i64 y.1,rdG x_5.1 (yG y.2),.top]) (cA DW [rdG x_4.1 (xh x_4),.str #[(119:UInt8),(104:UInt8),(105:UInt8),(108:UInt8),(101:UInt8)].toList] fun x_5 y=>Aa (isG x_5.1.sg (xh x_5) (1:Int) x_5.2.2.2.2.2) (cA CJ [rdG x_5.1 (xh x_5)] fun x_6 y=>cA IQ [rdG x_6.1 (BW (xg x_6))] fun x_7 y=>cA (Hv n) [rdG x_7.1 (yG y.2)] fun x_8 y_1=>∃(x_9:Int),y_1.1=x_9∧∃(zs:List Int),Ad [x_9]=Ad zs∧Bt Ba∧AW (List.length [y.1]+List.length zs) (8:Nat)∧cA BR [rdG x_8.1 (yG y_1.2),.agg [.int .i64 (17:Int),.str #[].toList,Ad ([y.1]++zs),.bool x.2.2.2.2.2]] fun x_10 y=>rA (Hw n) x [.int .i64 (Au (xh x_10)),rdG x_10.1 (Ah (xh x_10) {kind:=x_10.2.2.2.2.2.1,text:=x_10.2.2.2.2.2.2.1,kids:=x_10.2.2.2.2.2.2.2.1,blank:=x_10.2.2.2.2.2.2.2.2}),.top]) (cA Ei [rdG x_5.1 (xh x_5),.int .i64 (0:Int)] fun x_6 y=>Aa (nmG x_6.1.sg (xh x_6) x_6.2.2.2.2.2) (cA Ez [rdG x_6.1 (xh x_6),.int .i64 (1:Int)] fun x_7 y=>Aa ((pkG x_7.1.sg (xh x_7) x_7.2.2.2.2.2).text== #[(61:UInt8)].toList) (cA Ez [rdG x_7.1 (xh x_7),.int .i64 (1:Int)] fun x_8 y=>Aa ((pkG x_8.1.sg (xh x_8) x_8.2.2.2.2.2).kind==(4:Int)) (cA Ej [rdG x_8.1 (xh x_8)] fun x_9 y=>cA Cv [rdG x_9.1 (BP x_9.1.sg (xg x_9)),.str #[(61:UInt8)].toList] fun x_10 y=>cA Fa [rdG x_10.1 (Al x_10.1.sg (xh x_10) x_10.2.2.2.2.2)] fun x_11 y=>∃(x_12:Int),y.1=x_12∧cA Cz [rdG x_11.1 (yG y.2),.str #[(59:UInt8)].toList,.agg [.int .i64 (13:Int),.str (BQ x_9.1.sg (xg x_9)),Ad [x_12],.bool x.2.2.2.2.2]] fun x_13 y=>rA (Hw n) x [.int .i64 (Bw x_13.1.sg (xh x_13) x_13.2.2.2.2.2.1),rdG x_13.1 (Bn x_13.1.sg (xh x_13) x_13.2.2.2.2.2.1 {kind:=x_13.2.2.2.2.2.2.1,text:=x_13.2.2.2.2.2.2.2.1,kids:=x_13.2.2.2.2.2.2.2.2.1,blank:=x_13.2.2.2.2.2.2.2.2.2}),.top]) (cA Fa [rdG x_8.1 (xh x_8)] fun x_9 y=>∃(x_10:Int),y.1=x_10∧cA Cz [rdG x_9.1 (yG y.2),.str #[(59:UInt8)].toList,.agg [.int .i64 (14:Int),.str #[].toList,Ad [x_10],.bool x.2.2.2.2.2]] fun x_11 y=>rA (Hw n) x [.int .i64 (Bw x_11.1.sg (xh x_11) x_11.2.2.2.2.2.1),rdG x_11.1 (Bn x_11.1.sg (xh x_11) x_11.2.2.2.2.2.1 {kind:=x_11.2.2.2.2.2.2.1,text:=x_11.2.2.2.2.2.2.2.1,kids:=x_11.2.2.2.2.2.2.2.2.1,blank:=x_11.2.2.2.2.2.2.2.2.2}),.top])) (cA Fa [rdG x_7.1 (xh x_7)] fun x_8 y=>∃(x_9:Int),y.1=x_9∧cA Cz [rdG x_8.1 (yG y.2),.str #[(59:UInt8)].toList,.agg [.int .i64 (14:Int),.str #[].toList,Ad [x_9],.bool x.2.2.2.2.2]] fun x_10 y=>rA (Hw n) x [.int .i64 (Bw x_10.1.sg (xh x_10) x_10.2.2.2.2.2.1),rdG x_10.1 (Bn x_10.1.sg (xh x_10) x_10.2.2.2.2.2.1 {kind:=x_10.2.2.2.2.2.2.1,text:=x_10.2.2.2.2.2.2.2.1,kids:=x_10.2.2.2.2.2.2.2.2.1,blank:=x_10.2.2.2.2.2.2.2.2.2}),.top])) (cA Fa [rdG x_6.1 (xh x_6)] fun x_7 y=>∃(x_8:Int),y.1=x_8∧cA Cz [rdG x_7.1 (yG y.2),.str #[(59:UInt8)].toList,.agg [.int .i64 (14:Int),.str #[].toList,Ad [x_8],.bool x.2.2.2.2.2]] fun x_9 y=>rA (Hw n) x [.int .i64 (Bw x_9.1.sg (xh x_9) x_9.2.2.2.2.2.1),rdG x_9.1 (Bn x_9.1.sg (xh x_9) x_9.2.2.2.2.2.1 {kind:=x_9.2.2.2.2.2.2.1,text:=x_9.2.2.2.2.2.2.2.1,kids:=x_9.2.2.2.2.2.2.2.2.1,blank:=x_9.2.2.2.2.2.2.2.2.2}),.top]))))))) (fun x=>by kernel_rfl) fun(x:ST×Int×Int×Bool×List Nd×Bool) (hx:(okD x.1 (xh x)∧(xh x).bad=false)∧21-(xh x).deep≤(n+1:Nat))=>(by
 dsimp only[cA,mbs,Bf,Ad,As,rA,rdG,BR,Hv,KV,Cz,IQ,DW,KU,Ej,Cm,Ei,GT,CJ,Ez,Hw,Cv,Fa,Gq,Br,sgs,Av,Az,mvL,lnL,mvE,lnE]
 obtain⟨s,p,d,b,ns,e⟩:=x;dsimp only[xg,xh] at hx ⊢
 obtain⟨⟨hx,hb⟩,hd⟩:=hx
 have hx:okD s ⟨p,d,b,ns⟩:=hx;have hp:=Mn (x:=⟨p,d,b,ns⟩) hb;have hd2:=hx.2;dsimp only at hd2
 (repeat' first|(with_reducible first|rfl|exact True.intro|apply AK|apply And.intro|((first|apply AA|apply AI|apply AB|apply AJ)<;>intro _))|(apply Ax<;>intro _)|apply AH|refine Af () ?_ ?_|((first|apply AO|apply AN|apply AM|apply AL|apply AG|apply AF|apply AE|apply AD|apply AC)<;>try dsimp only)|apply Af|(refine Prod.forall.2 ?_;intro _;try dsimp only)|(intro _;try dsimp only))
 all_goals(try dsimp only[xg,xh,yG,yS,iG] at*)
 all_goals(try simp only[CG,hp] at*)
 all_goals first
  |rfl
  |exact hx.1
  |exact hd2
  |assumption
  |exact NK hx ‹_›
  |exact KT hx ‹_›
  |exact(KT hx ‹_›).1
  |exact a0o hx.1.1 hx.1.2 ‹_›
  |exact a0p hx.1.2 ‹_› ‹_› ‹_›
  |exact TT hx.1.2 ‹_› ‹_› ‹_› ‹_›
  |exact TU hx.1.2 ‹_› ‹_› ‹_› ‹_› ‹_›
  |exact a0J hx ‹_› ‹_› ‹_› ‹_› ‹_› ‹_› ‹_›
  |exact a9m hx.1 ‹_› ‹_› ‹_› ‹_› ‹_› ‹_› ‹_› ‹_› ‹_›
  |exact Ub hx.1 ‹_› ‹_› ‹_› ‹_› ‹_› (.inl ‹_›) ‹_›
  |exact Ub hx.1 ‹_› ‹_› ‹_› ‹_› ‹_› (.inr (.inl ‹_›)) ‹_›
  |exact Ub hx.1 ‹_› ‹_› ‹_› ‹_› ‹_› (.inr (.inr ‹_›)) ‹_›
  |exact Hu hx.1
  |exact(DX (Hu hx.1)).1
  |exact a0L hx
  |exact Dg hx.1 ‹_›
  |exact Dx (GS hx.1.1) (by simp)
  |exact Dx (by simp) (by simp)
  |exact(show AW 2 8 by simp [AW])
  |omega
  |skip
 all_goals(try(have hc:=(show Bh s.sg _ (CZ s.sg) _ by assumption);have k1:=KS (KT hx ‹_›) hc;have k2:=Qp (n:=n) (x:=Aj ⟨p,d,b,ns⟩) (by simp only[Aj];omega) hc))
 all_goals first
  |exact k1
  |exact k2
  |exact(NL k1 ‹_›).1
  |skip)
end Go.My
end
section
set_option linter.unusedVariables false
set_option linter.unusedSimpArgs false
namespace Go.My
open Go.Eng Go.Proofs
variable {G:GInv}
theorem a9q(n:Nat):Aq G Go.Proofs.Tryz.prog 170 (JJ n):=by
 induction n with
 |zero=>exact FR Tryz.func170 rfl (by decide) (fun x h=>by have h1:=h.1.1.2;have h2:=h.2;omega)
 |succ n ih=>exact a9p n ih
def KW:Sig:= {X:=ST×Int×Int×Bool×List Nd,args:=fun x=>[rdG x.1 (xg x)],pre:=fun x=>okD x.1 (xg x),Y:=Int×Int×Int×Bool×List Nd,post:=fun x y=>Ae x.1.sg (xg x) (Ey x.1.sg) (yS y),res:=fun x y=> .int .i64 y.1,outs:=fun x y=>[rdG x.1 (yG y.2)],keep:=true}
theorem a0N{s:ST}{g:Gs}(h:okD s g):okD s g∧20-g.deep≤(stN:Int):=by
 have h1:=h.1.2.2.1.1
 exact⟨h,by unfold stN;omega⟩
theorem a0O:Aq G Go.Proofs.Tryz.prog 140 KW:=
 have c:=Ue (G:=G) stN (a9q stN)
 ⟨⟨c.1.1,fun x y hx hy=>c.1.2 x y (a0N hx) hy⟩,fun x hx=>c.2 x (a0N hx)⟩
theorem NN{s:ST}{x:Gs}(h:rOk s x):rOk s (BP s.sg x)∧rOk s (Al s.sg (BP s.sg x) [40]):=⟨Hu h,(DX (Hu h)).1⟩
theorem Qq{s:ST}{x:Gs}{one:Ps→PR}{m:List UInt8}{l:List Int×Gs}(h:okD s x)(hl:Bh s.sg (Al s.sg (BP s.sg x) [40]) (Bg s.sg one m (s.sg.length+1) []) l∧l.1.length≤3001):okD s l.2∧okD s (Al s.sg l.2 [41]):=by
 have a:okD s (Al s.sg (BP s.sg x) [40]):=⟨(NN h.1).2,a0L h⟩
 have b:=KS a hl.1
 have c:=DX (m:=[41]) b.1
 exact⟨b,c.1,by rw[c.2];exact b.2⟩
theorem a0P{s:ST}{x:Gs}{b:Bool}{l:List Int×Gs}{q:Int×Gs}(h:okD s x)(hl:Bh s.sg (Al s.sg (BP s.sg x) [40]) (Bg s.sg (Bu s.sg) [41] (s.sg.length+1) []) l∧l.1.length≤3001)
 (hq:Ae s.sg (Al s.sg l.2 [41]) (Ey s.sg) q):Ae s.sg x (EK s.sg b) (Au q.2,Ah q.2 ⟨20,BQ s.sg x,l.1++[q.1],b⟩):=a0s h.1.1 h.1.2 hl.1 hl.2 hq
def clJ(sg:List Sg)(x y:Gs)(ks:List Int)(N:Nat):Prop:=Ig sg (CN sg) [125] (Al sg (BP sg (Aj x)) [123]) y ks N∧y.deep=x.deep
theorem a9r{s:ST}{x:Gs}(h:okN s x):clJ s.sg x (Al s.sg (BP s.sg (Aj x)) [123]) [] (s.sg.length+1):=by
 have a:=JI h
 refine⟨Qi (DX (Hu a.1)).1.2,?_⟩
 rw[(DX (Hu a.1)).2,(TY a.1).1];rfl
theorem a0Q{s:ST}{x y:Gs}{ks:List Int}{N:Nat}(h:okN s x)(hj:clJ s.sg x y ks N):okD s y:=⟨⟨h.1.1.1,hj.1.1.1⟩,by have:=hj.2;have:=h.1.2;omega⟩
theorem Uf{s:ST}{x y:Gs}{ks:List Int}{N:Nat}(h:okN s x)(hj:clJ s.sg x y ks N):ks.length≤3001:=by
 have:=hj.1.2.2.1;have:=hj.1.1.1.1;have:=h.1.1.1.1;omega
theorem Qr{s:ST}{x y:Gs}{ks:List Int}{N:Nat}{b:Bool}{z:Int×Gs}(hj:clJ s.sg x y ks N)(hb:y.bad=false)(hq:isG s.sg y 4 [125]=false)(hz:Ae s.sg y (CN s.sg b) z)(e:b=((pkG s.sg y 0).blank&&decide (0<(ks.length:Int)))):
 clJ s.sg x z.2 (ks++[z.1]) (N-1)∧N-1<N:=by
 subst e
 obtain⟨a,b⟩:=GP (Ql hj.1 hb hq (z:=z) (by
  have:decide (0<ks.length)=decide (0<(ks.length:Int)):=by simp
  rw[this];exact hz))
 have:=(Cw hz).1
 exact⟨⟨a,by have:=hj.2;omega⟩,b⟩
theorem a9s{s:ST}{x y:Gs}{ks:List Int}{N:Nat}{b:Bool}(h:okN s x)(hj:clJ s.sg x y ks N):Cq ⟨21,BQ s.sg (Aj x),ks,b⟩:=Dx (GS h.1.1.1) (by have:=Uf h hj;omega)
theorem a0R{s:ST}{x y:Gs}{ks:List Int}{N:Nat}{b:Bool}(h:okN s x)(hj:clJ s.sg x y ks N)(hy:y.bad=true∨isG s.sg y 4 [125]=true):
 Ae s.sg (Aj x) (EY s.sg b) (Bw s.sg y [125],Bn s.sg y [125] ⟨21,BQ s.sg (Aj x),ks,b⟩):=by
 refine a0t (l:=(ks,y)) h.1.1.1 (JI h).1.2 ?_ (Uf h hj)
 rcases hy with hy|hy
 ·exact Qj hj.1 hy
 ·exact Qk hj.1 hy
def a0S:Sig:= {X:=ST×Int×Int×Bool×List Nd×Bool,args:=fun x=>[rdG x.1 (xh x),.bool x.2.2.2.2.2],pre:=fun x=>False,Y:=Int×Int×Int×Bool×List Nd,post:=fun x y=>True,res:=fun x y=> .int .i64 y.1,outs:=fun x y=>[rdG x.1 (yG y.2),.top],keep:=true}
theorem a9t:Aq G Go.Proofs.Tryz.prog 135 a0S:=FR Tryz.func135 rfl (by decide) (fun x h=>h)
attribute [local irreducible] pE Bg CL fnR Ae Bh gsOk Al Bn Ah BW CS Ai Cu Da Au Bw pkG isG nmG BP BQ Dd FO CZ BZ BE stR CE Ey EK CN De EY Bu
def IR:Sig:= {X:=ST×Int×Int×Bool×List Nd×Bool,args:=fun x=>[rdG x.1 (xh x),.bool x.2.2.2.2.2,.bool false],pre:=fun x=>okD x.1 (xh x)∧(xh x).bad=false,Y:=Int×Int×Int×Bool×List Nd,post:=fun x y=>Ae x.1.sg (xh x) (CN x.1.sg x.2.2.2.2.2) (yS y),res:=fun x y=> .int .i64 y.1,outs:=fun x y=>[rdG x.1 (yG y.2),.top,.top],keep:=true}
theorem a9u:Aq G Tryz.prog 102 IR:=
 vcFun_okP [(103,0,Cm),(132,0,GT),(133,0,DW),(134,0,Gq),(135,0,a0S),(136,0,Ej),(137,0,Cv),(138,139+1,FM),(140,0,KW),(104,0,BR)] [(45,⟨Int,Ba⟩)] false (fun x=>[]) Tryz.func102 rfl (by decide) ⟨GK,Uc,PJ,Ud,a9t,NC,IJ,TM,a0O,Gl,trivial⟩ (fun(x:ST×Int×Int×Bool×List Nd×Bool)=>True∧cA Cm [rdG x.1 (xh x)] fun x_1 y=>Aa ((pkG x_1.1.sg (xg x_1) (0:Int)).kind==(5:Int)) (cA GT [rdG x_1.1 (xg x_1),.bool x.2.2.2.2.2] fun x_2 y=>rA IR x [.int .i64 (Au (xh x_2)),rdG x_2.1 (CS x_2.1.sg (xh x_2) (19:Int) x_2.2.2.2.2.2),.top,.top]) (cA DW [rdG x_1.1 (xg x_1),.str #[(118:UInt8),(97:UInt8),(114:UInt8)].toList] fun x_2 y=>Aa (isG x_2.1.sg (xh x_2) (1:Int) x_2.2.2.2.2.2) (cA Gq [rdG x_2.1 (xh x_2),.bool x.2.2.2.2.2] fun x_3 y=>rA IR x [.int .i64 y.1,rdG x_3.1 (yG y.2),.top,.top]) (cA Ej [rdG x_2.1 (xh x_2)] fun x_3 y=>cA Cv [rdG x_3.1 (BP x_3.1.sg (xg x_3)),.str #[(40:UInt8)].toList] fun x_4 y=>(True∧True)∧cA FM [rdG x_4.1 (Al x_4.1.sg (xh x_4) x_4.2.2.2.2.2),.str #[(41:UInt8)].toList,AV.clo (Fn.yield (139:Nat)) [AV.al (0:Nat)]] fun x_5 y=>cA Cv [rdG x_5.1 (yG y.2),.str #[(41:UInt8)].toList] fun x_6 y_1=>cA KW [rdG x_6.1 (Al x_6.1.sg (xh x_6) x_6.2.2.2.2.2)] fun x_7 y_2=>∃(x_8:Int),y_2.1=x_8∧∃(zs:List Int),Ad [x_8]=Ad zs∧Bt Ba∧AW (List.length y.1+List.length zs) (8:Nat)∧cA BR [rdG x_7.1 (yG y_2.2),.agg [.int .i64 (20:Int),.str (BQ x_3.1.sg (xg x_3)),Ad (y.1++zs),.bool x.2.2.2.2.2]] fun x_9 y=>rA IR x [.int .i64 (Au (xh x_9)),rdG x_9.1 (Ah (xh x_9) {kind:=x_9.2.2.2.2.2.1,text:=x_9.2.2.2.2.2.2.1,kids:=x_9.2.2.2.2.2.2.2.1,blank:=x_9.2.2.2.2.2.2.2.2}),.top,.top]))) (fun x=>by kernel_rfl) fun(x:ST×Int×Int×Bool×List Nd×Bool) (hx:okD x.1 (xh x)∧(xh x).bad=false)=>(by
 dsimp only[cA,mbs,Bf,Ad,As,rA,rdG,BR,KW,DW,FM,IR,Ej,Cm,GT,Cv,Gq,Br,sgs,Av,Az,mvL,lnL,mvE,lnE]
 obtain⟨s,p,d,b,ns,e⟩:=x;dsimp only[xg,xh] at hx ⊢
 obtain⟨hx,hb⟩:=hx
 have hx:okD s ⟨p,d,b,ns⟩:=hx
 (repeat' first|(with_reducible first|rfl|exact True.intro|apply AK|apply And.intro|((first|apply AA|apply AI|apply AB|apply AJ)<;>intro _))|(apply Ax<;>intro _)|apply AH|refine Af () ?_ ?_|((first|apply AO|apply AN|apply AM|apply AL|apply AG|apply AF|apply AE|apply AD|apply AC)<;>try dsimp only)|apply Af|(refine Prod.forall.2 ?_;intro _;try dsimp only)|(intro _;try dsimp only))
 all_goals(try dsimp only[xg,xh,yG,yS,iG] at*)
 all_goals(try simp only[CG] at*)
 all_goals first
  |rfl
  |exact hx.1
  |(exfalso;assumption)
  |assumption
  |contradiction
  |exact NK hx ‹_›
  |exact a0u hx.1.1 hx.1.2 ‹_›
  |exact a0v hx.1.2 ‹_› ‹_› ‹_›
  |exact(NN hx.1).1
  |exact(NN hx.1).2
  |exact(Qq hx ‹_›).1.1
  |exact(Qq hx ‹_›).2
  |exact Dg hx.1 ‹_›
  |exact a0w hx.1.2 ‹_› ‹_› (a0P hx ‹_› ‹_›)
  |(have hq2:=And.right (show Bh _ _ _ _∧_ by assumption);(try simp only[AW,List.length_append,List.length_cons,List.length_nil]);omega)
  |skip)
def KX:Sig:= {X:=ST×Int×Int×Bool×List Nd×Bool,args:=fun x=>[rdG x.1 (xh x),.bool x.2.2.2.2.2],pre:=fun x=>okN x.1 (xh x),Y:=Int×Int×Int×Bool×List Nd,post:=fun x y=>Ae x.1.sg (Aj (xh x)) (EY x.1.sg x.2.2.2.2.2) (yS y),res:=fun x y=> .int .i64 y.1,outs:=fun x y=>[rdG x.1 (yG y.2),.top],keep:=true}
def NO(x:ST×Int×Int×Bool×List Nd×Bool):LS:= {ι:=Int×Int×Bool×List Nd×List Int×Nat,inv:=fun i=>clJ x.1.sg (xh x) (iG i) i.2.2.2.2.1 i.2.2.2.2.2,regs:=fun i=>[(0,rdG x.1 (iG i)),(1,.bool x.2.2.2.2.2),(5,.str (BQ x.1.sg (Aj (xh x)))),(6,Ad i.2.2.2.2.1)],als:=[],meas:=fun i=>i.2.2.2.2.2}
theorem a9v:Aq G Tryz.prog 135 KX:=
 vcFun_okP [(162,0,CJ),(136,0,Ej),(137,0,Cv),(166,0,Cr),(103,0,Cm),(102,0,IR),(165,0,Cz)] [(45,⟨Int,Ba⟩)] false (fun x=>[(5,NO x)]) Tryz.func135 rfl (by decide) ⟨IK,NC,IJ,Hp,GK,a9u,KN,trivial⟩ (fun(x:ST×Int×Int×Bool×List Nd×Bool)=>True∧cA CJ [rdG x.1 (xh x)] fun x_1 y=>cA Ej [rdG x_1.1 (BW (xg x_1))] fun x_2 y=>cA Cv [rdG x_2.1 (BP x_2.1.sg (xg x_2)),.str #[(123:UInt8)].toList] fun x_3 y=>eA (NO x) [rdG x_3.1 (Al x_3.1.sg (xh x_3) x_3.2.2.2.2.2),.bool x.2.2.2.2.2,.str (BQ x_2.1.sg (xg x_2)),.nil]∧∀(i:Int×Int×Bool×List Nd×List Int×Nat),clJ x.1.sg (xh x) (iG i) i.2.2.2.2.1 i.2.2.2.2.2→Aa (!(iG i).bad) (cA Cr [rdG x.1 (iG i),.str #[(125:UInt8)].toList] fun x_4 y=>Aa (!isG x_4.1.sg (xh x_4) (4:Int) x_4.2.2.2.2.2) (cA Cm [rdG x_4.1 (xh x_4)] fun x_5 y=>Aa (pkG x_5.1.sg (xg x_5) (0:Int)).blank (cA IR [rdG x_5.1 (xg x_5),.bool (decide ((↑(List.length i.2.2.2.2.1):Int)>(0:Int))),.bool false] fun x_6 y=>∃(x_7:Int),y.1=x_7∧∃(zs:List Int),Ad [x_7]=Ad zs∧Bt Ba∧AW (List.length i.2.2.2.2.1+List.length zs) (8:Nat)∧eN (NO x) i [rdG x_6.1 (yG y.2),.bool x.2.2.2.2.2,.str (BQ x.1.sg (Aj (xh x))),Ad (i.2.2.2.2.1++zs)]) (cA IR [rdG x_5.1 (xg x_5),.bool false,.bool false] fun x_6 y=>∃(x_7:Int),y.1=x_7∧∃(zs:List Int),Ad [x_7]=Ad zs∧Bt Ba∧AW (List.length i.2.2.2.2.1+List.length zs) (8:Nat)∧eN (NO x) i [rdG x_6.1 (yG y.2),.bool x.2.2.2.2.2,.str (BQ x.1.sg (Aj (xh x))),Ad (i.2.2.2.2.1++zs)])) (cA Cz [rdG x_4.1 (xh x_4),.str #[(125:UInt8)].toList,.agg [.int .i64 (21:Int),.str (BQ x.1.sg (Aj (xh x))),Ad i.2.2.2.2.1,.bool x.2.2.2.2.2]] fun x_5 y=>rA KX x [.int .i64 (Bw x_5.1.sg (xh x_5) x_5.2.2.2.2.2.1),rdG x_5.1 (Bn x_5.1.sg (xh x_5) x_5.2.2.2.2.2.1 {kind:=x_5.2.2.2.2.2.2.1,text:=x_5.2.2.2.2.2.2.2.1,kids:=x_5.2.2.2.2.2.2.2.2.1,blank:=x_5.2.2.2.2.2.2.2.2.2}),.top])) (cA Cz [rdG x.1 (iG i),.str #[(125:UInt8)].toList,.agg [.int .i64 (21:Int),.str (BQ x.1.sg (Aj (xh x))),Ad i.2.2.2.2.1,.bool x.2.2.2.2.2]] fun x_4 y=>rA KX x [.int .i64 (Bw x_4.1.sg (xh x_4) x_4.2.2.2.2.2.1),rdG x_4.1 (Bn x_4.1.sg (xh x_4) x_4.2.2.2.2.2.1 {kind:=x_4.2.2.2.2.2.2.1,text:=x_4.2.2.2.2.2.2.2.1,kids:=x_4.2.2.2.2.2.2.2.2.1,blank:=x_4.2.2.2.2.2.2.2.2.2}),.top])) (fun x=>by kernel_rfl) fun(x:ST×Int×Int×Bool×List Nd×Bool) (hx:okN x.1 (xh x))=>(by
 dsimp only[cA,eA,eN,NO,mbs,Bf,Ad,As,rA,rdG,KX,Cz,Cr,IR,Ej,Cm,CJ,Cv,Br,sgs,Av,Az,mvL,lnL,mvE,lnE,BA]
 obtain⟨s,p,d,b,ns,e⟩:=x;dsimp only[xg,xh] at hx ⊢
 have hx:okN s ⟨p,d,b,ns⟩:=hx
 have hp:=Mn hx.2.1
 obtain⟨h1,h2⟩:=JI hx
 (repeat' first|(with_reducible first|rfl|exact True.intro|apply AK|apply And.intro|((first|apply AA|apply AI|apply AB|apply AJ)<;>intro _))|(apply Ax<;>intro _)|apply AH|refine Af () ?_ ?_|((first|apply AO|apply AN|apply AM|apply AL|apply AG|apply AF|apply AE|apply AD|apply AC)<;>try dsimp only)|apply Af|(refine Prod.forall.2 ?_;intro _;try dsimp only)|(intro _;try dsimp only))
 all_goals(try dsimp only[xg,xh,yG,yS,iG] at*)
 all_goals(try simp only[CG,hp] at*)
 all_goals first
  |(show Nat;skip)
  |rfl
  |exact hx.1.1
  |exact h1
  |exact Hu h1
  |exact a9r hx
  |assumption
  |exact a0Q hx ‹_›
  |exact(a0Q hx ‹_›).1
  |exact a9s hx ‹_›
  |exact(Qr ‹_› ‹_› ‹_› ‹_› (Gn ‹_›)).1
  |exact(Qr ‹_› ‹_› ‹_› ‹_› (Gp ‹_›)).1
  |exact a0R hx ‹_› (.inl ‹_›)
  |exact a0R hx ‹_› (.inr ‹_›)
  |(have hq:=Uf hx (show clJ _ _ _ _ _ by assumption);(try simp only[AW,List.length_append,List.length_cons,List.length_nil]);omega)
  |skip
 all_goals first
  |exact(Qr ‹_› ‹_› ‹_› ‹_› (Gn ‹_›)).2
  |exact(Qr ‹_› ‹_› ‹_› ‹_› (Gp ‹_›)).2
  |skip)
def Ih:Sig:= {X:=ST×Int×Int×Bool×List Nd×Bool,args:=fun x=>[rdG x.1 (xh x),.bool x.2.2.2.2.2,.bool true],pre:=fun x=>okD x.1 (xh x)∧(xh x).bad=false,Y:=Int×Int×Int×Bool×List Nd,post:=fun x y=>Ae x.1.sg (xh x) (De x.1.sg x.2.2.2.2.2) (yS y),res:=fun x y=> .int .i64 y.1,outs:=fun x y=>[rdG x.1 (yG y.2),.top,.top],keep:=true}
theorem a9w:Aq G Tryz.prog 102 Ih:=
 vcFun_okP [(103,0,Cm),(132,0,GT),(133,0,DW),(134,0,Gq),(135,0,KX),(136,0,Ej),(137,0,Cv),(138,139+1,FM),(140,0,KW),(104,0,BR)] [(45,⟨Int,Ba⟩)] false (fun x=>[]) Tryz.func102 rfl (by decide) ⟨GK,Uc,PJ,Ud,a9v,NC,IJ,TM,a0O,Gl,trivial⟩ (fun(x:ST×Int×Int×Bool×List Nd×Bool)=>True∧cA Cm [rdG x.1 (xh x)] fun x_1 y=>Aa ((pkG x_1.1.sg (xg x_1) (0:Int)).kind==(5:Int)) (cA GT [rdG x_1.1 (xg x_1),.bool x.2.2.2.2.2] fun x_2 y=>rA Ih x [.int .i64 (Au (xh x_2)),rdG x_2.1 (CS x_2.1.sg (xh x_2) (19:Int) x_2.2.2.2.2.2),.top,.top]) (cA DW [rdG x_1.1 (xg x_1),.str #[(118:UInt8),(97:UInt8),(114:UInt8)].toList] fun x_2 y=>Aa (isG x_2.1.sg (xh x_2) (1:Int) x_2.2.2.2.2.2) (cA Gq [rdG x_2.1 (xh x_2),.bool x.2.2.2.2.2] fun x_3 y=>rA Ih x [.int .i64 y.1,rdG x_3.1 (yG y.2),.top,.top]) (cA DW [rdG x_2.1 (xh x_2),.str #[(99:UInt8),(108:UInt8),(97:UInt8),(115:UInt8),(115:UInt8)].toList] fun x_3 y=>Aa (isG x_3.1.sg (xh x_3) (1:Int) x_3.2.2.2.2.2) (cA KX [rdG x_3.1 (xh x_3),.bool x.2.2.2.2.2] fun x_4 y=>rA Ih x [.int .i64 y.1,rdG x_4.1 (yG y.2),.top,.top]) (cA Ej [rdG x_3.1 (xh x_3)] fun x_4 y=>cA Cv [rdG x_4.1 (BP x_4.1.sg (xg x_4)),.str #[(40:UInt8)].toList] fun x_5 y=>(True∧True)∧cA FM [rdG x_5.1 (Al x_5.1.sg (xh x_5) x_5.2.2.2.2.2),.str #[(41:UInt8)].toList,AV.clo (Fn.yield (139:Nat)) [AV.al (0:Nat)]] fun x_6 y=>cA Cv [rdG x_6.1 (yG y.2),.str #[(41:UInt8)].toList] fun x_7 y_1=>cA KW [rdG x_7.1 (Al x_7.1.sg (xh x_7) x_7.2.2.2.2.2)] fun x_8 y_2=>∃(x_9:Int),y_2.1=x_9∧∃(zs:List Int),Ad [x_9]=Ad zs∧Bt Ba∧AW (List.length y.1+List.length zs) (8:Nat)∧cA BR [rdG x_8.1 (yG y_2.2),.agg [.int .i64 (20:Int),.str (BQ x_4.1.sg (xg x_4)),Ad (y.1++zs),.bool x.2.2.2.2.2]] fun x_10 y=>rA Ih x [.int .i64 (Au (xh x_10)),rdG x_10.1 (Ah (xh x_10) {kind:=x_10.2.2.2.2.2.1,text:=x_10.2.2.2.2.2.2.1,kids:=x_10.2.2.2.2.2.2.2.1,blank:=x_10.2.2.2.2.2.2.2.2}),.top,.top])))) (fun x=>by kernel_rfl) fun(x:ST×Int×Int×Bool×List Nd×Bool) (hx:okD x.1 (xh x)∧(xh x).bad=false)=>(by
 dsimp only[cA,mbs,Bf,Ad,As,rA,rdG,BR,KW,KX,DW,FM,Ih,Ej,Cm,GT,Cv,Gq,Br,sgs,Av,Az,mvL,lnL,mvE,lnE]
 obtain⟨s,p,d,b,ns,e⟩:=x;dsimp only[xg,xh] at hx ⊢
 obtain⟨hx,hb⟩:=hx
 have hx:okD s ⟨p,d,b,ns⟩:=hx
 (repeat' first|(with_reducible first|rfl|exact True.intro|apply AK|apply And.intro|((first|apply AA|apply AI|apply AB|apply AJ)<;>intro _))|(apply Ax<;>intro _)|apply AH|refine Af () ?_ ?_|((first|apply AO|apply AN|apply AM|apply AL|apply AG|apply AF|apply AE|apply AD|apply AC)<;>try dsimp only)|apply Af|(refine Prod.forall.2 ?_;intro _;try dsimp only)|(intro _;try dsimp only))
 all_goals(try dsimp only[xg,xh,yG,yS,iG] at*)
 all_goals(try simp only[CG] at*)
 all_goals first
  |rfl
  |exact hx.1
  |(exfalso;assumption)
  |assumption
  |contradiction
  |exact NK hx ‹_›
  |exact a0x hx.1.1 hx.1.2 ‹_›
  |exact a0y hx.1.2 ‹_› ‹_› ‹_›
  |exact a0z hx.1.2 ‹_› ‹_› ‹_› ‹_›
  |exact(NN hx.1).1
  |exact(NN hx.1).2
  |exact(Qq hx ‹_›).1.1
  |exact(Qq hx ‹_›).2
  |exact Dg hx.1 ‹_›
  |exact a0A hx.1.2 ‹_› ‹_› ‹_› (a0P hx ‹_› ‹_›)
  |(have hq2:=And.right (show Bh _ _ _ _∧_ by assumption);(try simp only[AW,List.length_append,List.length_cons,List.length_nil]);omega)
  |skip)
end Go.My
end
section
set_option linter.unusedVariables false
set_option linter.unusedSimpArgs false
namespace Go.My
open Go.Eng
def Hx(t:List UInt8)(i br:Int)(l:List Sg)(n:Nat):Prop:=
 (0≤i∧i≤t.length)∧(0≤br∧br≤i)∧(l.length:Int)≤i∧(t.length:Int)-i<n∧EV t (t.length+1) 0 0=(EV t n i br).map (l++ ·)
theorem a9x{t:List UInt8}:Hx t 0 0 [] (t.length+1):=by
 refine⟨by omega,by omega,by simp,by simp;omega,?_⟩
 cases EV t (t.length+1) 0 0<;>simp
theorem Qs{t:List UInt8}{n:Nat}{i br:Int}{c:UInt8}(hc:t[i.toNat]? =some c):EV t (n+1) i br=if c.toNat=32 then EV t n (i+1) br
 else if c.toNat=10 then EV t n (i+1) (br+1)
 else if(Bb (t.drop i.toNat)).ok then(EV t n (i+(Bb (t.drop i.toNat)).size) 0).map (⟨(Bb (t.drop i.toNat)).kind,(Bb (t.drop i.toNat)).text,i,decide (br>1)⟩:: ·)
 else none:=by rw[EV,hc]
theorem Qt{t:List UInt8}{i br:Int}{l:List Sg}{n:Nat}(h:Hx t i br l n)(hi:i<t.length):∃m,n=m+1:=by
 obtain⟨h1,h2,h3,h4,h5⟩:=h
 match n with
 |0=>omega
 |m+1=>exact⟨m,rfl⟩
theorem a9y{t:List UInt8}{i br:Int}{l:List Sg}{n:Nat}{c:UInt8}(hc:t[i.toNat]? =some c)(h:Hx t i br l (n+1))(hi:i<t.length)(h32:c.toNat=32):Hx t (i+1) br l n:=by
 obtain⟨h1,h2,h3,h4,h5⟩:=h
 refine⟨by omega,by omega,by omega,by omega,?_⟩
 rw[h5,Qs hc,if_pos h32]
theorem a9z{t:List UInt8}{i br:Int}{l:List Sg}{n:Nat}{c:UInt8}(hc:t[i.toNat]? =some c)(h:Hx t i br l (n+1))(hi:i<t.length)(h32:c.toNat=10):Hx t (i+1) (br+1) l n:=by
 obtain⟨h1,h2,h3,h4,h5⟩:=h
 refine⟨by omega,by omega,by omega,by omega,?_⟩
 rw[h5,Qs hc,if_neg (by omega),if_pos h32]
theorem a9A{t:List UInt8}{i br:Int}{l:List Sg}{n:Nat}{c:UInt8}(hc:t[i.toNat]? =some c)(h:Hx t i br l (n+1))(hi:i<t.length)(h32:c.toNat≠32)(h10:c.toNat≠10)
 (hok:(Bb (t.drop i.toNat)).ok=true) (hz:1≤(Bb (t.drop i.toNat)).size∧(Bb (t.drop i.toNat)).size≤t.length-i):
 Hx t (i+(Bb (t.drop i.toNat)).size) 0 (l++[⟨(Bb (t.drop i.toNat)).kind,(Bb (t.drop i.toNat)).text,i,decide (br>1)⟩]) n:=by
 obtain⟨h1,h2,h3,h4,h5⟩:=h
 refine⟨by omega,by omega,by simp;omega,by omega,?_⟩
 rw[h5,Qs hc,if_neg h32,if_neg h10,if_pos hok]
 cases EV t n (i+(Bb (t.drop i.toNat)).size) 0<;>simp
theorem a9B{t:List UInt8}{i br:Int}{l:List Sg}{n:Nat}{c:UInt8}(hc:t[i.toNat]? =some c)(h:Hx t i br l (n+1))(hi:i<t.length)(h32:c.toNat≠32)(h10:c.toNat≠10)
 (hok:(Bb (t.drop i.toNat)).ok=false) (hl:¬3000<t.length):BX t=none:=by
 rw[BX,if_neg hl,h.2.2.2.2,Qs hc,if_neg h32,if_neg h10,if_neg (by simp [hok])];rfl
theorem a9C{t:List UInt8}{i br:Int}{l:List Sg}{n:Nat}(h:Hx t i br l n)(hi:¬i<t.length)(hl:¬3000<t.length):BX t=some l:=by
 obtain⟨h1,h2,h3,h4,h5⟩:=h
 rw[BX,if_neg hl,h5]
 match n with
 |0=>omega
 |n+1=>rw[EV,List.getElem?_eq_none (by omega)];simp
theorem a9D{t:List UInt8}(h:3000<t.length):BX t=none:=if_pos h
end Go.My
end
section
set_option linter.unusedVariables false
set_option linter.unusedSimpArgs false
namespace Go.My
open Go.Eng Go.Proofs
variable {G:GInv}
theorem Ug{p:UInt8→Bool}{b:UInt8}{s:List UInt8}(h:p b=true):1≤((b::s).takeWhile p).length:=by
 rw[List.takeWhile_cons,if_pos h];simp
theorem Qu{p:UInt8→Bool}{s:List UInt8}:(s.takeWhile p).length≤s.length:=(List.takeWhile_prefix p).length_le
theorem a9E{s:List UInt8}:(CC s).length≤s.length:=by
 unfold CC
 have:=(List.dropWhile_suffix (fun c:UInt8=>decide (c.toNat=32)) (l:=s.reverse)).length_le
 simpa using this
theorem a0T{s:List UInt8}(h:(Bb s).ok=true):1≤(Bb s).size∧(Bb s).size≤s.length∧(Bb s).text.length≤s.length:=by
 match s with
 |[]=>cases h
 |b::s=>
  unfold Bb at h ⊢
  simp only at h ⊢
  split
  ·rename_i hb
   have:=Ug (s:=s) (p:=BN) (b:=b) (by simp [BN,hb]);have:=Qu (p:=BN) (s:=b::s);simp only;omega
  ·rename_i hb
   rw[if_neg hb] at h
   split
   ·rename_i hb2
    have:=Ug (s:=s) (p:=Bq) (b:=b) hb2;have:=Qu (p:=Bq) (s:=b::s);simp only;omega
   ·rename_i hb2
    rw[if_neg hb2] at h
    split
    ·rename_i hb3
     rw[if_pos hb3] at h
     simp only at h ⊢
     unfold Dm at h ⊢
     split at h
     ·cases h
     ·simp only[List.length_take,List.length_cons] at*;omega
    ·rename_i hb3
     rw[if_neg hb3] at h
     split
     ·rename_i hb4
      have hb5:b=47:=by
       cases s with
       |nil=>simp at hb4
       |cons c s=>simp at hb4;exact hb4.1
      have h1:=Ug (s:=s) (p:=Cf) (b:=b) (by subst hb5;rfl);have h2:=Qu (p:=Cf) (s:=b::s);have h3:= @a9E ((b::s).takeWhile Cf)
      simp only;omega
     ·rename_i hb4
      rw[if_neg hb4] at h
      split
      ·simp only[List.length_take,List.length_cons];omega
      ·rename_i hb5
       rw[if_neg hb5] at h
       split
       ·simp only[List.length_take,List.length_cons];omega
       ·rename_i hb6
        rw[if_neg hb6] at h
        cases h
def sgJ(t:List UInt8)(i br:Int)(l:List Sg)(n:Nat):Prop:=(Hx t i br l n∧¬3000<t.length)∧∀e∈l,e.text.length≤3000
theorem a0U{t:List UInt8}(h:¬(t.length:Int)>3000):sgJ t 0 0 [] (t.length+1):=⟨⟨a9x,by omega⟩,by simp⟩
theorem IT{t:List UInt8}{i br:Int}{l:List Sg}{n:Nat}(h:sgJ t i br l n):((0≤i∧i≤t.length)∧(0≤br∧br≤i)∧(l.length:Int)≤i)∧t.length≤3000:=by
 have:=h.1.1;have:=h.1.2;exact⟨⟨h.1.1.1,h.1.1.2.1,h.1.1.2.2.1⟩,by omega⟩
theorem Qv{t:List UInt8}{i br:Int}{l:List Sg}{n:Nat}{c:UInt8}(hc:t[i.toNat]? =some c)(h:sgJ t i br l n)(hi:i<t.length)(h32:c.toNat=32):sgJ t (i+1) br l (n-1)∧n-1<n:=by
 obtain⟨m,rfl⟩:=Qt h.1.1 hi
 exact⟨⟨⟨a9y hc h.1.1 hi h32,h.1.2⟩,h.2⟩,by omega⟩
theorem Qw{t:List UInt8}{i br:Int}{l:List Sg}{n:Nat}{c:UInt8}(hc:t[i.toNat]? =some c)(h:sgJ t i br l n)(hi:i<t.length)(h32:c.toNat=10):sgJ t (i+1) (br+1) l (n-1)∧n-1<n:=by
 obtain⟨m,rfl⟩:=Qt h.1.1 hi
 exact⟨⟨⟨a9z hc h.1.1 hi h32,h.1.2⟩,h.2⟩,by omega⟩
theorem Uh{t:List UInt8}{i br:Int}{l:List Sg}{n:Nat}(h:sgJ t i br l n)(hok:(Bb (t.drop i.toNat)).ok=true):1≤(Bb (t.drop i.toNat)).size∧(Bb (t.drop i.toNat)).size≤t.length-i∧(Bb (t.drop i.toNat)).text.length≤3000:=by
 have a:=a0T hok
 have b:=(IT h)
 simp only[List.length_drop] at a
 omega
theorem Ui{t:List UInt8}{i br:Int}{l:List Sg}{n:Nat}{c:UInt8}(hc:t[i.toNat]? =some c)(h:sgJ t i br l n)(hi:i<t.length)(h32:c.toNat≠32)(h10:c.toNat≠10)
 (hok:(Bb (t.drop i.toNat)).ok=true):
 sgJ t (i+(Bb (t.drop i.toNat)).size) 0 (l++[⟨(Bb (t.drop i.toNat)).kind,(Bb (t.drop i.toNat)).text,i,decide (br>1)⟩]) (n-1)∧n-1<n:=by
 obtain⟨m,rfl⟩:=Qt h.1.1 hi
 have hz:=Uh h hok
 refine⟨⟨⟨a9A hc h.1.1 hi h32 h10 hok ⟨hz.1,hz.2.1⟩,h.1.2⟩,?_⟩,by omega⟩
 intro e he
 rcases List.mem_append.1 he with he|he
 ·exact h.2 e he
 ·simp at he;subst he;exact hz.2.2
theorem Uj{t:List UInt8}{i br:Int}{l:List Sg}{n:Nat}{c:UInt8}(hc:t[i.toNat]? =some c)(h:sgJ t i br l n)(hi:i<t.length)(h32:c.toNat≠32)(h10:c.toNat≠10)
 (hok:(Bb (t.drop i.toNat)).ok=false):BX t=none:=by
 obtain⟨m,rfl⟩:=Qt h.1.1 hi
 exact a9B hc h.1.1 hi h32 h10 hok h.1.2
def sgQ(t:List UInt8)(l:List Sg):Prop:=(BX t=some l∧sgB l)∨(BX t=none∧l=[])
theorem Qx{t:List UInt8}{i br:Int}{l:List Sg}{n:Nat}(h:sgJ t i br l n)(hi:¬i<t.length):(BX t).isSome=true∧sgQ t l:=by
 have a:=a9C h.1.1 hi h.1.2
 have b:=IT h
 exact⟨by rw[a];rfl,.inl ⟨a,by omega,h.2⟩⟩
theorem JK{t:List UInt8}(h:BX t=none):(BX t).isSome=false∧sgQ t []:=⟨by rw[h];rfl,.inr ⟨h,rfl⟩⟩
theorem Qy{t:List UInt8}(h:(t.length:Int)>3000):BX t=none:=a9D (by omega)
theorem a9F{T0 T1 T2 T3:Type}{p q:ST×T0×T1×T2×T3→Prop}(a:List Sg)(b:Int)(c:List (Int×Int))(v0:T0)(v1:T1)(v2:T2)(v3:T3)(h2:q (⟨a,b,c⟩,v0,v1,v2,v3))(h1:p (⟨a,b,c⟩,v0,v1,v2,v3)):∃x,p x∧q x:=⟨_,h1,h2⟩
theorem a9G{T0 T1 T2 T3 T4:Type}{p q:ST×T0×T1×T2×T3×T4→Prop}(a:List Sg)(b:Int)(c:List (Int×Int))(v0:T0)(v1:T1)(v2:T2)(v3:T3)(v4:T4)(h2:q (⟨a,b,c⟩,v0,v1,v2,v3,v4))(h1:p (⟨a,b,c⟩,v0,v1,v2,v3,v4)):∃x,p x∧q x:=⟨_,h1,h2⟩
theorem a9H{T0 T1 T2 T3 T4 T5:Type}{p q:ST×T0×T1×T2×T3×T4×T5→Prop}(a:List Sg)(b:Int)(c:List (Int×Int))(v0:T0)(v1:T1)(v2:T2)(v3:T3)(v4:T4)(v5:T5)(h2:q (⟨a,b,c⟩,v0,v1,v2,v3,v4,v5))(h1:p (⟨a,b,c⟩,v0,v1,v2,v3,v4,v5)):∃x,p x∧q x:=⟨_,h1,h2⟩
theorem a9I{T0 T1 T2 T3 T4 T5 T6:Type}{p q:ST×T0×T1×T2×T3×T4×T5×T6→Prop}(a:List Sg)(b:Int)(c:List (Int×Int))(v0:T0)(v1:T1)(v2:T2)(v3:T3)(v4:T4)(v5:T5)(v6:T6)(h2:q (⟨a,b,c⟩,v0,v1,v2,v3,v4,v5,v6))(h1:p (⟨a,b,c⟩,v0,v1,v2,v3,v4,v5,v6)):∃x,p x∧q x:=⟨_,h1,h2⟩
theorem a9J{T0 T1 T2 T3 T4 T5 T6 T7:Type}{p q:ST×T0×T1×T2×T3×T4×T5×T6×T7→Prop}(a:List Sg)(b:Int)(c:List (Int×Int))(v0:T0)(v1:T1)(v2:T2)(v3:T3)(v4:T4)(v5:T5)(v6:T6)(v7:T7)(h2:q (⟨a,b,c⟩,v0,v1,v2,v3,v4,v5,v6,v7))(h1:p (⟨a,b,c⟩,v0,v1,v2,v3,v4,v5,v6,v7)):∃x,p x∧q x:=⟨_,h1,h2⟩
abbrev iF {α β:Type} (i:Int×Int×Bool×List Nd×α×β):Gs:=⟨i.1,i.2.1,i.2.2.1,i.2.2.2.1⟩
theorem a0V{sg:List Sg}:Dj sg ⟨0,0,false,[]⟩ [] [] (sg.length+1):=a9e
theorem Uk{sg:List Sg}{y:Gs}{ks:List Int}{ms:List (Int×Int)}{N:Nat}{b:Bool}{z:Int×Gs}(h:Dj sg y ks ms N)(hb:y.bad=false)(hl:y.pos<sg.length)(hz:Ae sg y (De sg b) z)(e:b=((pkG sg y 0).blank&&decide (0<(ks.length:Int)))):
 Dj sg z.2 (ks++[z.1]) (ms++[(y.pos,z.2.pos)]) (N-1)∧N-1<N:=by
 subst e
 exact GP (a9f h hb hl (z:=z) (by
  have:decide (0<ks.length)=decide (0<(ks.length:Int)):=by simp
  rw[this];exact hz))
theorem Ul{s:ST}{y:Gs}{ks:List Int}{ms:List (Int×Int)}{N:Nat}(hs:sgB s.sg)(h:Dj s.sg y ks ms N):okD s y:=⟨⟨hs,h.1⟩,by have:=h.2.1;omega⟩
theorem Um{sg:List Sg}{y:Gs}{ks:List Int}{ms:List (Int×Int)}{N:Nat}(hs:sgB sg)(h:Dj sg y ks ms N):ks.length≤3001∧ms.length=ks.length∧0≤y.pos∧y.pos≤sg.length:=by
 have h1:=h.1.1;have h2:=hs.1;have h3:=h.2.2.2.2.1;have h4:=h.2.2.2.2.2.2
 omega
def flJ(sg:List Sg)(y:Gs)(ks:List Int)(ms:List (Int×Int))(N M:Nat):Prop:=Dj sg y ks ms N∧N<M
theorem a0W{sg:List Sg}{y:Gs}{ks:List Int}{ms:List (Int×Int)}{N M:Nat}(h:Dj sg y ks ms N∧N<M):flJ sg y ks ms N M:=h
def NP(x:List Sg×Int):LS:= {
 ι:=Int×Int×Bool×List Nd×List Int×List (Int×Int)×Nat,inv:=fun i=>Dj x.1 (iF i) i.2.2.2.2.1 i.2.2.2.2.2.1 i.2.2.2.2.2.2,regs:=fun i=>[(0,rdG ⟨x.1,x.2,i.2.2.2.2.2.1⟩ (iF i)),(2,Ad i.2.2.2.2.1)],als:=[],meas:=fun i=>i.2.2.2.2.2.2,
 sub:=fun j=>[(100005,{ι:=Int×Int×Bool×List Nd×List Int×List (Int×Int)×Nat,inv:=fun i=>flJ x.1 (iF i) i.2.2.2.2.1 i.2.2.2.2.2.1 i.2.2.2.2.2.2 j.2.2.2.2.2.2,regs:=fun i=>[(0,rdG ⟨x.1,x.2,i.2.2.2.2.2.1⟩ (iF i)),(2,Ad i.2.2.2.2.1)],als:=[],meas:=fun _=>0})]}
attribute [local irreducible] pE Bg CL fnR Ae Bh gsOk Al Bn Ah BW CS Ai Cu Da Au Bw pkG isG nmG BP BQ Dd FO CZ BZ BE stR CE Ey EK CN De EY Bu Dj sgJ
def KY:Sig:= {X:=List Sg×Int,args:=fun x=>[rdG ⟨x.1,x.2,[]⟩ ⟨0,0,false,[]⟩],pre:=fun x=>sgB x.1,Y:=Int×Int×Bool×List Nd×List Int×List (Int×Int)×Nat,post:=fun x y=>Dj x.1 (iF y) y.2.2.2.2.1 y.2.2.2.2.2.1 y.2.2.2.2.2.2∧((iF y).bad=true∨¬(iF y).pos<x.1.length),res:=fun x y=> .tup [],outs:=fun x y=>[rdG ⟨x.1,x.2,y.2.2.2.2.2.1⟩ (BJ x.1 (iF y) y.2.2.2.2.1)],keep:=true}
theorem a9K:Aq G Tryz.prog 66 KY:=
 vcFun_okP [(103,0,Cm),(102,0,Ih),(104,0,BR)] [(45,⟨Int,Ba⟩),(62,⟨Int×Int,fun p=>[.int .i64 p.1,.int .i64 p.2]⟩)] false (fun x=>[(1,NP x)]) Tryz.func66 rfl (by decide) ⟨GK,a9w,Gl,trivial⟩ (fun(x:List Sg×Int)=>True∧eA (NP x) [.box 0 [sgs x.1,.int .i64 x.2,.int .i64 (0:Int),.int .i64 (0:Int),.bool false,As [],mbs []],.nil]∧∀(i:Int×Int×Bool×List Nd×List Int×List (Int×Int)×Nat),Dj x.1 (iF i) i.2.2.2.2.1 i.2.2.2.2.2.1 i.2.2.2.2.2.2→true=true∧true=true∧Aa (!(iF i).bad) (Aa (decide ((iF i).pos<(↑(List.length x.1):Int))) (cA Cm [.box 0 [sgs x.1,.int .i64 x.2,.int .i64 (iF i).pos,.int .i64 (iF i).deep,.bool (iF i).bad,As (iF i).nodes,mbs i.2.2.2.2.2.1]] fun x_1 y=>Aa (pkG x_1.1.sg (xg x_1) (0:Int)).blank (cA Ih [rdG x_1.1 (xg x_1),.bool (decide ((↑(List.length i.2.2.2.2.1):Int)>(0:Int))),.bool true] fun x_2 y=>∃(x_3:Int),y.1=x_3∧∃(zs:List Int),Ad [x_3]=Ad zs∧Bt Ba∧AW (List.length i.2.2.2.2.1+List.length zs) (8:Nat)∧true=true∧((∃(x_4:Int×Int),(iF i).pos=x_4.1∧(yG y.2).pos=x_4.2∧∃(zs_1:List (Int×Int)),mbs [x_4]=mbs zs_1∧(Bt fun(p:Int×Int)=>[.int .i64 p.1,.int .i64 p.2])∧AW (List.length x_2.1.ms+List.length zs_1) (16:Nat)∧true=true∧∃(i_1:Int×Int×Bool×List Nd×List Int×List (Int×Int)×Nat),flJ x.1 (iF i_1) i_1.2.2.2.2.1 i_1.2.2.2.2.2.1 i_1.2.2.2.2.2.2 i.2.2.2.2.2.2∧(sgs x_2.1.sg=sgs x.1∧x_2.1.z=x.2∧(yG y.2).pos=(iF i_1).pos∧(yG y.2).deep=(iF i_1).deep∧(yG y.2).bad=(iF i_1).bad∧As (yG y.2).nodes=As (iF i_1).nodes∧mbs (x_2.1.ms++zs_1)=mbs i_1.2.2.2.2.2.1∧Ad (i.2.2.2.2.1++zs)=Ad i_1.2.2.2.2.1∧True)∧True)∧(∃(x_4:Int×Int),(iF i).pos=x_4.1∧(yG y.2).pos=x_4.2∧∃(zs_1:List (Int×Int)),mbs [x_4]=mbs zs_1∧(Bt fun(p:Int×Int)=>[.int .i64 p.1,.int .i64 p.2])∧AW (List.length x_2.1.ms+List.length zs_1) (16:Nat)∧true=true∧∃(i_1:Int×Int×Bool×List Nd×List Int×List (Int×Int)×Nat),flJ x.1 (iF i_1) i_1.2.2.2.2.1 i_1.2.2.2.2.2.1 i_1.2.2.2.2.2.2 i.2.2.2.2.2.2∧(sgs x_2.1.sg=sgs x.1∧x_2.1.z=x.2∧(yG y.2).pos=(iF i_1).pos∧(yG y.2).deep=(iF i_1).deep∧(yG y.2).bad=(iF i_1).bad∧As (yG y.2).nodes=As (iF i_1).nodes∧mbs (x_2.1.ms++zs_1)=mbs i_1.2.2.2.2.2.1∧Ad (i.2.2.2.2.1++zs)=Ad i_1.2.2.2.2.1∧True)∧True)∧(∃(x_4:Int×Int),(iF i).pos=x_4.1∧(yG y.2).pos=x_4.2∧∃(zs_1:List (Int×Int)),mbs [x_4]=mbs zs_1∧(Bt fun(p:Int×Int)=>[.int .i64 p.1,.int .i64 p.2])∧AW (List.length x_2.1.ms+List.length zs_1) (16:Nat)∧true=true∧∃(i_1:Int×Int×Bool×List Nd×List Int×List (Int×Int)×Nat),flJ x.1 (iF i_1) i_1.2.2.2.2.1 i_1.2.2.2.2.2.1 i_1.2.2.2.2.2.2 i.2.2.2.2.2.2∧(sgs x_2.1.sg=sgs x.1∧x_2.1.z=x.2∧(yG y.2).pos=(iF i_1).pos∧(yG y.2).deep=(iF i_1).deep∧(yG y.2).bad=(iF i_1).bad∧As (yG y.2).nodes=As (iF i_1).nodes∧mbs (x_2.1.ms++zs_1)=mbs i_1.2.2.2.2.2.1∧Ad (i.2.2.2.2.1++zs)=Ad i_1.2.2.2.2.1∧True)∧True)∧∃(x_4:Int×Int),(iF i).pos=x_4.1∧(yG y.2).pos=x_4.2∧∃(zs_1:List (Int×Int)),mbs [x_4]=mbs zs_1∧(Bt fun(p:Int×Int)=>[.int .i64 p.1,.int .i64 p.2])∧AW (List.length x_2.1.ms+List.length zs_1) (16:Nat)∧true=true∧∃(i_1:Int×Int×Bool×List Nd×List Int×List (Int×Int)×Nat),flJ x.1 (iF i_1) i_1.2.2.2.2.1 i_1.2.2.2.2.2.1 i_1.2.2.2.2.2.2 i.2.2.2.2.2.2∧(sgs x_2.1.sg=sgs x.1∧x_2.1.z=x.2∧(yG y.2).pos=(iF i_1).pos∧(yG y.2).deep=(iF i_1).deep∧(yG y.2).bad=(iF i_1).bad∧As (yG y.2).nodes=As (iF i_1).nodes∧mbs (x_2.1.ms++zs_1)=mbs i_1.2.2.2.2.2.1∧Ad (i.2.2.2.2.1++zs)=Ad i_1.2.2.2.2.1∧True)∧True)∧∀(i_1:Int×Int×Bool×List Nd×List Int×List (Int×Int)×Nat),flJ x.1 (iF i_1) i_1.2.2.2.2.1 i_1.2.2.2.2.2.1 i_1.2.2.2.2.2.2 i.2.2.2.2.2.2→eN (NP x) i [.box 0 [sgs x.1,.int .i64 x.2,.int .i64 (iF i_1).pos,.int .i64 (iF i_1).deep,.bool (iF i_1).bad,As (iF i_1).nodes,mbs i_1.2.2.2.2.2.1],Ad i_1.2.2.2.2.1]) (cA Ih [rdG x_1.1 (xg x_1),.bool false,.bool true] fun x_2 y=>∃(x_3:Int),y.1=x_3∧∃(zs:List Int),Ad [x_3]=Ad zs∧Bt Ba∧AW (List.length i.2.2.2.2.1+List.length zs) (8:Nat)∧true=true∧((∃(x_4:Int×Int),(iF i).pos=x_4.1∧(yG y.2).pos=x_4.2∧∃(zs_1:List (Int×Int)),mbs [x_4]=mbs zs_1∧(Bt fun(p:Int×Int)=>[.int .i64 p.1,.int .i64 p.2])∧AW (List.length x_2.1.ms+List.length zs_1) (16:Nat)∧true=true∧∃(i_1:Int×Int×Bool×List Nd×List Int×List (Int×Int)×Nat),flJ x.1 (iF i_1) i_1.2.2.2.2.1 i_1.2.2.2.2.2.1 i_1.2.2.2.2.2.2 i.2.2.2.2.2.2∧(sgs x_2.1.sg=sgs x.1∧x_2.1.z=x.2∧(yG y.2).pos=(iF i_1).pos∧(yG y.2).deep=(iF i_1).deep∧(yG y.2).bad=(iF i_1).bad∧As (yG y.2).nodes=As (iF i_1).nodes∧mbs (x_2.1.ms++zs_1)=mbs i_1.2.2.2.2.2.1∧Ad (i.2.2.2.2.1++zs)=Ad i_1.2.2.2.2.1∧True)∧True)∧(∃(x_4:Int×Int),(iF i).pos=x_4.1∧(yG y.2).pos=x_4.2∧∃(zs_1:List (Int×Int)),mbs [x_4]=mbs zs_1∧(Bt fun(p:Int×Int)=>[.int .i64 p.1,.int .i64 p.2])∧AW (List.length x_2.1.ms+List.length zs_1) (16:Nat)∧true=true∧∃(i_1:Int×Int×Bool×List Nd×List Int×List (Int×Int)×Nat),flJ x.1 (iF i_1) i_1.2.2.2.2.1 i_1.2.2.2.2.2.1 i_1.2.2.2.2.2.2 i.2.2.2.2.2.2∧(sgs x_2.1.sg=sgs x.1∧x_2.1.z=x.2∧(yG y.2).pos=(iF i_1).pos∧(yG y.2).deep=(iF i_1).deep∧(yG y.2).bad=(iF i_1).bad∧As (yG y.2).nodes=As (iF i_1).nodes∧mbs (x_2.1.ms++zs_1)=mbs i_1.2.2.2.2.2.1∧Ad (i.2.2.2.2.1++zs)=Ad i_1.2.2.2.2.1∧True)∧True)∧(∃(x_4:Int×Int),(iF i).pos=x_4.1∧(yG y.2).pos=x_4.2∧∃(zs_1:List (Int×Int)),mbs [x_4]=mbs zs_1∧(Bt fun(p:Int×Int)=>[.int .i64 p.1,.int .i64 p.2])∧AW (List.length x_2.1.ms+List.length zs_1) (16:Nat)∧true=true∧∃(i_1:Int×Int×Bool×List Nd×List Int×List (Int×Int)×Nat),flJ x.1 (iF i_1) i_1.2.2.2.2.1 i_1.2.2.2.2.2.1 i_1.2.2.2.2.2.2 i.2.2.2.2.2.2∧(sgs x_2.1.sg=sgs x.1∧x_2.1.z=x.2∧(yG y.2).pos=(iF i_1).pos∧(yG y.2).deep=(iF i_1).deep∧(yG y.2).bad=(iF i_1).bad∧As (yG y.2).nodes=As (iF i_1).nodes∧mbs (x_2.1.ms++zs_1)=mbs i_1.2.2.2.2.2.1∧Ad (i.2.2.2.2.1++zs)=Ad i_1.2.2.2.2.1∧True)∧True)∧∃(x_4:Int×Int),(iF i).pos=x_4.1∧(yG y.2).pos=x_4.2∧∃(zs_1:List (Int×Int)),mbs [x_4]=mbs zs_1∧(Bt fun(p:Int×Int)=>[.int .i64 p.1,.int .i64 p.2])∧AW (List.length x_2.1.ms+List.length zs_1) (16:Nat)∧true=true∧∃(i_1:Int×Int×Bool×List Nd×List Int×List (Int×Int)×Nat),flJ x.1 (iF i_1) i_1.2.2.2.2.1 i_1.2.2.2.2.2.1 i_1.2.2.2.2.2.2 i.2.2.2.2.2.2∧(sgs x_2.1.sg=sgs x.1∧x_2.1.z=x.2∧(yG y.2).pos=(iF i_1).pos∧(yG y.2).deep=(iF i_1).deep∧(yG y.2).bad=(iF i_1).bad∧As (yG y.2).nodes=As (iF i_1).nodes∧mbs (x_2.1.ms++zs_1)=mbs i_1.2.2.2.2.2.1∧Ad (i.2.2.2.2.1++zs)=Ad i_1.2.2.2.2.1∧True)∧True)∧∀(i_1:Int×Int×Bool×List Nd×List Int×List (Int×Int)×Nat),flJ x.1 (iF i_1) i_1.2.2.2.2.1 i_1.2.2.2.2.2.1 i_1.2.2.2.2.2.2 i.2.2.2.2.2.2→eN (NP x) i [.box 0 [sgs x.1,.int .i64 x.2,.int .i64 (iF i_1).pos,.int .i64 (iF i_1).deep,.bool (iF i_1).bad,As (iF i_1).nodes,mbs i_1.2.2.2.2.2.1],Ad i_1.2.2.2.2.1])) (cA BR [.box 0 [sgs x.1,.int .i64 x.2,.int .i64 (iF i).pos,.int .i64 (iF i).deep,.bool (iF i).bad,As (iF i).nodes,mbs i.2.2.2.2.2.1],.agg [.int .i64 (22:Int),.str #[].toList,Ad i.2.2.2.2.1,.bool false]] fun x_1 y=>rA KY x [.tup [],rdG x_1.1 (Ah (xh x_1) {kind:=x_1.2.2.2.2.2.1,text:=x_1.2.2.2.2.2.2.1,kids:=x_1.2.2.2.2.2.2.2.1,blank:=x_1.2.2.2.2.2.2.2.2})])) (cA BR [.box 0 [sgs x.1,.int .i64 x.2,.int .i64 (iF i).pos,.int .i64 (iF i).deep,.bool (iF i).bad,As (iF i).nodes,mbs i.2.2.2.2.2.1],.agg [.int .i64 (22:Int),.str #[].toList,Ad i.2.2.2.2.1,.bool false]] fun x_1 y=>rA KY x [.tup [],rdG x_1.1 (Ah (xh x_1) {kind:=x_1.2.2.2.2.2.1,text:=x_1.2.2.2.2.2.2.1,kids:=x_1.2.2.2.2.2.2.2.1,blank:=x_1.2.2.2.2.2.2.2.2})])) (fun x=>by kernel_rfl) fun(x:List Sg×Int) (hx:sgB x.1)=>(by
 dsimp only[cA,eA,eN,NP,mbs,Bf,Ad,As,rA,rdG,BR,KY,Ih,Cm,Br,sgs,Av,Az,mvL,lnL,mvE,lnE,BA]
 obtain⟨sg,z⟩:=x;dsimp only[iF] at hx ⊢
 have hx:sgB sg:=hx
 (repeat' first|(apply a9J<;>try dsimp only)|(apply a9I<;>try dsimp only)|(apply a9H<;>try dsimp only)|(apply a9G<;>try dsimp only)|(apply a9F<;>try dsimp only)|(with_reducible first|rfl|exact True.intro|apply AK|apply And.intro|((first|apply AA|apply AI|apply AB|apply AJ)<;>intro _))|(apply Ax<;>intro _)|apply AH|refine Af () ?_ ?_|((first|apply AO|apply AN|apply AM|apply AL|apply AG|apply AF|apply AE|apply AD|apply AC)<;>try dsimp only)|apply Af|(refine Prod.forall.2 ?_;intro _;try dsimp only)|(intro _;try dsimp only))
 all_goals(try dsimp only[xg,xh,yG,yS,iG,iF] at*)
 all_goals(try simp only[CG] at*)
 all_goals first
  |(show Nat;skip)
  |rfl
  |exact hx
  |exact a0V
  |assumption
  |exact Ul (s:=⟨sg,z,_⟩) hx ‹_›
  |exact(Ul (s:=⟨sg,z,_⟩) hx ‹_›).1
  |exact a0W (Uk ‹_› ‹_› (by omega) ‹_› (Gn ‹_›))
  |exact a0W (Uk ‹_› ‹_› (by omega) ‹_› (Gp ‹_›))
  |exact(show flJ _ _ _ _ _ _ by assumption).1
  |exact(show flJ _ _ _ _ _ _ by assumption).2
  |exact .inl ‹_›
  |exact .inr ‹_›
  |(have hq:=Um hx (show Dj _ _ _ _ _ by assumption);(try simp only[AW,List.length_append,List.length_cons,List.length_nil]);omega)
  |skip)
def JL:Sig:= {X:=List UInt8,args:=fun x=>[.str x],pre:=fun x=>x.length<2^62,Y:=List Sg×Int,post:=fun x y=>sgQ x y.1,res:=fun x y=> .tup [sgs y.1,.int .i64 y.2,.bool (BX x).isSome],outs:=fun x y=>[.top],keep:=true}
def Mo(x:List UInt8):LS:= {ι:=Int×Int×List Sg×Nat,inv:=fun i=>sgJ x i.1 i.2.1 i.2.2.1 i.2.2.2,regs:=fun i=>[(0,.str x),(5,DL i.2.2.1),(6,.int .i64 i.2.1),(7,.int .i64 i.1)],als:=[],meas:=fun i=>i.2.2.2}
theorem a9L:Aq G Tryz.prog 24 JL:=
 vcFun_okP [(50,0,FG)] [(36,⟨Sg,sgA⟩)] false (fun x=>[(6,Mo x)]) Tryz.func24 rfl (by decide) ⟨XG,trivial⟩ (fun(x:List UInt8)=>True∧Aa (decide ((↑(List.length x):Int)>(3000:Int))) (rA JL x [.tup [.nil,.int .i64 (3000:Int),.bool false],.top]) (eA (Mo x) [.str x,.nil,.int .i64 (0:Int),.int .i64 (0:Int)]∧∀(i:Int×Int×List Sg×Nat),sgJ x i.1 i.2.1 i.2.2.1 i.2.2.2→Aa (decide (i.1<(↑(List.length x):Int))) (((0:Int)≤i.1∧i.1<(↑(List.length x):Int))∧∀(c:UInt8),x[Int.toNat i.1]? =some c→Aa ((↑(UInt8.toNat c):Int)==(32:Int)) (inR IntKind.i64 (i.1+(1:Int))∧eN (Mo x) i [.str x,DL i.2.2.1,.int .i64 i.2.1,.int .i64 (i.1+(1:Int))]) (Aa ((↑(UInt8.toNat c):Int)==(10:Int)) (inR IntKind.i64 (i.1+(1:Int))∧inR IntKind.i64 (i.2.1+(1:Int))∧eN (Mo x) i [.str x,DL i.2.2.1,.int .i64 (i.2.1+(1:Int)),.int .i64 (i.1+(1:Int))]) (((0:Int)≤i.1∧i.1≤(↑(List.length x):Int)∧(↑(List.length x):Int)≤(↑(List.length x):Int))∧cA FG [.str (List.drop (Int.toNat i.1) x)] fun x_1 y=>Aa (!(Bb x_1).ok) (rA JL x [.tup [.nil,.int .i64 i.1,.bool false],.top]) (∃(x_2:Sg),(Bb x_1).kind=x_2.kind∧(Bb x_1).text=x_2.text∧i.1=x_2.pos∧decide (i.2.1>(1:Int))=x_2.blank∧∃(zs:List Sg),DL [x_2]=DL zs∧Bt sgA∧AW (List.length i.2.2.1+List.length zs) (40:Nat)∧inR IntKind.i64 (i.1+(Bb x_1).size)∧eN (Mo x) i [.str x,DL (i.2.2.1++zs),.int .i64 (0:Int),.int .i64 (i.1+(Bb x_1).size)])))) (rA JL x [.tup [DL i.2.2.1,.int .i64 (0:Int),.bool true],.top]))) (fun x=>by kernel_rfl) fun(x:List UInt8) (hx:x.length<2^62)=>(by
 dsimp only[cA,eA,eN,Mo,DL,rA,JL,FG,Br,sgs,Av,Az,mvL,lnL,mvE,lnE,BA]
 have hx:x.length<2^62:=hx
 (repeat' first|(with_reducible first|rfl|exact True.intro|apply AK|apply And.intro|((first|apply AA|apply AI|apply AB|apply AJ)<;>intro _))|(apply Ax<;>intro _)|apply AH|refine Af () ?_ ?_|((first|apply AO|apply AN|apply AM|apply AL|apply AG|apply AF|apply AE|apply AD|apply AC)<;>try dsimp only)|apply Af|(refine Prod.forall.2 ?_;intro _;try dsimp only)|(intro _;try dsimp only))
 all_goals first
  |(show Nat;skip)
  |rfl
  |exact a0U ‹_›
  |exact(JK (Qy ‹_›)).2
  |exact(JK (Qy ‹_›)).1.symm
  |exact(Qv ‹_› ‹_› ‹_› (by omega)).1
  |exact(Qw ‹_› ‹_› ‹_› (by omega)).1
  |exact(Ui ‹_› ‹_› ‹_› (by omega) (by omega) ‹_›).1
  |exact(JK (Uj ‹_› ‹_› ‹_› (by omega) (by omega) ‹_›)).2
  |exact(JK (Uj ‹_› ‹_› ‹_› (by omega) (by omega) ‹_›)).1.symm
  |exact(Qx ‹_› ‹_›).2
  |exact(Qx ‹_› ‹_›).1.symm
  |(have hq:=IT (show sgJ _ _ _ _ _ by assumption);(try simp only[AR,List.length_drop]);omega)
  |(have hj:=(show sgJ _ _ _ _ _ by assumption);have hq:=IT hj;have hz:=Uh hj ‹_›;(try simp only[AR,List.length_drop]);omega)
  |(have hq:=IT (show sgJ _ _ _ _ _ by assumption);(try simp only[AW,List.length_append,List.length_cons,List.length_nil]);omega)
  |skip
 all_goals first
  |exact(Qv ‹_› ‹_› ‹_› (by omega)).2
  |exact(Qw ‹_› ‹_› ‹_› (by omega)).2
  |exact(Ui ‹_› ‹_› ‹_› (by omega) (by omega) ‹_›).2
  |rfl
  |skip)
end Go.My
end
section
set_option linter.unusedVariables false
set_option linter.unusedSimpArgs false
namespace Go.My
open Go.Eng Go.Proofs
variable {G:GInv}
def rsQ(t:List UInt8)(sg:List Sg)(ms:List (Int×Int))(g:Gs):Prop:=(g.bad=true∧CI t=none)∨((g.bad=false∧sgB sg∧BX t=some sg)∧IC sg=some (ms,g.nodes)∧Cy g.nodes)
theorem Un{sg:List Sg}{g:Gs}(h:gsOk sg g):Cy g.nodes∧g.nodes.length≤300:=by
 refine⟨⟨by have:=h.2.2.1;omega,fun x hx=> ?_⟩,h.2.2.1⟩
 have:=h.2.2.2 x hx
 exact⟨by have:=this.1;omega,by have:=this.2;omega⟩
theorem a9M{t:List UInt8}{l:List Sg}(h:sgQ t l)(hn:(BX t).isSome=false):rsQ t l [] ⟨0,0,!(BX t).isSome,[]⟩:=by
 refine .inl ⟨by simp [hn],?_⟩
 rw[CI]
 cases hs:BX t with
 |none=>rfl
 |some l=>rw[hs] at hn;cases hn
theorem JM{t:List UInt8}{l:List Sg}(h:sgQ t l)(hn:(BX t).isSome=true):BX t=some l∧sgB l:=by
 rcases h with h|h
 ·exact h
 ·rw[h.1] at hn;cases hn
theorem a0X{t:List UInt8}{l:List Sg}{y:Gs}{ks:List Int}{ms:List (Int×Int)}{N:Nat}(h:sgQ t l)(hn:(BX t).isSome=true)(hf:Dj l y ks ms N∧(y.bad=true∨¬y.pos<l.length))(hb:(BJ l y ks).bad=true):rsQ t l ms (BJ l y ks):=by
 refine .inl ⟨hb,?_⟩
 rw[CI,(JM h hn).1]
 simp only[Option.bind_some,a9g hf.1 hb hf.2];rfl
theorem Qz{l:List Sg}{y:Gs}{ks:List Int}{ms:List (Int×Int)}{N:Nat}(hs:sgB l)(h:Dj l y ks ms N):Cq ⟨22,[],ks,false⟩:=⟨by simp,by have:=(Um hs h).1;simp only;omega⟩
theorem a0Y{t:List UInt8}{l:List Sg}{y:Gs}{ks:List Int}{ms:List (Int×Int)}{N:Nat}(h:sgQ t l)(hn:(BX t).isSome=true)(hf:Dj l y ks ms N∧(y.bad=true∨¬y.pos<l.length))(hb:(BJ l y ks).bad=false):
 rsQ t l ms ⟨(BJ l y ks).pos,(BJ l y ks).deep,!Dn (BJ l y ks).nodes,(BJ l y ks).nodes⟩:=by
 have hk:=Qz (JM h hn).2 hf.1
 have e:=a9h hf.1 hb hf.2
 cases htr:Dn (BJ l y ks).nodes with
 |false=>
  rw[htr] at e
  refine .inl ⟨rfl,?_⟩
  rw[CI,(JM h hn).1]
  simp only[Option.bind_some,e];rfl
 |true=>
  rw[htr] at e
  exact .inr ⟨⟨rfl,(JM h hn).2,(JM h hn).1⟩,e,(Un (Ib hf.1.1 hk)).1⟩
theorem a0Z{t:List UInt8}{l:List Sg}{y:Gs}{ks:List Int}{ms:List (Int×Int)}{N:Nat}(h:sgQ t l)(hn:(BX t).isSome=true)(hf:Dj l y ks ms N∧(y.bad=true∨¬y.pos<l.length)):gsOk l (BJ l y ks)∧Cq ⟨22,[],ks,false⟩:=
 have hs:=(JM h hn).2
 ⟨Ib hf.1.1 (Qz hs hf.1),Qz hs hf.1⟩
theorem a1a{t:List UInt8}{l:List Sg}{y:Gs}{ks:List Int}{ms:List (Int×Int)}{N:Nat}(h:sgQ t l)(hn:(BX t).isSome=true)(hf:Dj l y ks ms N∧(y.bad=true∨¬y.pos<l.length)):Cy (BJ l y ks).nodes∧(BJ l y ks).nodes.length≤1073741824:=by
 have a:=Un (a0Z h hn hf).1
 exact⟨a.1,by omega⟩
theorem a9N{t:List UInt8}{l:List Sg}{y:Gs}{ks:List Int}{ms:List (Int×Int)}{N:Nat}(h:sgQ t l)(hn:(BX t).isSome=true)(hf:Dj l y ks ms N∧(y.bad=true∨¬y.pos<l.length)):0≤(BJ l y ks).pos:=(a0Z h hn hf).1.1.1
theorem QA{t:List UInt8}{l:List Sg}{ms:List (Int×Int)}{g:Gs}(h:rsQ t l ms g)(hb:g.bad=true):CI t=none:=by
 rcases h with h|h
 ·exact h.2
 ·rw[h.1.1] at hb;cases hb
theorem Mp{t:List UInt8}{l:List Sg}{ms:List (Int×Int)}{g:Gs}(h:rsQ t l ms g)(hb:g.bad=false):CI t=some g.nodes∧Cy g.nodes:=by
 rcases h with h|h
 ·rw[h.1] at hb;cases hb
 ·refine⟨?_,h.2.2⟩
  rw[CI,h.1.2.2];simp only[Option.bind_some,h.2.1];rfl
attribute [local irreducible] gsOk Dj BJ CI IC BX Dn
def Hy:Sig:= {X:=List UInt8,args:=fun x=>[.str x],pre:=fun x=>x.length<2^62,Y:=List Sg×List (Int×Int)×Int×Int×Bool×List Nd×Int,post:=fun x y=>rsQ x y.1 y.2.1 ⟨y.2.2.1,y.2.2.2.1,y.2.2.2.2.1,y.2.2.2.2.2.1⟩,res:=fun x y=> .tup [rdG ⟨y.1,x.length,y.2.1⟩ ⟨y.2.2.1,y.2.2.2.1,y.2.2.2.2.1,y.2.2.2.2.2.1⟩,.int .i64 y.2.2.2.2.2.2],outs:=fun x y=>[.top],keep:=true}
theorem a9O:Aq G Tryz.prog 37 Hy:=
 vcFun_okP [(24,0,JL),(66,0,KY),(67,0,Hl)] [(36,⟨Sg,sgA⟩),(45,⟨Int,Ba⟩),(62,⟨Int×Int,fun p=>[.int .i64 p.1,.int .i64 p.2]⟩),(32,⟨Nd,ndA true⟩)] false (fun x=>[]) Tryz.func37 rfl (by decide) ⟨a9L,a9K,a6F,trivial⟩ (fun(x:List UInt8)=>True∧cA JL [.str x] fun x_1 y=>Aa (!Option.isSome (BX x_1)) (rA Hy x [.tup [.box 0 [sgs y.1,.int .i64 (↑(List.length x):Int),.int .i64 (0:Int),.int .i64 (0:Int),.bool !Option.isSome (BX x_1),.nil,.nil],.int .i64 y.2],.top]) (cA KY [.box 0 [sgs y.1,.int .i64 (↑(List.length x):Int),.int .i64 (0:Int),.int .i64 (0:Int),.bool !Option.isSome (BX x_1),.nil,.nil]] fun x_2 y_1=>Aa (BJ x_2.1 (iF y_1) y_1.2.2.2.2.1).bad (Aa (decide ((BJ x_2.1 (iF y_1) y_1.2.2.2.2.1).pos<(↑(List.length y.1):Int))) (true=true∧true=true∧((0:Int)≤(BJ x_2.1 (iF y_1) y_1.2.2.2.2.1).pos∧(BJ x_2.1 (iF y_1) y_1.2.2.2.2.1).pos<(↑(List.length y.1):Int))∧∀(e:Sg),y.1[Int.toNat (BJ x_2.1 (iF y_1) y_1.2.2.2.2.1).pos]? =some e→rA Hy x [.tup [.box 0 [sgs x_2.1,.int .i64 x_2.2,.int .i64 (BJ x_2.1 (iF y_1) y_1.2.2.2.2.1).pos,.int .i64 (BJ x_2.1 (iF y_1) y_1.2.2.2.2.1).deep,.bool (BJ x_2.1 (iF y_1) y_1.2.2.2.2.1).bad,As (BJ x_2.1 (iF y_1) y_1.2.2.2.2.1).nodes,mbs y_1.2.2.2.2.2.1],.int .i64 e.pos],.top]) (Aa (BJ x_2.1 (iF y_1) y_1.2.2.2.2.1).bad (rA Hy x [.tup [.box 0 [sgs x_2.1,.int .i64 x_2.2,.int .i64 (BJ x_2.1 (iF y_1) y_1.2.2.2.2.1).pos,.int .i64 (BJ x_2.1 (iF y_1) y_1.2.2.2.2.1).deep,.bool (BJ x_2.1 (iF y_1) y_1.2.2.2.2.1).bad,As (BJ x_2.1 (iF y_1) y_1.2.2.2.2.1).nodes,mbs y_1.2.2.2.2.2.1],.int .i64 (↑(List.length x):Int)],.top]) (cA Hl [As (BJ x_2.1 (iF y_1) y_1.2.2.2.2.1).nodes] fun x_3 y=>rA Hy x [.tup [.box 0 [sgs x_2.1,.int .i64 x_2.2,.int .i64 (BJ x_2.1 (iF y_1) y_1.2.2.2.2.1).pos,.int .i64 (BJ x_2.1 (iF y_1) y_1.2.2.2.2.1).deep,.bool !Dn x_3,As (BJ x_2.1 (iF y_1) y_1.2.2.2.2.1).nodes,mbs y_1.2.2.2.2.2.1],.int .i64 (0:Int)],.top]))) (Aa (BJ x_2.1 (iF y_1) y_1.2.2.2.2.1).bad (rA Hy x [.tup [.box 0 [sgs x_2.1,.int .i64 x_2.2,.int .i64 (BJ x_2.1 (iF y_1) y_1.2.2.2.2.1).pos,.int .i64 (BJ x_2.1 (iF y_1) y_1.2.2.2.2.1).deep,.bool (BJ x_2.1 (iF y_1) y_1.2.2.2.2.1).bad,As (BJ x_2.1 (iF y_1) y_1.2.2.2.2.1).nodes,mbs y_1.2.2.2.2.2.1],.int .i64 (↑(List.length x):Int)],.top]) (cA Hl [As (BJ x_2.1 (iF y_1) y_1.2.2.2.2.1).nodes] fun x_3 y=>rA Hy x [.tup [.box 0 [sgs x_2.1,.int .i64 x_2.2,.int .i64 (BJ x_2.1 (iF y_1) y_1.2.2.2.2.1).pos,.int .i64 (BJ x_2.1 (iF y_1) y_1.2.2.2.2.1).deep,.bool !Dn x_3,As (BJ x_2.1 (iF y_1) y_1.2.2.2.2.1).nodes,mbs y_1.2.2.2.2.2.1],.int .i64 (0:Int)],.top])))) (fun x=>by kernel_rfl) fun(x:List UInt8) (hx:x.length<2^62)=>(by
 dsimp only[cA,mbs,Bf,nds,As,DL,rA,rdG,JL,Hl,KY,Hy,Br,sgs,Av,Az,mvL,lnL,mvE,lnE]
 have hx:x.length<2^62:=hx
 (repeat' first|(with_reducible first|rfl|exact True.intro|apply AK|apply And.intro|((first|apply AA|apply AI|apply AB|apply AJ)<;>intro _))|(apply Ax<;>intro _)|apply AH|refine Af () ?_ ?_|((first|apply AO|apply AN|apply AM|apply AL|apply AG|apply AF|apply AE|apply AD|apply AC)<;>try dsimp only)|apply Af|(refine Prod.forall.2 ?_;intro _;try dsimp only)|(intro _;try dsimp only))
 all_goals(try dsimp only[iF] at*)
 all_goals first
  |rfl
  |exact hx
  |exact a9M ‹_› ‹_›
  |exact(JM ‹_› ‹_›).2
  |exact a0X ‹_› ‹_› ‹_› ‹_›
  |exact a0Y ‹_› ‹_› ‹_› ‹_›
  |(simp [*];done)
  |exact(a1a ‹_› ‹_› ‹_›).1
  |exact(a1a ‹_› ‹_› ‹_›).2
  |(have hq:=(a9N ‹_› ‹_› (show Dj _ _ _ _ _∧_ by assumption));(try dsimp only at hq);omega)
  |skip)
def KZ:Sig:= {X:=List UInt8,args:=fun x=>[.str x],pre:=fun x=>x.length<2^62,Y:=List Nd×Int,post:=fun x y=>y.1=(CI x).getD []∧Cy y.1,res:=fun x y=> .tup [nds y.1,.int .i64 y.2,.bool (CI x).isSome],outs:=fun x y=>[.top],keep:=true}
theorem a9P:Aq G Tryz.prog 22 KZ:=
 vcFun_okP [(37,0,Hy)] [(32,⟨Nd,ndA true⟩)] false (fun x=>[]) Tryz.func22 rfl (by decide) ⟨a9O,trivial⟩ (fun(x:List UInt8)=>True∧cA Hy [.str x] fun x_1 y=>Aa y.2.2.2.2.1 (rA KZ x [.tup [.nil,.int .i64 y.2.2.2.2.2.2,.bool false],.top]) (rA KZ x [.tup [As y.2.2.2.2.2.1,.int .i64 (0:Int),.bool true],.top])) (fun x=>by kernel_rfl) fun(x:List UInt8) (hx:x.length<2^62)=>(by
 dsimp only[cA,mbs,Bf,nds,As,rA,rdG,KZ,Hy,Br,sgs,Av,Az,mvL,lnL,mvE,lnE]
 have hx:x.length<2^62:=hx
 (repeat' first|(with_reducible first|rfl|exact True.intro|apply AK|apply And.intro|((first|apply AA|apply AI|apply AB|apply AJ)<;>intro _))|(apply Ax<;>intro _)|apply AH|refine Af () ?_ ?_|((first|apply AO|apply AN|apply AM|apply AL|apply AG|apply AF|apply AE|apply AD|apply AC)<;>try dsimp only)|apply Af|(refine Prod.forall.2 ?_;intro _;try dsimp only)|(intro _;try dsimp only))
 all_goals(try dsimp only[iF] at*)
 all_goals first
  |rfl
  |exact hx
  |(rw[QA ‹_› ‹_›];rfl)
  |(rw[QA ‹_› ‹_›];done)
  |(rw[(Mp ‹_› ‹_›).1];rfl)
  |(rw[(Mp ‹_› ‹_›).1];exact(Mp ‹_› ‹_›).2)
  |exact⟨by simp,by simp⟩
  |exact(Mp ‹_› ‹_›).2
  |(rw[(Mp ‹_› ‹_›).1];simp;done)
  |skip)
end Go.My
end
