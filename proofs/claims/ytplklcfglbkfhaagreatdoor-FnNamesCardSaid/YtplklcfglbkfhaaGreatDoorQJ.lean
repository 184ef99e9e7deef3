/- A part of the proof: the engine and the contracts, joined. -/
import Derived.Test.YtplklcfglbkfhaaGreatDoorQI
section
set_option linter.unusedVariables false
set_option linter.unusedSimpArgs false
namespace Go.My
open Go.Eng
def chF(sg:List Sg)(n l N:Nat)(t:List UInt8)(ks:List Int):Ps→PR:=Gf sg l (pE sg n (.chain (l+1))) N t ks
def chO(sg:List Sg)(n l:Nat)(x y:Gs)(k:Int)(N:Nat):Prop:=
 restP sg x (pE sg (n+1) (.chain l)) y (chF sg n l N [] [k]) 0∧2*((sg.length:Int)-y.pos)+3≤N∧(y.bad=false→x.pos<y.pos)
def chN(sg:List Sg)(n l:Nat)(m:List UInt8)(x y:Gs)(ks:List Int)(N:Nat):Prop:=
 restP sg x (pE sg (n+1) (.chain l)) y (chF sg n l N m ks) 0∧(2*((sg.length:Int)-y.pos)+4≤N∨(isG sg y 4 m=true∧2*((sg.length:Int)-y.pos)+3≤N))∧(ks.length:Int)≤y.pos+1∧(y.bad=false→x.pos<y.pos)
theorem b0T{sg:List Sg}{x:Gs}{n:Nat}{z:Int×Gs}(h1:Ah sg x (pE sg n .fin) z):Ah sg x (pE sg (n+1) (.chain 6)) z:=h1
theorem b0U{sg:List Sg}{x:Gs}{n l:Nat}{z:Int×Gs}(h:gsOk sg x)(hl:l≠6)(h1:Ah sg x (pE sg n (.chain (l+1))) z):chO sg n l x z.2 z.1 (2*sg.length+4):=by
 have k1:=DI (CO (f:=pE sg (n+1) (.chain l)) h) (g':=fun s=>(pE sg n (.chain (l+1)) s).bind fun p=>Gf sg l (pE sg n (.chain (l+1))) (2*sg.length+4) [] [p.1] p.2) (fun s _=>by rw[b0G,if_neg hl])
 have k2:=BM (k:=fun k s=>chF sg n l (2*sg.length+4) [] [k] s) k1 h1.1 (fun _ _=>rfl)
 have:=k2.1.1
 exact⟨k2,by omega,h1.2⟩
def CP(sg:List Sg)(l:Nat)(g:Gs):List UInt8:=((BI l).find? fun m=>isG sg g 4 m).getD []
theorem JC{sg:List Sg}{l:Nat}{g:Gs}{s:Ps}(hs:pur g=some s):IG sg l s=CP sg l g:=by
 unfold IG CP
 congr 2
 funext m
 exact(QQ hs).symm
theorem chMG_t{sg:List Sg}{l:Nat}{g:Gs}(hb:g.bad=true):CP sg l g=[]:=by
 unfold CP
 rw[List.find?_eq_none.2 (by intro m _;rw[a0B (DG hb) (by omega)];simp)];rfl
theorem b0V{l:Nat}{m:List UInt8}(h:m∈BI l):m≠[]:=by
 unfold BI at h
 split at h<;>simp at h<;>(first|(subst h;simp)|(rcases h with rfl|rfl<;>simp))
theorem JD{sg:List Sg}{l:Nat}{g:Gs}(h:CP sg l g≠[]):isG sg g 4 (CP sg l g)=true∧CP sg l g∈BI l:=by
 unfold CP at h ⊢
 cases hf:(BI l).find? fun m=>isG sg g 4 m with
 |none=>rw[hf] at h;exact(h rfl).elim
 |some m=>exact⟨by simpa using List.find?_some hf,by simpa using List.mem_of_find?_eq_some hf⟩
theorem b0W{sg:List Sg}{g:Gs}{m m':List UInt8}(h:isG sg g 4 m=true)(h':isG sg g 4 m'=true):m=m':=by
 simp [isG] at h h';rw[←h.2,h'.2]
theorem b0X{sg:List Sg}{l:Nat}{g:Gs}{m:List UInt8}(hm:m∈BI l)(h:isG sg g 4 m=true):CP sg l g=m:=by
 unfold CP
 cases hf:(BI l).find? fun m=>isG sg g 4 m with
 |none=>exact(List.find?_eq_none.1 hf m hm (by simpa using h)).elim
 |some m'=>exact(b0W (by simpa using List.find?_some hf) h)
def enI(sg:List Sg)(n:Nat)(x y:Gs)(k:Int)(N:Nat):Prop:=
 restP sg x (pE sg (n+1) .fin) y (FF sg (pE sg n .value) N k) 0∧(y.bad=false→(sg.length:Int)-y.pos<N)∧(y.bad=false→x.pos<y.pos)
theorem b0Y{sg:List Sg}{x:Gs}{n:Nat}{z:Int×Gs}(h:gsOk sg x)(h1:Ah sg x (pE sg n .base) z):enI sg n x z.2 z.1 (sg.length+1):=by
 have k1:=BM (k:=fun k s=>FF sg (pE sg n .value) (sg.length+1) k s) (CO (f:=pE sg (n+1) .fin) h) h1.1 (fun _ _=>rfl)
 have:=k1.1.1
 exact⟨k1,fun _=>by omega,h1.2⟩
theorem OH{sg:List Sg}{n:Nat}{x y:Gs}{k:Int}{N:Nat}(h:enI sg n x y k N)(hb:y.bad=false):∃M,N=M+1:=by
 have h1:=h.1.1.1;have h2:=h.2.1 hb
 match N with
 |0=>omega
 |M+1=>exact⟨M,rfl⟩
theorem b0Z{sg:List Sg}{n:Nat}{x y:Gs}{k a:Int}{N:Nat}(h:enI sg n x y k N)(hb:y.bad=true):Ah sg x (pE sg (n+1) .fin) (a,y):=
 ⟨OF h.1 hb,fun hb2=>by simp only at hb2;rw[hb] at hb2;cases hb2⟩
theorem b1a{sg:List Sg}{n:Nat}{x y:Gs}{k:Int}{N:Nat}{w:Int×Gs}(h:enI sg n x y k N)(hq:isG sg y 4 [40]=true)(hw:Ah sg y (CJ sg (pE sg n .value) k) w):
 ∃M,N=M+1∧enI sg n x w.2 w.1 M:=by
 have hl:=CM hq (by omega)
 obtain⟨M,rfl⟩:=OH h hl.1
 obtain⟨h1,hN,hb⟩:=h
 have k1:=DI h1 (g':=fun s=>(CJ sg (pE sg n .value) k s).bind fun p=>FF sg (pE sg n .value) M p.1 p.2) (fun s hs=>by rw[FF,if_pos (IK hs hq)])
 have k2:=BM (k:=fun k s=>FF sg (pE sg n .value) M k s) k1 hw.1 (fun _ _=>rfl)
 have e:=Cz hw
 have hN2:=hN hl.1;have hb2:=hb hl.1
 exact⟨M,rfl,k2,fun hwb=>by have:=e.2.2.2 hwb;omega,fun hwb=>by have:=e.2.2.2 hwb;omega⟩
theorem b1b{sg:List Sg}{n:Nat}{x y:Gs}{k:Int}{N:Nat}(hs:sgB sg)(h:enI sg n x y k N)(hp:isG sg y 4 [40]=false)(hq:isG sg y 4 [46]=true)(hn:nmG sg (As y) 0=true):
 ∃M,N=M+1∧enI sg n x (CN (Aq (As y) ⟨6,(pkG sg (As y) 0).text,[k],false⟩)) (AU (As y)) M:=by
 have hl:=CM hq (by omega)
 obtain⟨M,rfl⟩:=OH h hl.1
 obtain⟨h1,hN,hb⟩:=h
 have hw:CK ⟨6,(pkG sg (As y) 0).text,[k],false⟩:=⟨OD hs,by simp⟩
 have hn2:=QR hn
 have k1:=Gj (g':=fun s=>(FE (Ba ⟨6,(pkG sg (As y) 0).text,[k],false⟩ s)).bind fun p=>FF sg (pE sg n .value) M p.1 p.2) h1 (by omega) hq (fun s hs ht=>by
  obtain⟨hb0,rfl⟩:=Er.1 hs
  rw[FF,if_neg (by simp [Es hs hp]),if_pos (show isM sg _ [46]=true from ht)]
  have e1:Df sg (y.pos+1)=true:=by
   have:=KP (sg:=sg) (n:=0) (g:=As y) (CL hn2.1)
   rw[hn] at this;simpa [As] using this.symm
  have e2:(pkG sg (As y) 0)=sgO sg (y.pos+1):=by rw[II hn2.1];simp [As]
  rw[if_pos e1,e2])
 have hg:=UC k1.1 hw (fun _=>by omega)
 have k2:=BM (k:=fun k s=>FF sg (pE sg n .value) M k s) k1 hg.1 (fun _ _=>rfl)
 have e:=Cz hg
 have hN2:=hN hl.1;have hb2:=hb hl.1
 simp only[As] at e
 exact⟨M,rfl,k2,fun hwb=>by have:=e.2.2.2 hwb;simp only[As] at*;omega,fun hwb=>by have:=e.2.2.2 hwb;simp only[As] at*;omega⟩
theorem b1c{sg:List Sg}{n:Nat}{x y:Gs}{k a:Int}{N:Nat}(h:enI sg n x y k N)(hp:isG sg y 4 [40]=false)(hq:isG sg y 4 [46]=true)(hn:nmG sg (As y) 0=false):
 Ah sg x (pE sg (n+1) .fin) (a,Bs (As y)):=by
 have hl:=CM hq (by omega)
 obtain⟨M,rfl⟩:=OH h hl.1
 obtain⟨h1,hN,hb⟩:=h
 have k1:=Gj (g':=fun _=>none) h1 (by omega) hq (fun s hs ht=>by
  obtain⟨hb0,rfl⟩:=Er.1 hs
  rw[FF,if_neg (by simp [Es hs hp]),if_pos (show isM sg _ [46]=true from ht)]
  have e1:Df sg (y.pos+1)=false:=by
   have:=KP (sg:=sg) (n:=0) (g:=As y) (CL (by simpa [As] using hb0))
   rw[hn] at this;simpa [As] using this.symm
  rw[if_neg (by simp [e1])])
 exact⟨a0G k1 (fun _ _=>rfl),fun hb2=>by simp [Bs] at hb2⟩
theorem b1d{sg:List Sg}{n:Nat}{x y:Gs}{k:Int}{N:Nat}(h:enI sg n x y k N)(hb:y.bad=false)(hp:isG sg y 4 [40]=false)(hq:isG sg y 4 [46]=false):Ah sg x (pE sg (n+1) .fin) (k,y):=by
 obtain⟨M,rfl⟩:=OH h hb
 exact⟨Gi (DI h.1 (g':=fun s=>some (k,s)) (fun s hs=>by rw[FF,if_neg (by simp [Es hs hp]),if_neg (by simp [Es hs hq])])),h.2.2⟩
theorem Ra{sg:List Sg}{g:Gs}{s:Ps}(hs:pur g=some s):(pkG sg g 0).kind=(sgO sg s.pos).kind:=by
 obtain⟨h,rfl⟩:=Er.1 hs
 rw[II h];simp
theorem Rb{sg:List Sg}{g:Gs}(h:(pkG sg g 0).kind≠0):g.bad=false∧g.pos<sg.length:=by
 unfold pkG at h
 split at h
 ·simp [Ep] at h
 ·rename_i hh;simp only[Int.add_zero] at hh;exact⟨by cases hb:g.bad<;>simp_all,by omega⟩
theorem a0Q{sg:List Sg}{x:Gs}{n:Nat}(hs:sgB sg)(h:gsOk sg x)(hk:(pkG sg x 0).kind=1):Ah sg x (pE sg (n+1) .base) (DQ sg x,DH sg x):=by
 obtain⟨a,b⟩:=QV hs h
 have e:(pur x).bind (pE sg (n+1) .base)=(pur x).bind (BP sg):=by
  cases hp:pur x with
  |none=>rfl
  |some s=>simp only[Option.bind_some];rw[pE,if_pos (by rw[←Ra hp];exact hk)]
 obtain⟨a1,a2,a3,a4,a5⟩:=a
 exact⟨⟨a1,a2,a3,by rw[e];exact a4,by rw[e];exact a5⟩,b⟩
theorem b1e{sg:List Sg}{x:Gs}{n:Nat}{k:Int}(hs:sgB sg)(h:gsOk sg x)(hk:(pkG sg x 0).kind=k)(hk2:k=2∨k=3):Ah sg x (pE sg (n+1) .base) (AU x,Ed sg x k false):=by
 have hl:=Rb (sg:=sg) (g:=x) (by rw[hk];omega)
 obtain⟨a,b⟩:=OE (k:=k) (b:=false) hs h (fun _=>hl.2)
 have e:(pur x).bind (pE sg (n+1) .base)=(pur x).bind (Fi sg k false):=by
  cases hp:pur x with
  |none=>rfl
  |some s=>
   simp only[Option.bind_some]
   have:=Ra (sg:=sg) hp
   rcases hk2 with rfl|rfl
   ·rw[pE,if_neg (by omega),if_pos (by omega)]
   ·rw[pE,if_neg (by omega),if_neg (by omega),if_pos (by omega)]
 obtain⟨a1,a2,a3,a4,a5⟩:=a
 exact⟨⟨a1,a2,a3,by rw[e];exact a4,by rw[e];exact a5⟩,b⟩
theorem OI{sg:List Sg}{x:Gs}{s:Ps}{n:Nat}(hs:pur x=some s)(h1:(pkG sg x 0).kind≠1)(h2:(pkG sg x 0).kind≠2)(h3:(pkG sg x 0).kind≠3):pE sg (n+1) .base s=
 if isM sg s [91] then(Bu sg (pE sg n .value) [93] (sg.length+1) [] (adv s)).bind fun p=>Br sg [93] ⟨4,[],p.1,false⟩ p.2
 else if isM sg s [40]&&Jy sg s then(Bu sg (BP sg) [41] (sg.length+1) [] (adv s)).bind fun p=>(Bz sg [41] p.2).bind fun s1=>(Bz sg [61,62] s1).bind fun s2=>(pE sg n .pick s2).bind fun q=>Ba ⟨9,[],p.1++[q.1],false⟩ q.2
 else if isM sg s [40] then(pE sg n .value (adv s)).bind fun p=>Br sg [41] ⟨11,[],[p.1],false⟩ p.2
 else none:=by
 have:=Ra (sg:=sg) hs
 rw[pE,if_neg (by omega),if_neg (by omega),if_neg (by omega)]
theorem b1f{sg:List Sg}{x:Gs}{n:Nat}{l:List Int×Gs}(h:gsOk sg x)(h1:(pkG sg x 0).kind≠1)(h2:(pkG sg x 0).kind≠2)(h3:(pkG sg x 0).kind≠3)(hq:isG sg x 4 [91]=true)
 (hl:Bx sg (As x) (Bu sg (pE sg n .value) [93] (sg.length+1) []) l) (hll:l.1.length≤3001):
 Ah sg x (pE sg (n+1) .base) (Ct sg l.2 [93],Cs sg l.2 [93] ⟨4,[],l.1,false⟩):=by
 have k1:=Gj (g':=fun s=>(Bu sg (pE sg n .value) [93] (sg.length+1) [] s).bind fun p=>Br sg [93] ⟨4,[],p.1,false⟩ p.2) (CO (f:=pE sg (n+1) .base) h) (by omega) hq
  (fun s hs ht=>by rw[OI hs h1 h2 h3,if_pos (show isM sg s [91]=true from ht)])
 have k2:=BM (k:=fun ks s=>Br sg [93] ⟨4,[],ks,false⟩ s) k1 hl (fun _ _=>rfl)
 have hw:CK ⟨4,[],l.1,false⟩:=⟨by simp,by simp only;omega⟩
 refine⟨QZ k2 hw,fun hb=> ?_⟩
 have:=(Mu (m:=[93]) hl.1 hw).2 hb
 have e1:=hl.2.2.1
 simp only[As] at this e1 ⊢
 omega
theorem b1g{sg:List Sg}{x:Gs}{n:Nat}{z:Int×Gs}(h:gsOk sg x)(h1:(pkG sg x 0).kind≠1)(h2:(pkG sg x 0).kind≠2)(h3:(pkG sg x 0).kind≠3)(hn:isG sg x 4 [91]=false)(hq:isG sg x 4 [40]=true)
 (ha:∀s,pur x=some s→Jy sg s=false) (hz:Ah sg (As x) (pE sg n .value) z):
 Ah sg x (pE sg (n+1) .base) (Ct sg z.2 [41],Cs sg z.2 [41] ⟨11,[],[z.1],false⟩):=by
 have k1:=Gj (g':=fun s=>(pE sg n .value s).bind fun p=>Br sg [41] ⟨11,[],[p.1],false⟩ p.2) (CO (f:=pE sg (n+1) .base) h) (by omega) hq
  (fun s hs ht=>by rw[OI hs h1 h2 h3,if_neg (by simp [Es hs hn]),if_neg (by simp [ha s hs]),if_pos (show isM sg s [40]=true from ht)])
 have k2:=BM (k:=fun k s=>Br sg [41] ⟨11,[],[k],false⟩ s) k1 hz.1 (fun _ _=>rfl)
 have hw:CK ⟨11,[],[z.1],false⟩:=⟨by simp,by simp⟩
 refine⟨QZ k2 hw,fun hb=> ?_⟩
 have:=(Mu (m:=[41]) hz.1.1 hw).2 hb
 have e1:=hz.1.2.2.1
 simp only[As] at this e1 ⊢
 omega
theorem b1h{sg:List Sg}{x:Gs}{n:Nat}{a:Int}(h:gsOk sg x)(h1:(pkG sg x 0).kind≠1)(h2:(pkG sg x 0).kind≠2)(h3:(pkG sg x 0).kind≠3)(hn:isG sg x 4 [91]=false)(hq:isG sg x 4 [40]=false):
 Ah sg x (pE sg (n+1) .base) (a,Bs x):=
 ⟨a0G (CO h) (fun s hs=>by rw[OI hs h1 h2 h3,if_neg (by simp [Es hs hn]),if_neg (by simp [Es hs hq]),if_neg (by simp [Es hs hq])]),fun hb=>by simp [Bs] at hb⟩
def fnR(sg:List Sg)(n:Nat)(s:Ps):PR:=(Bz sg [40] s).bind fun s0=>(Bu sg (BP sg) [41] (sg.length+1) [] s0).bind fun p=>(Bz sg [41] p.2).bind fun s1=>(Bz sg [61,62] s1).bind fun s2=>(pE sg n .pick s2).bind fun q=>Ba ⟨9,[],p.1++[q.1],false⟩ q.2
theorem b1i{sg:List Sg}{x:Gs}{n:Nat}{l:List Int×Gs}{z:Int×Gs}(h:gsOk sg x)(hl:Bx sg (Au sg x [40]) (Bu sg (BP sg) [41] (sg.length+1) []) l)(hll:l.1.length≤3001)
 (hz:Ah sg (Au sg (Au sg l.2 [41]) [61,62]) (pE sg n .pick) z):Ah sg x (fnR sg n) (AU z.2,Aq z.2 ⟨9,[],l.1++[z.1],false⟩):=by
 have k1:=GS (g':=fun s0=>(Bu sg (BP sg) [41] (sg.length+1) [] s0).bind fun p=>(Bz sg [41] p.2).bind fun s1=>(Bz sg [61,62] s1).bind fun s2=>(pE sg n .pick s2).bind fun q=>Ba ⟨9,[],p.1++[q.1],false⟩ q.2) (CO (f:=fnR sg n) h) (fun _ _=>rfl)
 have k2:=BM (k:=fun ks s=>(Bz sg [41] s).bind fun s1=>(Bz sg [61,62] s1).bind fun s2=>(pE sg n .pick s2).bind fun q=>Ba ⟨9,[],ks++[q.1],false⟩ q.2) k1 hl (fun _ _=>rfl)
 have k3:=GS (g':=fun s1=>(Bz sg [61,62] s1).bind fun s2=>(pE sg n .pick s2).bind fun q=>Ba ⟨9,[],l.1++[q.1],false⟩ q.2) k2 (fun _ _=>rfl)
 have k4:=GS (g':=fun s2=>(pE sg n .pick s2).bind fun q=>Ba ⟨9,[],l.1++[q.1],false⟩ q.2) k3 (fun _ _=>rfl)
 have k5:=BM (k:=fun k s=>Ba ⟨9,[],l.1++[k],false⟩ s) k4 hz.1 (fun _ _=>rfl)
 have hw:CK ⟨9,[],l.1++[z.1],false⟩:=⟨by simp,by simp;omega⟩
 refine⟨QY k5 hw,fun hb=> ?_⟩
 obtain⟨d1,d2,d3⟩:= @IM z.2 ⟨9,[],l.1++[z.1],false⟩
 have e1:=Cz hz
 have e2:=k4.2.2.1
 have:=e1.2.2.2 (d3 hb)
 simp only[d2];omega
end Go.My
end
section
set_option linter.unusedVariables false
set_option linter.unusedSimpArgs false
namespace Go.My
open Go.Eng Go.Proofs
variable {G:GInv}
abbrev iG {α:Type} (i:Int×Int×Bool×List Nd×α×Nat):Gs:=⟨i.1,i.2.1,i.2.2.1,i.2.2.2.1⟩
def vP(r n:Nat)(s:ST)(g:Gs):Prop:=(rOk s g∧g.deep≤20)∧12*((s.sg.length:Int)-g.pos)+r≤n
def wP(r n:Nat)(s:ST)(g:Gs):Prop:=(rOk s g∧(g.bad=false→g.deep≤20))∧12*((s.sg.length:Int)-g.pos)+r≤n
theorem Mz{I:Nat→Prop}{N:Nat}(h:∃M,N=M+1∧I M):I (N-1)∧N-1<N:=by
 obtain⟨M,rfl,h⟩:=h
 exact⟨by simpa using h,by omega⟩
theorem Di{sg:List Sg}{g:Gs}{m:List UInt8}(h:isG sg g 4 m=false):Aw sg g m=g:=by simp [Aw,h]
theorem Eg{sg:List Sg}{g:Gs}{m:List UInt8}(h:isG sg g 4 m=true):Aw sg g m=As g:=by simp [Aw,h]
theorem b1j{α:Type}{sg:List Sg}{x:Gs}{f:Ps→Option (α×Ps)}{y:α×Gs}(h:Ah sg x f y)(hb:y.2.bad=false):x.bad=false:=((Cz h).2.2.2 hb).1
abbrev MA (sg:List Sg) (one:Ps→PR) (m:List UInt8) (x y:Gs) (ks:List Int) (N:Nat):Prop:=Ia sg one m x y ks N∧(y.bad=false→x.bad=false)
theorem b1k{sg:List Sg}{one:Ps→PR}{m:List UInt8}{x y:Gs}{ks:List Int}{N:Nat}{z:Int×Gs}(h:MA sg one m x y ks N)(hz:Ah sg y one z)(hq:isG sg y 4 m=false)(hc:isG sg z.2 4 [44]=false):
 Bx sg x (Bu sg one m (sg.length+1) []) (ks++[z.1],Aw sg z.2 [44]):=by rw[Di hc];exact b0Q h.1 hq hz hc
theorem b1l{sg:List Sg}{one:Ps→PR}{m:List UInt8}{x y:Gs}{ks:List Int}{N:Nat}{z:Int×Gs}(h:MA sg one m x y ks N)(hz:Ah sg y one z)(hq:isG sg y 4 m=false)(hc:isG sg z.2 4 [44]=true):
 MA sg one m x (Aw sg z.2 [44]) (ks++[z.1]) (N-1)∧N-1<N:=by
 rw[Eg hc]
 obtain⟨a,b⟩:=Mz (b0R h.1 hq hz hc)
 exact⟨⟨a,fun hb=>h.2 (b1j hz hb)⟩,b⟩
theorem FH(g:Gs):(⟨g.pos,g.deep,g.bad,g.nodes⟩:Gs)=g:=rfl
theorem b1m{s:ST}{one:Ps→PR}{m:List UInt8}{x y:Gs}{ks:List Int}{N:Nat}(hr:sgB s.sg)(h:MA s.sg one m x y ks N):ks.length≤3000:=by
 have h1:=h.1.2.2;have h2:=h.1.1.1.1.2;have h3:=hr.1;omega
theorem b1n{s:ST}{one:Ps→PR}{m:List UInt8}{x y:Gs}{ks:List Int}{N n:Nat}(hr:sgB s.sg)(h:MA s.sg one m x y ks N)(hb:y.bad=false)(hd:x.bad=false→x.deep≤20)(hn:12*((s.sg.length:Int)-x.pos)+11≤n):vP 11 n s y:=by
 have h1:=h.1.1;have h2:=hd (h.2 hb);have h3:=h1.2.1;have h4:=h1.2.2.1
 exact⟨⟨⟨hr,h1.1⟩,by omega⟩,by omega⟩
theorem b1o{s:ST}{one:Ps→PR}{m:List UInt8}{x y:Gs}{ks:List Int}{N:Nat}(hr:sgB s.sg)(h:MA s.sg one m x y ks N):rOk s y:=⟨hr,h.1.1.1⟩
theorem b1p{sg:List Sg}{x:Gs}{one:Ps→PR}{k:Int}{l:List Int×Gs}(hx:gsOk sg x)(h:Bx sg (Au sg x [40]) (Bu sg one [41] (sg.length+1) []) l∧l.1.length≤3001):
 Ah sg x (CJ sg one k) (Ct sg l.2 [41],Cs sg l.2 [41] ⟨5,[],[k]++l.1,false⟩):=b0S hx h.1 h.2
attribute [local irreducible] pE Bu CJ fnR Ah Bx gsOk Au Cs Aq CN Ed Aw DH DQ AU Ct pkG isG nmG
end Go.My
end
section
set_option linter.unusedVariables false
set_option linter.unusedSimpArgs false
namespace Go.My
open Go.Eng Go.Proofs
variable {G:GInv}
theorem OJ{sg:List Sg}{f:Ps→PR}{x:Gs}{y:Int×Gs}(h:Ah sg x f y)(hb:x.bad=false→x.deep≤20):y.2.bad=false→y.2.deep≤20:=fun hy=>by
 have:=Cz h;have h2:=hb (this.2.2.2 hy).1;omega
theorem GT{sg:List Sg}{x:Gs}{m:List UInt8}(h:gsOk sg x):gsOk sg (Au sg x m)∧(Au sg x m).deep=x.deep∧x.pos≤(Au sg x m).pos∧((Au sg x m).bad=false→x.bad=false):=by
 obtain⟨a1,a2,a3,a4⟩:=(OB (m:=m) h).1
 refine⟨a1,a2,a3,fun hb=> ?_⟩
 cases hx:x.bad with
 |false=>rfl
 |true=>rw[DG hx,CL hb] at a4;cases a4
theorem b1q{s:ST}{x:Gs}{n:Nat}{one:Ps→PR}{l:List Int×Gs}(h:rOk s x)(hd:x.deep≤20)(hq:isG s.sg x 4 [40]=true)(hn:12*((s.sg.length:Int)-x.pos)≤n+2)(hl:Bx s.sg (Au s.sg x [40]) (Bu s.sg one [41] (s.sg.length+1) []) l∧l.1.length≤3001):
 vP 10 n s (Au s.sg (Au s.sg l.2 [41]) [61,62]):=by
 have a:=GT (m:=[40]) h.2;have b:=GT (m:=[41]) hl.1.1;have c:=GT (m:=[61,62]) b.1
 have e1:=hl.1.2.1;have e2:=hl.1.2.2.1
 have e3:(Au s.sg x [40]).pos=x.pos+1:=by rw[Au,if_pos hq];rfl
 exact⟨⟨⟨h.1,c.1⟩,by omega⟩,by omega⟩
theorem EH{s:ST}{x y:Gs}{f:Ps→PR}{z:Int×Gs}(h:rOk s x)(hz:Ah s.sg y f z):rOk s z.2:=⟨h.1,Fk hz⟩
theorem b1r{l:Nat}:(BI l).length≤2:=by
 unfold BI;split<;>simp
attribute [local irreducible] pE Bu CJ fnR Ah Bx gsOk Au Cs Aq CN Ed Aw DH DQ AU Ct pkG isG nmG
end Go.My
end
section
set_option linter.unusedVariables false
set_option linter.unusedSimpArgs false
namespace Go.My
open Go.Eng Go.Proofs
variable {G:GInv}
theorem a0R{s:ST}{x:Gs}{n r:Nat}{k:Int}{m:List UInt8}(hq:isG s.sg x k m=true)(hk:k≠0)(h1:rOk s x)(h2:x.bad=false→x.deep≤20)(h3:12*((s.sg.length:Int)-x.pos)+1≤(n+1:Nat))(hr:r≤12):wP r n s (As x)∧vP r n s (As x):=by
 have hl:=CM hq hk
 have ha:=FG h1.2 hl.2
 have hd:=h2 hl.1
 have e:(As x).pos=x.pos+1:=rfl
 have e2:(As x).deep=x.deep:=rfl
 have a:12*((s.sg.length:Int)-(As x).pos)+r≤n:=by omega
 exact⟨⟨⟨⟨h1.1,ha⟩,fun _=>by omega⟩,a⟩,⟨⟨⟨h1.1,ha⟩,by omega⟩,a⟩⟩
abbrev enJ (sg:List Sg) (n:Nat) (x y:Gs) (k:Int) (N:Nat):Prop:=enI sg n x y k N∧(y.bad=false→y.deep≤20)
theorem b1s{s:ST}{x:Gs}{n:Nat}{z:Int×Gs}(h1:rOk s x)(h2:x.bad=false→x.deep≤20)(hz:Ah s.sg x (pE s.sg n .base) z):enJ s.sg n x z.2 z.1 (s.sg.length+1):=⟨b0Y h1.2 hz,OJ hz h2⟩
theorem b1t{sg:List Sg}{n:Nat}{x y:Gs}{k:Int}{N:Nat}{w:Int×Gs}(h:enJ sg n x y k N)(hw:Ah sg y (CJ sg (pE sg n .value) k) w)(hq:isG sg y 4 [40]=true):enJ sg n x w.2 w.1 (N-1)∧N-1<N:=by
 obtain⟨a,b⟩:=Mz (b1a h.1 hq hw)
 exact⟨⟨a,OJ hw h.2⟩,b⟩
theorem b1u{s:ST}{x:Gs}{n:Nat}(h1:rOk s x)(h2:x.bad=false→x.deep≤20)(h3:12*((s.sg.length:Int)-x.pos)+2≤(n+1:Nat)):wP 1 n s x:=⟨⟨h1,h2⟩,by omega⟩
attribute [local irreducible] pE Bu CJ fnR Ah Bx gsOk Au Cs Aq CN Ed Aw DH DQ AU Ct pkG isG nmG
end Go.My
end
section
set_option linter.unusedVariables false
set_option linter.unusedSimpArgs false
namespace Go.My
open Go.Eng Go.Proofs
variable {G:GInv}
def b1v(sg:List Sg)(n l:Nat)(m:List UInt8)(x y:Gs)(ks:List Int)(N M:Nat):Prop:=(chN sg n l m x y ks N∧N≤M)∧(y.bad=false→y.deep≤20)
theorem b1w{s:ST}{x:Gs}{n:Nat}{l:Int}{z:Int×Gs}(hl:l=6)(h:Ah s.sg x (pE s.sg n .fin) z):Ah s.sg x (pE s.sg (n+1) (.chain l.toNat)) z:=by subst hl;exact b0T h
theorem ch_ks{s:ST}{n l:Nat}{x y:Gs}{m:List UInt8}{ks:List Int}{N M:Nat}(hs:sgB s.sg)(h:b1v s.sg n l m x y ks N M):ks.length≤3001:=by
 have:=h.1.1.2.2.1;have:=h.1.1.1.1.1.2;have:=hs.1;omega
abbrev pkX (x:Gs):Gs:=gDp (if x.deep=20 then Bs x else x) 1
theorem a0S{s:ST}{x:Gs}{n:Nat}(h1:rOk s x)(h2:x.deep≤20)(h3:12*((s.sg.length:Int)-x.pos)+10≤(n+1:Nat)):wP (9-(0:Int).toNat) n s (pkX x)∧rOk s (pkX x):=by
 obtain⟨p1,p2,p3⟩:= @OG x
 have hok:gsOk s.sg (pkX x):=by
  unfold pkX;split
  ·exact⟨h1.2.1,by simp only[gDp,Bs];have:=h1.2.2.1;omega,h1.2.2.2⟩
  ·exact⟨h1.2.1,by simp only[gDp];have:=h1.2.2.1;omega,h1.2.2.2⟩
 exact⟨⟨⟨⟨h1.1,hok⟩,fun hb=>by have:=p3 hb;simp only[pkX] at*;omega⟩,by simp only[pkX] at*;simp;omega⟩,h1.1,hok⟩
theorem a0T{s:ST}{x:Gs}{n:Nat}{z:Int×Gs}(h1:rOk s x)(h2:x.deep≤20)(h3:12*((s.sg.length:Int)-x.pos)+10≤(n+1:Nat))(hz:Ah s.sg (pkX x) (pE s.sg n (.chain 0)) z)(hq:isG s.sg z.2 4 [63]=true):vP 10 n s (Aw s.sg z.2 [63]):=by
 rw[Eg hq]
 have hl:=CM hq (by omega)
 have e:=Cz hz
 obtain⟨p1,p2,p3⟩:= @OG x
 have e1:(As z.2).pos=z.2.pos+1:=rfl
 have e2:(As z.2).deep=z.2.deep:=rfl
 have e3:=p3 (e.2.2.2 hl.1).1
 simp only[pkX] at*
 exact⟨⟨⟨h1.1,FG (Fk hz) hl.2⟩,by omega⟩,by omega⟩
theorem b1x{s:ST}{x:Gs}{n:Nat}{z a:Int×Gs}(h1:rOk s x)(h2:x.deep≤20)(h3:12*((s.sg.length:Int)-x.pos)+10≤(n+1:Nat))(hz:Ah s.sg (pkX x) (pE s.sg n (.chain 0)) z)(hq:isG s.sg z.2 4 [63]=true)
 (ha:Ah s.sg (Aw s.sg z.2 [63]) (pE s.sg n .pick) a):vP 10 n s (Au s.sg a.2 [58]):=by
 have hv:=a0T h1 h2 h3 hz hq
 have e:=Cz ha
 have t:=GT (m:=[58]) (Fk ha)
 have:=hv.2;have:=hv.1.2
 exact⟨⟨⟨h1.1,t.1⟩,by omega⟩,by omega⟩
theorem b1y{s:ST}{x:Gs}{n:Nat}{z a b:Int×Gs}(h1:rOk s x)(h2:x.deep≤20)(hz:Ah s.sg (pkX x) (pE s.sg n (.chain 0)) z)(hq:isG s.sg z.2 4 [63]=true)
 (ha:Ah s.sg (Aw s.sg z.2 [63]) (pE s.sg n .pick) a) (hb:Ah s.sg (Au s.sg a.2 [58]) (pE s.sg n .pick) b):
 Ah s.sg x (pE s.sg (n+1) .pick) (AU b.2,gDp (Aq b.2 ⟨8,[],[z.1,a.1,b.1],false⟩) (-1)):=by
 rw[Eg hq] at ha
 exact b0J h1.2 h2 hz hq ha hb
theorem b1z{s:ST}{x:Gs}{n:Nat}{z:Int×Gs}(h1:rOk s x)(h2:x.deep≤20)(hz:Ah s.sg (pkX x) (pE s.sg n (.chain 0)) z)(hq:isG s.sg z.2 4 [63]=false):Ah s.sg x (pE s.sg (n+1) .pick) (z.1,gDp (Aw s.sg z.2 [63]) (-1)):=by
 rw[Di hq];exact b0I h1.2 h2 hz hq
theorem b1A{s:ST}{x:Gs}{n:Nat}{z:Int×Gs}(h1:rOk s x)(hz:Ah s.sg (pkX x) (pE s.sg n (.chain 0)) z)(hq:isG s.sg z.2 4 [63]=false):0≤(Aw s.sg z.2 [63]).deep∧(Aw s.sg z.2 [63]).deep≤21:=by
 rw[Di hq];exact(Fk hz).2.1
theorem UF{g:Gs}{x:Nd}:(Aq g x).deep=g.deep:=IM.1
theorem b1B{α:Type}{sg:List Sg}{x:Gs}{f:Ps→Option (α×Ps)}{y:α×Gs}(h:Ah sg x f y):0≤y.2.deep∧y.2.deep≤21:=(Fk h).2.1
theorem b1C{s:ST}{x:Gs}{n:Nat}(h1:rOk s x)(h2:x.deep≤20)(h3:12*((s.sg.length:Int)-x.pos)+11≤(n+1:Nat)):vP 10 n s x:=⟨⟨h1,h2⟩,by omega⟩
def vaJ(sg:List Sg)(n:Nat)(x y:Gs)(ks:List Int)(N:Nat):Prop:=JB sg n x y ks N∧y.deep≤20
theorem a0U{sg:List Sg}{n:Nat}{x y:Gs}{ks:List Int}{N:Nat}(h:JB sg n x y ks N∧y.deep≤20):vaJ sg n x y ks N:=h
theorem b1D{s:ST}{x:Gs}{n:Nat}{z:Int×Gs}(h1:rOk s x)(hz:Ah s.sg x (pE s.sg n .pick) z)(hq:isG s.sg z.2 4 [46,46]=false):Ah s.sg x (pE s.sg (n+1) .value) z:=b0K h1.2 hz hq
theorem b1E{s:ST}{x:Gs}{n:Nat}{z:Int×Gs}(h1:rOk s x)(h2:x.deep≤20)(hz:Ah s.sg x (pE s.sg n .pick) z)(hq:isG s.sg z.2 4 [46,46]=true):vaJ s.sg n x z.2 [z.1] (s.sg.length+1):=a0U ⟨b0L h1.2 hz hq,by have:=(Cz hz).1;omega⟩
theorem UG{s:ST}{x y:Gs}{n:Nat}{ks:List Int}{N:Nat}(h1:rOk s x)(h:vaJ s.sg n x y ks N):rOk s y:=⟨h1.1,h.1.1.1⟩
theorem b1F{s:ST}{x y:Gs}{n:Nat}{ks:List Int}{N:Nat}(hs:sgB s.sg)(h:vaJ s.sg n x y ks N):ks.length≤3001:=by
 have:=h.1.2.2.1;have:=h.1.1.1.1.2;have:=hs.1;omega
theorem b1G{s:ST}{x y:Gs}{n N:Nat}{ks:List Int}(h1:rOk s x)(h:vaJ s.sg n x y ks N)(hq:isG s.sg y 4 [46,46]=false):Ah s.sg x (pE s.sg (n+1) .value) (AU (Aw s.sg y [46,46]),Aq (Aw s.sg y [46,46]) ⟨10,[],ks,false⟩):=by
 rw[Di hq];exact b0M h.1 hq h1.1
theorem b1H{s:ST}{x y:Gs}{n N:Nat}{ks:List Int}(h1:rOk s x)(h:vaJ s.sg n x y ks N)(hq:isG s.sg y 4 [46,46]=false):rOk s (Aw s.sg y [46,46]):=by
 rw[Di hq];exact UG h1 h
attribute [local irreducible] pE Bu CJ fnR Ah Bx gsOk Au Cs Aq CN Ed Aw DH DQ AU Ct pkG isG nmG
end Go.My
end
section
set_option linter.unusedVariables false
set_option linter.unusedSimpArgs false
namespace Go.My
open Go.Eng
theorem Et{k:Int}{t:List UInt8}{ks:List Int}{b:Bool}(ht:t.length≤3000)(hk:ks.length≤4000):CK ⟨k,t,ks,b⟩:=⟨ht,hk⟩
theorem JE{α:Type}{sg:List Sg}{x:Gs}{f g:Ps→Option (α×Ps)}{y:α×Gs}(h:Ah sg x g y)(e:∀s,pur x=some s→f s=g s):Ah sg x f y:=by
 have e2:(pur x).bind f=(pur x).bind g:=by
  cases hp:pur x with
  |none=>rfl
  |some s=>exact e s hp
 obtain⟨⟨a1,a2,a3,a4,a5⟩,b⟩:=h
 exact⟨⟨a1,a2,a3,by rw[e2];exact a4,by rw[e2];exact a5⟩,b⟩
theorem KS{α:Type}{sg:List Sg}{x:Gs}{k:Int}{m:List UInt8}{f g:Ps→Option (α×Ps)}{y:α×Gs}(hx:gsOk sg x)(hk:k≠0)(hm:isG sg x k m=true)(h:Bx sg (As x) g y)
 (e:∀s,pur x=some s→isT sg s k m=true→f s=g (adv s)):Ah sg x f y:=by
 have k1:=Gj (g':=g) (CO (f:=f) hx) hk hm e
 have k2:=BM (k:=fun a s=>some (a,s)) k1 h (fun s _=>by cases g s<;>rfl)
 refine⟨Gi k2,fun _=> ?_⟩
 have:=h.2.2.1
 simp only[As] at this;omega
theorem KT{sg:List Sg}{x y:Gs}{f:Ps→PR}{w:Nd}{m:List UInt8}(h:restP sg x f y (Br sg m w) 0)(hw:CK w):Ah sg x f (Ct sg y m,Cs sg y m w):=by
 refine⟨QZ h hw,fun hb=> ?_⟩
 have:=(Mu (m:=m) h.1 hw).2 hb
 have:=h.2.2.1
 simp only at*;omega
theorem Rc{sg:List Sg}{x y:Gs}{f:Ps→PR}{w:Nd}(h:restP sg x f y (Ba w) 0)(hw:CK w)(hp:y.bad=false→x.pos<y.pos):Ah sg x f (AU y,Aq y w):=by
 obtain⟨d1,d2,d3⟩:= @IM y w
 exact⟨QY h hw,fun hb=>by simp only[d2];exact hp (d3 hb)⟩
theorem a0V{sg:List Sg}{x:Gs}{b:Bool}(h:gsOk sg x):restP sg x (Dg sg b) (Cx sg x) (fun s=>if isM sg s [61] then(Cd sg (adv s)).bind fun q=>Br sg [59] ⟨12,CH sg x,[q.1],b⟩ q.2 else Br sg [59] ⟨12,CH sg x,[],b⟩ s) 0:=
 BM (k:=fun t s=>if isM sg s [61] then(Cd sg (adv s)).bind fun q=>Br sg [59] ⟨12,t,[q.1],b⟩ q.2 else Br sg [59] ⟨12,t,[],b⟩ s) (CO h) (Mv h).1 (fun _ _=>rfl)
theorem IP{sg:List Sg}{x:Gs}(hs:sgB sg):(CH sg x).length≤3000:=by
 unfold CH;split
 ·exact OD hs
 ·simp
theorem b1I{sg:List Sg}{x:Gs}{b:Bool}(hs:sgB sg)(h:gsOk sg x)(hq:isG sg (Cx sg x) 4 [61]=false):
 Ah sg x (Dg sg b) (Ct sg (Cx sg x) [59],Cs sg (Cx sg x) [59] ⟨12,CH sg x,[],b⟩):=
 KT (DI (a0V h) (fun s hs=>by rw[if_neg (by simp [Es hs hq])])) (Et (IP hs) (by simp))
theorem b1J{sg:List Sg}{x:Gs}{b:Bool}{z:Int×Gs}(hs:sgB sg)(h:gsOk sg x)(hq:isG sg (Cx sg x) 4 [61]=true)(hz:Ah sg (As (Cx sg x)) (Cd sg) z):
 Ah sg x (Dg sg b) (Ct sg z.2 [59],Cs sg z.2 [59] ⟨12,CH sg x,[z.1],b⟩):=by
 have k1:=Gj (g':=fun s=>(Cd sg s).bind fun q=>Br sg [59] ⟨12,CH sg x,[q.1],b⟩ q.2) (a0V h) (by omega) hq (fun s hs ht=>by rw[if_pos (show isM sg s [61]=true from ht)])
 have k2:=BM (k:=fun k s=>Br sg [59] ⟨12,CH sg x,[k],b⟩ s) k1 hz.1 (fun _ _=>rfl)
 exact KT k2 (Et (IP hs) (by simp))
def Gk(sg:List Sg)(b:Bool)(s:Ps):PR:=if isM sg s [59] then Br sg [59] ⟨15,[],[],b⟩ s else(Cd sg s).bind fun p=>Br sg [59] ⟨15,[],[p.1],b⟩ p.2
theorem b1K{sg:List Sg}{x:Gs}{b:Bool}(h:gsOk sg x)(hq:isG sg x 4 [59]=true):Ah sg x (Gk sg b) (Ct sg x [59],Cs sg x [59] ⟨15,[],[],b⟩):=
 KT (DI (CO h) (fun s hs=>by rw[Gk,if_pos (IK hs hq)])) (Et (by simp) (by simp))
theorem b1L{sg:List Sg}{x:Gs}{b:Bool}{z:Int×Gs}(h:gsOk sg x)(hq:isG sg x 4 [59]=false)(hz:Ah sg x (Cd sg) z):Ah sg x (Gk sg b) (Ct sg z.2 [59],Cs sg z.2 [59] ⟨15,[],[z.1],b⟩):=by
 have k1:=DI (CO (f:=Gk sg b) h) (g':=fun s=>(Cd sg s).bind fun p=>Br sg [59] ⟨15,[],[p.1],b⟩ p.2) (fun s hs=>by rw[Gk,if_neg (by simp [Es hs hq])])
 have k2:=BM (k:=fun k s=>Br sg [59] ⟨15,[],[k],b⟩ s) k1 hz.1 (fun _ _=>rfl)
 exact KT k2 (Et (by simp) (by simp))
theorem b1M{sg:List Sg}{x:Gs}{z:Int×Gs}(h:gsOk sg x)(hz:Ah sg (Au sg x [40]) (Cd sg) z):Bx sg x (Dl sg) (z.1,Au sg z.2 [41]):=by
 have k1:=GS (g':=fun s1=>(Cd sg s1).bind fun p=>(Bz sg [41] p.2).map fun s2=>(p.1,s2)) (CO (f:=Dl sg) h) (fun _ _=>rfl)
 have k2:=BM (k:=fun k s=>(Bz sg [41] s).map fun s2=>(k,s2)) k1 hz.1 (fun _ _=>rfl)
 have k3:=GS (g':=fun s=>some (z.1,s)) k2 (fun s _=>by cases Bz sg [41] s<;>rfl)
 exact Gi k3
theorem b1N{sg:List Sg}{one:Bool→Ps→PR}{m:List UInt8}{N:Nat}{ks:List Int}{s:Ps}(h:isM sg s m=true):Cy sg one m (N+1) ks s=some (ks,s):=by rw[Cy,if_pos h]
theorem b1O{sg:List Sg}{one:Bool→Ps→PR}{m:List UInt8}{N:Nat}{ks:List Int}{s:Ps}(h:isM sg s m=false):Cy sg one m (N+1) ks s=(one ((sgO sg s.pos).blank&&decide (0<ks.length)) s).bind fun p=>Cy sg one m N (ks++[p.1]) p.2:=by rw[Cy,if_neg (by simp [h])]
def JF(sg:List Sg)(one:Bool→Ps→PR)(m:List UInt8)(x y:Gs)(ks:List Int)(N:Nat):Prop:=
 restP sg x (Cy sg one m (sg.length+1) []) y (Cy sg one m N ks) 0∧(y.bad=false→(sg.length:Int)-y.pos<N)∧(ks.length:Int)≤y.pos+1∧(y.bad=false→(ks.length:Int)≤y.pos)
theorem a0W{sg:List Sg}{one:Bool→Ps→PR}{m:List UInt8}{x:Gs}(h:gsOk sg x):JF sg one m x x [] (sg.length+1):=by
 have:=h.1
 exact⟨CO h,fun _=>by omega,by simp;omega,fun _=>by simp;omega⟩
theorem a0X{sg:List Sg}{one:Bool→Ps→PR}{m:List UInt8}{x y:Gs}{ks:List Int}{N:Nat}(h:JF sg one m x y ks N)(hb:y.bad=true):Bx sg x (Cy sg one m (sg.length+1) []) (ks,y):=OF h.1 hb
theorem a0Y{sg:List Sg}{one:Bool→Ps→PR}{m:List UInt8}{x y:Gs}{ks:List Int}{N:Nat}(h:JF sg one m x y ks N)(hb:y.bad=false):∃M,N=M+1:=by
 have h1:=h.1.1.1;have h2:=h.2.1 hb
 match N with
 |0=>omega
 |M+1=>exact⟨M,rfl⟩
theorem a0Z{sg:List Sg}{one:Bool→Ps→PR}{m:List UInt8}{x y:Gs}{ks:List Int}{N:Nat}(h:JF sg one m x y ks N)(hq:isG sg y 4 m=true):Bx sg x (Cy sg one m (sg.length+1) []) (ks,y):=by
 obtain⟨M,rfl⟩:=a0Y h (CM hq (by omega)).1
 exact Gi (DI h.1 (g':=fun s=>some (ks,s)) (fun s hs=>b1N (IK hs hq)))
theorem a1a{sg:List Sg}{one:Bool→Ps→PR}{m:List UInt8}{x y:Gs}{ks:List Int}{N:Nat}{z:Int×Gs}(h:JF sg one m x y ks N)(hb:y.bad=false)(hq:isG sg y 4 m=false)
 (hz:Ah sg y (one ((pkG sg y 0).blank&&decide (0<ks.length))) z):∃M,N=M+1∧JF sg one m x z.2 (ks++[z.1]) M:=by
 obtain⟨M,rfl⟩:=a0Y h hb
 obtain⟨h1,h2,h3,h4⟩:=h
 have k1:=DI h1 (g':=fun s=>(one ((pkG sg y 0).blank&&decide (0<ks.length)) s).bind fun p=>Cy sg one m M (ks++[p.1]) p.2) (fun s hs=>by
  rw[b1O (Es hs hq)]
  obtain⟨_,rfl⟩:=Er.1 hs
  rw[II hb];simp)
 have k2:=BM (k:=fun k s=>Cy sg one m M (ks++[k]) s) k1 hz.1 (fun _ _=>rfl)
 have e:=Cz hz
 have:=h2 hb;have:=h4 hb
 exact⟨M,rfl,k2,fun hw=>by have:=e.2.2.2 hw;omega,by simp;omega,fun hw=>by have:=e.2.2.2 hw;simp;omega⟩
theorem b1P{sg:List Sg}{one:Bool→Ps→PR}{x:Gs}(h:gsOk sg x)(hd:x.deep≤20):restP sg x (BJ sg one) (Au sg (gDp (if x.deep=20 then Bs x else x) 1) [123])
 (fun s1=>(Cy sg one [125] (sg.length+1) [] s1).bind fun p=>(Br sg [125] ⟨18,[],p.1,false⟩ p.2).map fun q=>(q.1,dp q.2 (-1))) 1:=by
 have k0:restP sg x (BJ sg one) (gDp (if x.deep=20 then Bs x else x) 1) (fun s=>(Bz sg [123] s).bind fun s1=>(Cy sg one [125] (sg.length+1) [] s1).bind fun p=>(Br sg [125] ⟨18,[],p.1,false⟩ p.2).map fun q=>(q.1,dp q.2 (-1))) 1:=by
  split
  ·rename_i h20
   have h2:=a0H (d:=0) (g':=BJ sg one) (CO (f:=BJ sg one) h) (fun s hs=>by
    obtain⟨_,rfl⟩:=Er.1 hs
    rw[BJ,if_pos (by simp only;omega)])
   refine KR (d:=0) h2 ⟨by simp only[Bs];omega,by simp only[Bs];omega⟩ (fun s hs=> ?_)
   rw[IJ] at hs;cases hs
  ·rename_i h20
   refine KR (d:=0) (CO h) ⟨by have:=h.2.1.1;omega,by omega⟩ (fun s hs=> ?_)
   obtain⟨_,rfl⟩:=Er.1 hs
   rw[BJ,if_neg (by simp only;omega)]
 exact GS k0 (fun _ _=>rfl)
def ifR(sg:List Sg)(n:Nat)(b:Bool)(s:Ps):PR:=(Dl sg s).bind fun p=>(BJ sg (stR sg n) p.2).bind fun q=>
 if isW sg q.2 [101,108,115,101] then(BJ sg (stR sg n) (adv q.2)).bind fun r=>Ba ⟨16,[],[p.1,q.1,r.1],b⟩ r.2 else Ba ⟨16,[],[p.1,q.1],b⟩ q.2
theorem a1b{sg:List Sg}{n:Nat}{b:Bool}{x:Gs}{c q:Int×Gs}(h:gsOk sg x)(hc:Bx sg x (Dl sg) c)(hq:Ah sg c.2 (BJ sg (stR sg n)) q):
 restP sg x (ifR sg n b) q.2 (fun s=>if isW sg s [101,108,115,101] then(BJ sg (stR sg n) (adv s)).bind fun r=>Ba ⟨16,[],[c.1,q.1,r.1],b⟩ r.2 else Ba ⟨16,[],[c.1,q.1],b⟩ s) 0:=by
 have k1:=BM (k:=fun a s=>(BJ sg (stR sg n) s).bind fun q=>if isW sg q.2 [101,108,115,101] then(BJ sg (stR sg n) (adv q.2)).bind fun r=>Ba ⟨16,[],[a,q.1,r.1],b⟩ r.2 else Ba ⟨16,[],[a,q.1],b⟩ q.2) (CO (f:=ifR sg n b) h) hc (fun _ _=>rfl)
 exact BM (k:=fun k s=>if isW sg s [101,108,115,101] then(BJ sg (stR sg n) (adv s)).bind fun r=>Ba ⟨16,[],[c.1,k,r.1],b⟩ r.2 else Ba ⟨16,[],[c.1,k],b⟩ s) k1 hq.1 (fun _ _=>rfl)
theorem b1Q{sg:List Sg}{n:Nat}{b:Bool}{x:Gs}{c q:Int×Gs}(h:gsOk sg x)(hc:Bx sg x (Dl sg) c)(hq:Ah sg c.2 (BJ sg (stR sg n)) q)(he:isG sg q.2 1 [101,108,115,101]=false):
 Ah sg x (ifR sg n b) (AU q.2,Aq q.2 ⟨16,[],[c.1,q.1],b⟩):=by
 have k:=DI (a1b (b:=b) h hc hq) (g':=Ba ⟨16,[],[c.1,q.1],b⟩) (fun s hs=>by rw[if_neg (by simp [Ee hs he])])
 refine Rc k (Et (by simp) (by simp)) (fun hb=> ?_)
 have:=(Cz hq).2.2.2 hb;have:=hc.2.2.1;omega
theorem b1R{sg:List Sg}{n:Nat}{b:Bool}{x:Gs}{c q r:Int×Gs}(h:gsOk sg x)(hc:Bx sg x (Dl sg) c)(hq:Ah sg c.2 (BJ sg (stR sg n)) q)(he:isG sg q.2 1 [101,108,115,101]=true)
 (hr:Ah sg (As q.2) (BJ sg (stR sg n)) r):Ah sg x (ifR sg n b) (AU r.2,Aq r.2 ⟨16,[],[c.1,q.1,r.1],b⟩):=by
 have k:=Gj (a1b (b:=b) h hc hq) (g':=fun s=>(BJ sg (stR sg n) s).bind fun r=>Ba ⟨16,[],[c.1,q.1,r.1],b⟩ r.2) (by omega) he (fun s hs ht=>by rw[if_pos (show isW sg s [101,108,115,101]=true from ht)])
 have k2:=BM (k:=fun k s=>Ba ⟨16,[],[c.1,q.1,k],b⟩ s) k hr.1 (fun _ _=>rfl)
 refine Rc k2 (Et (by simp) (by simp)) (fun hb=> ?_)
 have:=(Cz hr).2.2.2 hb;have:=hc.2.2.1;have:=(Cz hq).2.1
 simp only[As] at*;omega
def whR(sg:List Sg)(n:Nat)(b:Bool)(s:Ps):PR:=(Dl sg s).bind fun p=>(BJ sg (stR sg n) p.2).bind fun q=>Ba ⟨17,[],[p.1,q.1],b⟩ q.2
theorem b1S{sg:List Sg}{n:Nat}{b:Bool}{x:Gs}{c q:Int×Gs}(h:gsOk sg x)(hc:Bx sg x (Dl sg) c)(hq:Ah sg c.2 (BJ sg (stR sg n)) q):
 Ah sg x (whR sg n b) (AU q.2,Aq q.2 ⟨17,[],[c.1,q.1],b⟩):=by
 have k1:=BM (k:=fun a s=>(BJ sg (stR sg n) s).bind fun q=>Ba ⟨17,[],[a,q.1],b⟩ q.2) (CO (f:=whR sg n b) h) hc (fun _ _=>rfl)
 have k2:=BM (k:=fun k s=>Ba ⟨17,[],[c.1,k],b⟩ s) k1 hq.1 (fun _ _=>rfl)
 refine Rc k2 (Et (by simp) (by simp)) (fun hb=> ?_)
 have:=(Cz hq).2.2.2 hb;have:=hc.2.2.1;omega
def setR(sg:List Sg)(b:Bool)(s:Ps):PR:=(Ge sg s).bind fun p=>(Bz sg [61] p.2).bind fun s1=>(Cd sg s1).bind fun q=>Br sg [59] ⟨13,p.1,[q.1],b⟩ q.2
theorem b1T{sg:List Sg}{b:Bool}{x:Gs}{z:Int×Gs}(hs:sgB sg)(h:gsOk sg x)(hz:Ah sg (Au sg (Cx sg x) [61]) (Cd sg) z):
 Ah sg x (setR sg b) (Ct sg z.2 [59],Cs sg z.2 [59] ⟨13,CH sg x,[z.1],b⟩):=by
 have k1:=BM (k:=fun t s=>(Bz sg [61] s).bind fun s1=>(Cd sg s1).bind fun q=>Br sg [59] ⟨13,t,[q.1],b⟩ q.2) (CO (f:=setR sg b) h) (Mv h).1 (fun _ _=>rfl)
 have k2:=GS (g':=fun s1=>(Cd sg s1).bind fun q=>Br sg [59] ⟨13,CH sg x,[q.1],b⟩ q.2) k1 (fun _ _=>rfl)
 have k3:=BM (k:=fun k s=>Br sg [59] ⟨13,CH sg x,[k],b⟩ s) k2 hz.1 (fun _ _=>rfl)
 exact KT k3 (Et (IP hs) (by simp))
def doR(sg:List Sg)(b:Bool)(s:Ps):PR:=(Cd sg s).bind fun p=>Br sg [59] ⟨14,[],[p.1],b⟩ p.2
theorem b1U{sg:List Sg}{b:Bool}{x:Gs}{z:Int×Gs}(h:gsOk sg x)(hz:Ah sg x (Cd sg) z):Ah sg x (doR sg b) (Ct sg z.2 [59],Cs sg z.2 [59] ⟨14,[],[z.1],b⟩):=by
 have k3:=BM (k:=fun k s=>Br sg [59] ⟨14,[],[k],b⟩ s) (CO (f:=doR sg b) h) hz.1 (fun _ _=>rfl)
 exact KT k3 (Et (by simp) (by simp))
theorem IQ{sg:List Sg}{n:Nat}{b:Bool}{s:Ps}:stR sg (n+1) b s=
 if(sgO sg s.pos).kind=5 then Fi sg 19 b s
 else if isW sg s [118,97,114] then Dg sg b (adv s)
 else if isW sg s [114,101,116,117,114,110] then Gk sg b (adv s)
 else if isW sg s [105,102] then ifR sg n b (adv s)
 else if isW sg s [119,104,105,108,101] then whR sg n b (adv s)
 else if Df sg s.pos&&isM sg (adv s) [61] then(Cd sg (adv (adv s))).bind fun p=>Br sg [59] ⟨13,(sgO sg s.pos).text,[p.1],b⟩ p.2
 else doR sg b s:=rfl
theorem set_eq{sg:List Sg}{b:Bool}{s:Ps}(h:(Df sg s.pos&&isM sg (adv s) [61])=true):(Cd sg (adv (adv s))).bind (fun p=>Br sg [59] ⟨13,(sgO sg s.pos).text,[p.1],b⟩ p.2)=setR sg b s:=by
 simp only[Bool.and_eq_true] at h
 rw[setR,Ge,if_pos h.1]
 simp only[Option.bind_some]
 rw[Bz,if_pos h.2];rfl
theorem FI{sg:List Sg}{x:Gs}{s:Ps}(hs:pur x=some s):(sgO sg s.pos).kind=(pkG sg x 0).kind:=(Ra hs).symm
theorem b1V{sg:List Sg}{x:Gs}{n:Nat}{b:Bool}(hs:sgB sg)(h:gsOk sg x)(hk:(pkG sg x 0).kind=5):Ah sg x (stR sg (n+1) b) (AU x,Ed sg x 19 b):=
 JE (OE hs h (fun _=>(Rb (by omega)).2)) (fun s hp=>by rw[IQ,if_pos (by rw[FI hp];exact hk)])
theorem b1W{sg:List Sg}{x:Gs}{n:Nat}{b:Bool}{z:Int×Gs}(h:gsOk sg x)(hk:(pkG sg x 0).kind≠5)(hq:isG sg x 1 [118,97,114]=true)(hz:Ah sg (As x) (Dg sg b) z):Ah sg x (stR sg (n+1) b) z:=
 KS h (by omega) hq hz.1 (fun s hp ht=>by rw[IQ,if_neg (by rw[FI hp];exact hk),if_pos (show isW sg s _=true from ht)])
theorem a1c{sg:List Sg}{x:Gs}{n:Nat}{b:Bool}{z:Int×Gs}(h:gsOk sg x)(hk:(pkG sg x 0).kind≠5)(h1:isG sg x 1 [118,97,114]=false)(hq:isG sg x 1 [114,101,116,117,114,110]=true)(hz:Ah sg (As x) (Gk sg b) z):Ah sg x (stR sg (n+1) b) z:=
 KS h (by omega) hq hz.1 (fun s hp ht=>by rw[IQ,if_neg (by rw[FI hp];exact hk),if_neg (by simp [Ee hp h1]),if_pos (show isW sg s _=true from ht)])
theorem a1d{sg:List Sg}{x:Gs}{n:Nat}{b:Bool}{z:Int×Gs}(h:gsOk sg x)(hk:(pkG sg x 0).kind≠5)(h1:isG sg x 1 [118,97,114]=false)(h2:isG sg x 1 [114,101,116,117,114,110]=false)(hq:isG sg x 1 [105,102]=true)
 (hz:Ah sg (As x) (ifR sg n b) z):Ah sg x (stR sg (n+1) b) z:=
 KS h (by omega) hq hz.1 (fun s hp ht=>by rw[IQ,if_neg (by rw[FI hp];exact hk),if_neg (by simp [Ee hp h1]),if_neg (by simp [Ee hp h2]),if_pos (show isW sg s _=true from ht)])
theorem b1X{sg:List Sg}{x:Gs}{n:Nat}{b:Bool}{z:Int×Gs}(h:gsOk sg x)(hk:(pkG sg x 0).kind≠5)(h1:isG sg x 1 [118,97,114]=false)(h2:isG sg x 1 [114,101,116,117,114,110]=false)(h3:isG sg x 1 [105,102]=false)(hq:isG sg x 1 [119,104,105,108,101]=true)
 (hz:Ah sg (As x) (whR sg n b) z):Ah sg x (stR sg (n+1) b) z:=
 KS h (by omega) hq hz.1 (fun s hp ht=>by rw[IQ,if_neg (by rw[FI hp];exact hk),if_neg (by simp [Ee hp h1]),if_neg (by simp [Ee hp h2]),if_neg (by simp [Ee hp h3]),if_pos (show isW sg s _=true from ht)])
def seG(sg:List Sg)(x:Gs):Bool:=nmG sg x 0&&(decide ((pkG sg x 1).kind=4)&&((pkG sg x 1).text==[61]))
theorem UH{sg:List Sg}{x:Gs}{s:Ps}(hs:pur x=some s):(Df sg s.pos&&isM sg (adv s) [61])=seG sg x:=by
 obtain⟨hb,rfl⟩:=Er.1 hs
 have:=KP (sg:=sg) (n:=0) (CL hb)
 simp only[Int.add_zero] at this
 rw[seG,this,II hb];rfl
theorem b1Y{sg:List Sg}{x:Gs}{n:Nat}{b:Bool}{z:Int×Gs}(h:gsOk sg x)(hk:(pkG sg x 0).kind≠5)(h1:isG sg x 1 [118,97,114]=false)(h2:isG sg x 1 [114,101,116,117,114,110]=false)(h3:isG sg x 1 [105,102]=false)(h4:isG sg x 1 [119,104,105,108,101]=false)
 (hq:seG sg x=true) (hz:Ah sg x (setR sg b) z):Ah sg x (stR sg (n+1) b) z:=
 JE hz (fun s hp=>by rw[IQ,if_neg (by rw[FI hp];exact hk),if_neg (by simp [Ee hp h1]),if_neg (by simp [Ee hp h2]),if_neg (by simp [Ee hp h3]),if_neg (by simp [Ee hp h4]),if_pos (by rw[UH hp];exact hq),set_eq (by rw[UH hp];exact hq)])
theorem b1Z{sg:List Sg}{x:Gs}{n:Nat}{b:Bool}{z:Int×Gs}(h:gsOk sg x)(hk:(pkG sg x 0).kind≠5)(h1:isG sg x 1 [118,97,114]=false)(h2:isG sg x 1 [114,101,116,117,114,110]=false)(h3:isG sg x 1 [105,102]=false)(h4:isG sg x 1 [119,104,105,108,101]=false)
 (hq:seG sg x=false) (hz:Ah sg x (doR sg b) z):Ah sg x (stR sg (n+1) b) z:=
 JE hz (fun s hp=>by rw[IQ,if_neg (by rw[FI hp];exact hk),if_neg (by simp [Ee hp h1]),if_neg (by simp [Ee hp h2]),if_neg (by simp [Ee hp h3]),if_neg (by simp [Ee hp h4]),if_neg (by rw[UH hp];simp [hq])])
theorem b2a{sg:List Sg}{x:Gs}{b:Bool}{l:List Int×Gs}{q:Int×Gs}(hs:sgB sg)(h:gsOk sg x)(hl:Bx sg (Au sg (Cx sg x) [40]) (Bu sg (BP sg) [41] (sg.length+1) []) l)(hll:l.1.length≤3001)
 (hq:Ah sg (Au sg l.2 [41]) (EU sg) q):Ah sg x (Gg sg b) (AU q.2,Aq q.2 ⟨20,CH sg x,l.1++[q.1],b⟩):=by
 have k1:=BM (k:=fun t s=>(Bz sg [40] s).bind fun s1=>(Bu sg (BP sg) [41] (sg.length+1) [] s1).bind fun q=>(Bz sg [41] q.2).bind fun s2=>(EU sg s2).bind fun r=>Ba ⟨20,t,q.1++[r.1],b⟩ r.2) (CO (f:=Gg sg b) h) (Mv h).1 (fun _ _=>rfl)
 have k2:=GS (g':=fun s1=>(Bu sg (BP sg) [41] (sg.length+1) [] s1).bind fun q=>(Bz sg [41] q.2).bind fun s2=>(EU sg s2).bind fun r=>Ba ⟨20,CH sg x,q.1++[r.1],b⟩ r.2) k1 (fun _ _=>rfl)
 have k3:=BM (k:=fun ks s=>(Bz sg [41] s).bind fun s2=>(EU sg s2).bind fun r=>Ba ⟨20,CH sg x,ks++[r.1],b⟩ r.2) k2 hl (fun _ _=>rfl)
 have k4:=GS (g':=fun s2=>(EU sg s2).bind fun r=>Ba ⟨20,CH sg x,l.1++[r.1],b⟩ r.2) k3 (fun _ _=>rfl)
 have k5:=BM (k:=fun k s=>Ba ⟨20,CH sg x,l.1++[k],b⟩ s) k4 hq.1 (fun _ _=>rfl)
 refine Rc k5 (Et (IP hs) (by simp;omega)) (fun hb=> ?_)
 have:=(Cz hq).2.2.2 hb;have:=k4.2.2.1;omega
theorem b2b{sg:List Sg}{x:Gs}{b:Bool}{l:List Int×Gs}(hs:sgB sg)(h:gsOk sg x)(hl:Bx sg (Au sg (Cx sg x) [123]) (Cy sg (CV sg) [125] (sg.length+1) []) l)(hll:l.1.length≤3001):
 Ah sg x (GR sg b) (Ct sg l.2 [125],Cs sg l.2 [125] ⟨21,CH sg x,l.1,b⟩):=by
 have k1:=BM (k:=fun t s=>(Bz sg [123] s).bind fun s1=>(Cy sg (CV sg) [125] (sg.length+1) [] s1).bind fun q=>Br sg [125] ⟨21,t,q.1,b⟩ q.2) (CO (f:=GR sg b) h) (Mv h).1 (fun _ _=>rfl)
 have k2:=GS (g':=fun s1=>(Cy sg (CV sg) [125] (sg.length+1) [] s1).bind fun q=>Br sg [125] ⟨21,CH sg x,q.1,b⟩ q.2) k1 (fun _ _=>rfl)
 have k3:=BM (k:=fun ks s=>Br sg [125] ⟨21,CH sg x,ks,b⟩ s) k2 hl (fun _ _=>rfl)
 exact KT k3 (Et (IP hs) (by omega))
theorem b2c{sg:List Sg}{x:Gs}{b:Bool}(hs:sgB sg)(h:gsOk sg x)(hk:(pkG sg x 0).kind=5):Ah sg x (CV sg b) (AU x,Ed sg x 19 b):=
 JE (OE hs h (fun _=>(Rb (by omega)).2)) (fun s hp=>by rw[CV,if_pos (by rw[FI hp];exact hk)])
theorem b2d{sg:List Sg}{x:Gs}{b:Bool}{z:Int×Gs}(h:gsOk sg x)(hk:(pkG sg x 0).kind≠5)(hq:isG sg x 1 [118,97,114]=true)(hz:Ah sg (As x) (Dg sg b) z):Ah sg x (CV sg b) z:=
 KS h (by omega) hq hz.1 (fun s hp ht=>by rw[CV,if_neg (by rw[FI hp];exact hk),if_pos (show isW sg s _=true from ht)])
theorem b2e{sg:List Sg}{x:Gs}{b:Bool}{z:Int×Gs}(h:gsOk sg x)(hk:(pkG sg x 0).kind≠5)(hq:isG sg x 1 [118,97,114]=false)(hz:Ah sg x (Gg sg b) z):Ah sg x (CV sg b) z:=
 JE hz (fun s hp=>by rw[CV,if_neg (by rw[FI hp];exact hk),if_neg (by simp [Ee hp hq])])
theorem b2f{sg:List Sg}{x:Gs}{b:Bool}(hs:sgB sg)(h:gsOk sg x)(hk:(pkG sg x 0).kind=5):Ah sg x (Dh sg b) (AU x,Ed sg x 19 b):=
 JE (OE hs h (fun _=>(Rb (by omega)).2)) (fun s hp=>by rw[Dh,if_pos (by rw[FI hp];exact hk)])
theorem b2g{sg:List Sg}{x:Gs}{b:Bool}{z:Int×Gs}(h:gsOk sg x)(hk:(pkG sg x 0).kind≠5)(hq:isG sg x 1 [118,97,114]=true)(hz:Ah sg (As x) (Dg sg b) z):Ah sg x (Dh sg b) z:=
 KS h (by omega) hq hz.1 (fun s hp ht=>by rw[Dh,if_neg (by rw[FI hp];exact hk),if_pos (show isW sg s _=true from ht)])
theorem b2h{sg:List Sg}{x:Gs}{b:Bool}{z:Int×Gs}(h:gsOk sg x)(hk:(pkG sg x 0).kind≠5)(h1:isG sg x 1 [118,97,114]=false)(hq:isG sg x 1 [99,108,97,115,115]=true)(hz:Ah sg (As x) (GR sg b) z):Ah sg x (Dh sg b) z:=
 KS h (by omega) hq hz.1 (fun s hp ht=>by rw[Dh,if_neg (by rw[FI hp];exact hk),if_neg (by simp [Ee hp h1]),if_pos (show isW sg s _=true from ht)])
theorem b2i{sg:List Sg}{x:Gs}{b:Bool}{z:Int×Gs}(h:gsOk sg x)(hk:(pkG sg x 0).kind≠5)(h1:isG sg x 1 [118,97,114]=false)(hq:isG sg x 1 [99,108,97,115,115]=false)(hz:Ah sg x (Gg sg b) z):Ah sg x (Dh sg b) z:=
 JE hz (fun s hp=>by rw[Dh,if_neg (by rw[FI hp];exact hk),if_neg (by simp [Ee hp h1]),if_neg (by simp [Ee hp hq])])
def EW(sg:List Sg)(y:Gs)(ks:List Int)(ms:List (Int×Int))(N:Nat):Prop:=
 gsOk sg y∧y.deep=0∧(pur y).bind (KO sg N ks ms)=KO sg (sg.length+1) [] [] ps0∧(y.bad=false→(sg.length:Int)-y.pos<N)∧(ks.length:Int)≤y.pos+1∧(y.bad=false→(ks.length:Int)≤y.pos)∧ms.length=ks.length
def gs0:Gs:=⟨0,0,false,[]⟩
theorem b2j{sg:List Sg}:gsOk sg gs0:=⟨by simp [gs0],by simp [gs0],by simp [gs0],by simp [gs0]⟩
theorem b2k{sg:List Sg}:EW sg gs0 [] [] (sg.length+1):=⟨b2j,rfl,rfl,fun _=>by simp only[gs0];omega,by simp [gs0],fun _=>by simp [gs0],rfl⟩
theorem b2l{sg:List Sg}{y:Gs}{ks:List Int}{ms:List (Int×Int)}{N:Nat}{z:Int×Gs}(h:EW sg y ks ms N)(hb:y.bad=false)(hl:y.pos<sg.length)(hz:Ah sg y (Dh sg ((pkG sg y 0).blank&&decide (0<ks.length))) z):
 ∃M,N=M+1∧EW sg z.2 (ks++[z.1]) (ms++[(y.pos,z.2.pos)]) M:=by
 obtain⟨h0,hd,h1,h2,h3,h4,h5⟩:=h
 have h2:=h2 hb;have h4:=h4 hb
 match N with
 |0=>omega
 |M+1=>
  have e:=Cz hz
  obtain⟨⟨a1,a2,a3,a4,a5⟩,b⟩:=hz
  refine⟨M,rfl,a1,by omega,?_,fun hw=>by have:=e.2.2.2 hw;omega,by simp;omega,fun hw=>by have:=e.2.2.2 hw;simp;omega,by simp [h5]⟩
  rw[←h1,CL hb,Option.bind_some,KO,if_pos hl]
  rw[CL hb] at a4 a5
  have eb:(sgO sg y.pos).blank=(pkG sg y 0).blank:=by rw[II hb];simp
  simp only[Option.bind_some] at a4 a5
  rw[eb,a4]
  cases hp:Dh sg ((pkG sg y 0).blank&&decide (0<ks.length)) ⟨y.pos,y.deep,y.nodes⟩ with
  |none=>rfl
  |some p=>
   simp only[Option.map_some,Option.bind_some]
   have:=a5 p hp
   have hpos:z.2.pos=p.2.pos:=by
    rw[hp] at a4
    simp only[Option.map_some] at a4
    obtain⟨_,e2⟩:=Er.1 a4
    rw[e2]
   rw[this,hpos]
def EI(sg:List Sg)(y:Gs)(ks:List Int):Gs:=Aq y ⟨22,[],ks,false⟩
theorem b2m{sg:List Sg}{y:Gs}{ks:List Int}{ms:List (Int×Int)}{N:Nat}(h:EW sg y ks ms N)(hb:(EI sg y ks).bad=true)(he:y.bad=true∨¬y.pos<sg.length):Jz sg=none:=by
 obtain⟨h0,hd,h1,h2,h3,h4,h5⟩:=h
 rw[Jz,←h1]
 cases hy:y.bad with
 |true=>rw[DG hy];rfl
 |false=>
  have h2:=h2 hy
  have he:¬y.pos<sg.length:=by rcases he with he|he
                               ·rw[hy] at he;cases he
                               ·exact he
  match N with
  |0=>have:=h0.1;omega
  |N+1=>
   rw[CL hy,Option.bind_some,KO,if_neg he,Option.bind_some]
   unfold EI Aq at hb
   split at hb
   ·rename_i hf
    have h3:y.nodes.length=300:=by simpa [Dm,hy] using hf
    rw[Ba,if_pos (by simp only;omega)];rfl
   ·simp only at hb;rw[hy] at hb;cases hb
theorem b2n{sg:List Sg}{y:Gs}{ks:List Int}{ms:List (Int×Int)}{N:Nat}(h:EW sg y ks ms N)(hb:(EI sg y ks).bad=false)(he:y.bad=true∨¬y.pos<sg.length):
 Jz sg=if treeOk (EI sg y ks).nodes then some (ms,(EI sg y ks).nodes) else none:=by
 obtain⟨h0,hd,h1,h2,h3,h4,h5⟩:=h
 have hy:=(@IM y ⟨22,[],ks,false⟩).2.2 hb
 have h2:=h2 hy
 have he:¬y.pos<sg.length:=by rcases he with he|he
                              ·rw[hy] at he;cases he
                              ·exact he
 rw[Jz,←h1]
 match N with
 |0=>have:=h0.1;omega
 |N+1=>
  rw[CL hy,Option.bind_some,KO,if_neg he,Option.bind_some]
  unfold EI Aq at hb ⊢
  split at hb
  ·simp [Bs] at hb
  ·rename_i hf
   rw[if_neg hf]
   have hf2:=QT (by simpa using hf)
   have:=h0.2.2.1
   rw[Ba,if_neg (by simp only;omega)]
   simp only[Option.bind_some]
end Go.My
end
section
set_option linter.unusedVariables false
set_option linter.unusedSimpArgs false
namespace Go.My
open Go.Eng Go.Proofs
variable {G:GInv}
theorem KU{P:Program}{f:FuncId}{S:Sig}{fn:Func}{c:Code}(hfn:P.funcs[f]? =some fn)(hb:fn.body=some c)(hn:(fn.name== "runtime.NumGoroutine")=false)(hp:∀x,¬S.pre x):Al G P f S:=
 ⟨⟨⟨fn,hfn,hn,by simp [hb]⟩,fun x y hx _=>(hp x hx).elim⟩,fun x hx=>(hp x hx).elim⟩
theorem b2o{r:Nat}{s:ST}{g:Gs}(hr:1≤r)(h:wP r 0 s g):False:=by
 have h1:=h.1.1.2.1.2;have h2:=h.2;omega
theorem b2p{r:Nat}{s:ST}{g:Gs}(hr:1≤r)(h:vP r 0 s g):False:=by
 have h1:=h.1.1.2.1.2;have h2:=h.2;omega
theorem b2q{s:ST}{g:Gs}(h:rOk s g∧g.deep≤20):vP 11 peN s g:=by
 have h1:=h.1.2.1;have h2:=h.1.1.1
 exact⟨h,by unfold peN;omega⟩
end Go.My
end
section
set_option linter.unusedVariables false
set_option linter.unusedSimpArgs false
namespace Go.My
open Go.Eng Go.Proofs
variable {G:GInv}
def okD(s:ST)(x:Gs):Prop:=rOk s x∧x.deep≤20
def okN(s:ST)(x:Gs):Prop:=okD s x∧x.bad=false∧x.pos<s.sg.length
theorem a1e{s:ST}{x:Gs}(h:okN s x):rOk s (As x)∧(As x).deep≤20:=⟨⟨h.1.1.1,FG h.1.1.2 h.2.2⟩,h.1.2⟩
theorem a1f{s:ST}{x:Gs}(h:rOk s x):rOk s (Cx s.sg x):=⟨h.1,(Mv h.2).1.1⟩
theorem b2r{s:ST}{x:Gs}(h:rOk s x):(Cx s.sg x).deep=x.deep∧x.pos≤(Cx s.sg x).pos:=by
 have:=Cz (Mv h.2);exact⟨this.1,this.2.1⟩
theorem Gl{s:ST}{x:Gs}{m:List UInt8}(h:rOk s x):rOk s (Au s.sg x m)∧(Au s.sg x m).deep=x.deep:=⟨⟨h.1,(GT h.2).1⟩,(GT h.2).2.1⟩
theorem JG{a:Bool}{k:Int}(h:a=true):decide (k>0)=(a&&decide (0<k)):=by simp [h]
theorem JH{a:Bool}{k:Int}(h:a=false):false=(a&&decide (0<k)):=by simp [h]
theorem b2s{s:ST}{x:Gs}(h:rOk s x)(hd:x.deep≤20)(hq:isG s.sg (Cx s.sg x) 4 [61]=true):rOk s (Aw s.sg (Cx s.sg x) [61])∧(Aw s.sg (Cx s.sg x) [61]).deep≤20:=by
 rw[Eg hq]
 have a:=a1f h;have b:=b2r h
 refine⟨⟨h.1,FG a.2 (CM hq (by omega)).2⟩,?_⟩
 have e:(As (Cx s.sg x)).deep=(Cx s.sg x).deep:=rfl
 omega
theorem b2t{s:ST}{x:Gs}{b:Bool}{z:Int×Gs}(h:rOk s x)(hq:isG s.sg (Cx s.sg x) 4 [61]=true)(hz:Ah s.sg (Aw s.sg (Cx s.sg x) [61]) (Cd s.sg) z):
 Ah s.sg x (Dg s.sg b) (Ct s.sg z.2 [59],Cs s.sg z.2 [59] ⟨12,CH s.sg x,[z.1],b⟩):=by
 rw[Eg hq] at hz;exact b1J h.1 h.2 hq hz
theorem b2u{s:ST}{x:Gs}(h:rOk s x)(hq:isG s.sg (Cx s.sg x) 4 [61]=false):rOk s (Aw s.sg (Cx s.sg x) [61]):=by
 rw[Di hq];exact a1f h
theorem b2v{s:ST}{x:Gs}{b:Bool}(h:rOk s x)(hq:isG s.sg (Cx s.sg x) 4 [61]=false):
 Ah s.sg x (Dg s.sg b) (Ct s.sg (Aw s.sg (Cx s.sg x) [61]) [59],Cs s.sg (Aw s.sg (Cx s.sg x) [61]) [59] ⟨12,CH s.sg x,[],b⟩):=by
 rw[Di hq];exact b1I h.1 h.2 hq
theorem a1g{α:Type}{s:ST}{x:Gs}{f:Ps→Option (α×Ps)}{y:α×Gs}(h:okD s x)(hy:Bx s.sg x f y):okD s y.2:=⟨⟨h.1.1,hy.1⟩,by have:=hy.2.1;have:=h.2;omega⟩
theorem a1h{s:ST}{x:Gs}{w:List UInt8}(h:okD s x)(hq:isG s.sg x 1 w=true):okN s x:=⟨h,(CM hq (by omega)).1,(CM hq (by omega)).2⟩
theorem a1i{s:ST}{x:Gs}{m:List UInt8}(h:okD s x)(hq:isG s.sg x 1 m=true):okD s (As x):=⟨(a1e (a1h h hq)).1,(a1e (a1h h hq)).2⟩
theorem b2w{s:ST}{x:Gs}{n:Nat}{b:Bool}{c q:Int×Gs}(h:okD s x)(hk:(pkG s.sg x 0).kind≠5)(h1:isG s.sg x 1 [118,97,114]=false)(h2:isG s.sg x 1 [114,101,116,117,114,110]=false)(h3:isG s.sg x 1 [105,102]=false)(hq:isG s.sg x 1 [119,104,105,108,101]=true)
 (hc:Bx s.sg (As x) (Dl s.sg) c) (hz:Ah s.sg c.2 (BJ s.sg (stR s.sg n)) q):Ah s.sg x (stR s.sg (n+1) b) (AU q.2,Aq q.2 ⟨17,[],[c.1,q.1],b⟩):=
 b1X h.1.2 hk h1 h2 h3 hq (b1S (a1i h hq).1.2 hc hz)
theorem b2x{α:Type}{s:ST}{x:Gs}{n:Nat}{f:Ps→Option (α×Ps)}{y:α×Gs}(h:20-x.deep≤(n:Int))(hy:Bx s.sg x f y):20-y.2.deep≤(n:Int):=by have:=hy.2.1;omega
theorem b2y{α:Type}{s:ST}{x:Gs}{n:Nat}{f:Ps→Option (α×Ps)}{y:α×Gs}(h:20-x.deep≤(n:Int))(hy:Ah s.sg x f y):20-y.2.deep≤(n:Int):=b2x h hy.1
attribute [local irreducible] pE Bu CJ fnR Ah Bx gsOk Au Cs Aq CN Ed Aw DH DQ AU Ct pkG isG nmG Cx CH Dg Gk Dl Cd BJ stR Cy
end Go.My
end
section
set_option linter.unusedVariables false
set_option linter.unusedSimpArgs false
namespace Go.My
open Go.Eng Go.Proofs
variable {G:GInv}
attribute [local irreducible] pE Bu CJ fnR Ah Bx gsOk Au Cs Aq CN Ed Aw DH DQ AU Ct pkG isG nmG Cx CH Dg Gk Dl Cd BJ stR Cy EU Gg CV Dh GR BP
end Go.My
end
section
set_option linter.unusedVariables false
set_option linter.unusedSimpArgs false
namespace Go.My
open Go.Eng
def Hw(t:List UInt8)(i br:Int)(l:List Sg)(n:Nat):Prop:=
 (0≤i∧i≤t.length)∧(0≤br∧br≤i)∧(l.length:Int)≤i∧(t.length:Int)-i<n∧ET t (t.length+1) 0 0=(ET t n i br).map (l++ ·)
theorem b2z{t:List UInt8}:Hw t 0 0 [] (t.length+1):=by
 refine⟨by omega,by omega,by simp,by simp;omega,?_⟩
 cases ET t (t.length+1) 0 0<;>simp
theorem Rd{t:List UInt8}{n:Nat}{i br:Int}{c:UInt8}(hc:t[i.toNat]? =some c):ET t (n+1) i br=if c.toNat=32 then ET t n (i+1) br
 else if c.toNat=10 then ET t n (i+1) (br+1)
 else if(Be (t.drop i.toNat)).ok then(ET t n (i+(Be (t.drop i.toNat)).size) 0).map (⟨(Be (t.drop i.toNat)).kind,(Be (t.drop i.toNat)).text,i,decide (br>1)⟩:: ·)
 else none:=by rw[ET,hc]
theorem Re{t:List UInt8}{i br:Int}{l:List Sg}{n:Nat}(h:Hw t i br l n)(hi:i<t.length):∃m,n=m+1:=by
 obtain⟨h1,h2,h3,h4,h5⟩:=h
 match n with
 |0=>omega
 |m+1=>exact⟨m,rfl⟩
theorem b2A{t:List UInt8}{i br:Int}{l:List Sg}{n:Nat}{c:UInt8}(hc:t[i.toNat]? =some c)(h:Hw t i br l (n+1))(hi:i<t.length)(h32:c.toNat=32):Hw t (i+1) br l n:=by
 obtain⟨h1,h2,h3,h4,h5⟩:=h
 refine⟨by omega,by omega,by omega,by omega,?_⟩
 rw[h5,Rd hc,if_pos h32]
theorem b2B{t:List UInt8}{i br:Int}{l:List Sg}{n:Nat}{c:UInt8}(hc:t[i.toNat]? =some c)(h:Hw t i br l (n+1))(hi:i<t.length)(h32:c.toNat=10):Hw t (i+1) (br+1) l n:=by
 obtain⟨h1,h2,h3,h4,h5⟩:=h
 refine⟨by omega,by omega,by omega,by omega,?_⟩
 rw[h5,Rd hc,if_neg (by omega),if_pos h32]
theorem b2C{t:List UInt8}{i br:Int}{l:List Sg}{n:Nat}{c:UInt8}(hc:t[i.toNat]? =some c)(h:Hw t i br l (n+1))(hi:i<t.length)(h32:c.toNat≠32)(h10:c.toNat≠10)
 (hok:(Be (t.drop i.toNat)).ok=true) (hz:1≤(Be (t.drop i.toNat)).size∧(Be (t.drop i.toNat)).size≤t.length-i):
 Hw t (i+(Be (t.drop i.toNat)).size) 0 (l++[⟨(Be (t.drop i.toNat)).kind,(Be (t.drop i.toNat)).text,i,decide (br>1)⟩]) n:=by
 obtain⟨h1,h2,h3,h4,h5⟩:=h
 refine⟨by omega,by omega,by simp;omega,by omega,?_⟩
 rw[h5,Rd hc,if_neg h32,if_neg h10,if_pos hok]
 cases ET t n (i+(Be (t.drop i.toNat)).size) 0<;>simp
theorem b2D{t:List UInt8}{i br:Int}{l:List Sg}{n:Nat}{c:UInt8}(hc:t[i.toNat]? =some c)(h:Hw t i br l (n+1))(hi:i<t.length)(h32:c.toNat≠32)(h10:c.toNat≠10)
 (hok:(Be (t.drop i.toNat)).ok=false) (hl:¬3000<t.length):Cw t=none:=by
 rw[Cw,if_neg hl,h.2.2.2.2,Rd hc,if_neg h32,if_neg h10,if_neg (by simp [hok])];rfl
theorem b2E{t:List UInt8}{i br:Int}{l:List Sg}{n:Nat}(h:Hw t i br l n)(hi:¬i<t.length)(hl:¬3000<t.length):Cw t=some l:=by
 obtain⟨h1,h2,h3,h4,h5⟩:=h
 rw[Cw,if_neg hl,h5]
 match n with
 |0=>omega
 |n+1=>rw[ET,List.getElem?_eq_none (by omega)];simp
theorem b2F{t:List UInt8}(h:3000<t.length):Cw t=none:=if_pos h
end Go.My
end
section
set_option linter.unusedVariables false
set_option linter.unusedSimpArgs false
namespace Go.My
open Go.Eng Go.Proofs
variable {G:GInv}
theorem UI{p:UInt8→Bool}{b:UInt8}{s:List UInt8}(h:p b=true):1≤((b::s).takeWhile p).length:=by
 rw[List.takeWhile_cons,if_pos h];simp
theorem Rf{p:UInt8→Bool}{s:List UInt8}:(s.takeWhile p).length≤s.length:=(List.takeWhile_prefix p).length_le
theorem b2G{s:List UInt8}:(Cp s).length≤s.length:=by
 unfold Cp
 have:=(List.dropWhile_suffix (fun c:UInt8=>decide (c.toNat=32)) (l:=s.reverse)).length_le
 simpa using this
theorem a1j{s:List UInt8}(h:(Be s).ok=true):1≤(Be s).size∧(Be s).size≤s.length∧(Be s).text.length≤s.length:=by
 match s with
 |[]=>cases h
 |b::s=>
  unfold Be at h ⊢
  simp only at h ⊢
  split
  ·rename_i hb
   have:=UI (s:=s) (p:=BB) (b:=b) (by simp [BB,hb]);have:=Rf (p:=BB) (s:=b::s);simp only;omega
  ·rename_i hb
   rw[if_neg hb] at h
   split
   ·rename_i hb2
    have:=UI (s:=s) (p:=Bn) (b:=b) hb2;have:=Rf (p:=Bn) (s:=b::s);simp only;omega
   ·rename_i hb2
    rw[if_neg hb2] at h
    split
    ·rename_i hb3
     rw[if_pos hb3] at h
     simp only at h ⊢
     unfold Da at h ⊢
     split at h
     ·cases h
     ·simp only[List.length_take,List.length_cons] at*;omega
    ·rename_i hb3
     rw[if_neg hb3] at h
     split
     ·rename_i hb4
      have hb5:b=47:=by
       cases s with
       |nil=>simp at hb4
       |cons c s=>simp at hb4;exact hb4.1
      have h1:=UI (s:=s) (p:=BU) (b:=b) (by subst hb5;rfl);have h2:=Rf (p:=BU) (s:=b::s);have h3:= @b2G ((b::s).takeWhile BU)
      simp only;omega
     ·rename_i hb4
      rw[if_neg hb4] at h
      split
      ·simp only[List.length_take,List.length_cons];omega
      ·rename_i hb5
       rw[if_neg hb5] at h
       split
       ·simp only[List.length_take,List.length_cons];omega
       ·rename_i hb6
        rw[if_neg hb6] at h
        cases h
def sgJ(t:List UInt8)(i br:Int)(l:List Sg)(n:Nat):Prop:=(Hw t i br l n∧¬3000<t.length)∧∀e∈l,e.text.length≤3000
theorem b2H{t:List UInt8}(h:¬(t.length:Int)>3000):sgJ t 0 0 [] (t.length+1):=⟨⟨b2z,by omega⟩,by simp⟩
theorem MB{t:List UInt8}{i br:Int}{l:List Sg}{n:Nat}(h:sgJ t i br l n):((0≤i∧i≤t.length)∧(0≤br∧br≤i)∧(l.length:Int)≤i)∧t.length≤3000:=by
 have:=h.1.1;have:=h.1.2;exact⟨⟨h.1.1.1,h.1.1.2.1,h.1.1.2.2.1⟩,by omega⟩
theorem a1k{t:List UInt8}{i br:Int}{l:List Sg}{n:Nat}{c:UInt8}(hc:t[i.toNat]? =some c)(h:sgJ t i br l n)(hi:i<t.length)(h32:c.toNat=32):sgJ t (i+1) br l (n-1)∧n-1<n:=by
 obtain⟨m,rfl⟩:=Re h.1.1 hi
 exact⟨⟨⟨b2A hc h.1.1 hi h32,h.1.2⟩,h.2⟩,by omega⟩
theorem a1l{t:List UInt8}{i br:Int}{l:List Sg}{n:Nat}{c:UInt8}(hc:t[i.toNat]? =some c)(h:sgJ t i br l n)(hi:i<t.length)(h32:c.toNat=10):sgJ t (i+1) (br+1) l (n-1)∧n-1<n:=by
 obtain⟨m,rfl⟩:=Re h.1.1 hi
 exact⟨⟨⟨b2B hc h.1.1 hi h32,h.1.2⟩,h.2⟩,by omega⟩
theorem a1m{t:List UInt8}{i br:Int}{l:List Sg}{n:Nat}(h:sgJ t i br l n)(hok:(Be (t.drop i.toNat)).ok=true):1≤(Be (t.drop i.toNat)).size∧(Be (t.drop i.toNat)).size≤t.length-i∧(Be (t.drop i.toNat)).text.length≤3000:=by
 have a:=a1j hok
 have b:=(MB h)
 simp only[List.length_drop] at a
 omega
theorem b2I{t:List UInt8}{i br:Int}{l:List Sg}{n:Nat}{c:UInt8}(hc:t[i.toNat]? =some c)(h:sgJ t i br l n)(hi:i<t.length)(h32:c.toNat≠32)(h10:c.toNat≠10)
 (hok:(Be (t.drop i.toNat)).ok=true):
 sgJ t (i+(Be (t.drop i.toNat)).size) 0 (l++[⟨(Be (t.drop i.toNat)).kind,(Be (t.drop i.toNat)).text,i,decide (br>1)⟩]) (n-1)∧n-1<n:=by
 obtain⟨m,rfl⟩:=Re h.1.1 hi
 have hz:=a1m h hok
 refine⟨⟨⟨b2C hc h.1.1 hi h32 h10 hok ⟨hz.1,hz.2.1⟩,h.1.2⟩,?_⟩,by omega⟩
 intro e he
 rcases List.mem_append.1 he with he|he
 ·exact h.2 e he
 ·simp at he;subst he;exact hz.2.2
theorem b2J{t:List UInt8}{i br:Int}{l:List Sg}{n:Nat}{c:UInt8}(hc:t[i.toNat]? =some c)(h:sgJ t i br l n)(hi:i<t.length)(h32:c.toNat≠32)(h10:c.toNat≠10)
 (hok:(Be (t.drop i.toNat)).ok=false):Cw t=none:=by
 obtain⟨m,rfl⟩:=Re h.1.1 hi
 exact b2D hc h.1.1 hi h32 h10 hok h.1.2
def sgQ(t:List UInt8)(l:List Sg):Prop:=(Cw t=some l∧sgB l)∨(Cw t=none∧l=[])
theorem a1n{t:List UInt8}{i br:Int}{l:List Sg}{n:Nat}(h:sgJ t i br l n)(hi:¬i<t.length):(Cw t).isSome=true∧sgQ t l:=by
 have a:=b2E h.1.1 hi h.1.2
 have b:=MB h
 exact⟨by rw[a];rfl,.inl ⟨a,by omega,h.2⟩⟩
theorem Rg{t:List UInt8}(h:Cw t=none):(Cw t).isSome=false∧sgQ t []:=⟨by rw[h];rfl,.inr ⟨h,rfl⟩⟩
theorem a1o{t:List UInt8}(h:(t.length:Int)>3000):Cw t=none:=b2F (by omega)
abbrev iF {α β:Type} (i:Int×Int×Bool×List Nd×α×β):Gs:=⟨i.1,i.2.1,i.2.2.1,i.2.2.2.1⟩
theorem b2K{sg:List Sg}:EW sg ⟨0,0,false,[]⟩ [] [] (sg.length+1):=b2k
theorem b2L{sg:List Sg}{y:Gs}{ks:List Int}{ms:List (Int×Int)}{N:Nat}{b:Bool}{z:Int×Gs}(h:EW sg y ks ms N)(hb:y.bad=false)(hl:y.pos<sg.length)(hz:Ah sg y (Dh sg b) z)(e:b=((pkG sg y 0).blank&&decide (0<(ks.length:Int)))):
 EW sg z.2 (ks++[z.1]) (ms++[(y.pos,z.2.pos)]) (N-1)∧N-1<N:=by
 subst e
 exact Mz (b2l h hb hl (z:=z) (by
  have:decide (0<ks.length)=decide (0<(ks.length:Int)):=by simp
  rw[this];exact hz))
theorem b2M{s:ST}{y:Gs}{ks:List Int}{ms:List (Int×Int)}{N:Nat}(hs:sgB s.sg)(h:EW s.sg y ks ms N):okD s y:=⟨⟨hs,h.1⟩,by have:=h.2.1;omega⟩
theorem a1p{sg:List Sg}{y:Gs}{ks:List Int}{ms:List (Int×Int)}{N:Nat}(hs:sgB sg)(h:EW sg y ks ms N):ks.length≤3001∧ms.length=ks.length∧0≤y.pos∧y.pos≤sg.length:=by
 have h1:=h.1.1;have h2:=hs.1;have h3:=h.2.2.2.2.1;have h4:=h.2.2.2.2.2.2
 omega
attribute [local irreducible] pE Bu CJ fnR Ah Bx gsOk Au Cs Aq CN Ed Aw DH DQ AU Ct pkG isG nmG Cx CH Dg Gk Dl Cd BJ stR Cy EU Gg CV Dh GR BP EW sgJ
end Go.My
end
section
set_option linter.unusedVariables false
set_option linter.unusedSimpArgs false
namespace Go.My
open Go.Eng Go.Proofs
variable {G:GInv}
def rsQ(t:List UInt8)(sg:List Sg)(ms:List (Int×Int))(g:Gs):Prop:=(g.bad=true∧CU t=none)∨((g.bad=false∧sgB sg∧Cw t=some sg)∧Jz sg=some (ms,g.nodes)∧Bc g.nodes)
theorem a1q{sg:List Sg}{g:Gs}(h:gsOk sg g):Bc g.nodes∧g.nodes.length≤300:=by
 refine⟨⟨by have:=h.2.2.1;omega,fun x hx=> ?_⟩,h.2.2.1⟩
 have:=h.2.2.2 x hx
 exact⟨by have:=this.1;omega,by have:=this.2;omega⟩
theorem MC{t:List UInt8}{l:List Sg}(h:sgQ t l)(hn:(Cw t).isSome=true):Cw t=some l∧sgB l:=by
 rcases h with h|h
 ·exact h
 ·rw[h.1] at hn;cases hn
theorem b2N{t:List UInt8}{l:List Sg}{y:Gs}{ks:List Int}{ms:List (Int×Int)}{N:Nat}(h:sgQ t l)(hn:(Cw t).isSome=true)(hf:EW l y ks ms N∧(y.bad=true∨¬y.pos<l.length))(hb:(EI l y ks).bad=true):rsQ t l ms (EI l y ks):=by
 refine .inl ⟨hb,?_⟩
 rw[CU,(MC h hn).1]
 simp only[Option.bind_some,b2m hf.1 hb hf.2];rfl
theorem a1r{l:List Sg}{y:Gs}{ks:List Int}{ms:List (Int×Int)}{N:Nat}(hs:sgB l)(h:EW l y ks ms N):CK ⟨22,[],ks,false⟩:=⟨by simp,by have:=(a1p hs h).1;simp only;omega⟩
theorem b2O{t:List UInt8}{l:List Sg}{y:Gs}{ks:List Int}{ms:List (Int×Int)}{N:Nat}(h:sgQ t l)(hn:(Cw t).isSome=true)(hf:EW l y ks ms N∧(y.bad=true∨¬y.pos<l.length))(hb:(EI l y ks).bad=false):
 rsQ t l ms ⟨(EI l y ks).pos,(EI l y ks).deep,!treeOk (EI l y ks).nodes,(EI l y ks).nodes⟩:=by
 have hk:=a1r (MC h hn).2 hf.1
 have e:=b2n hf.1 hb hf.2
 cases htr:treeOk (EI l y ks).nodes with
 |false=>
  rw[htr] at e
  refine .inl ⟨rfl,?_⟩
  rw[CU,(MC h hn).1]
  simp only[Option.bind_some,e];rfl
 |true=>
  rw[htr] at e
  exact .inr ⟨⟨rfl,(MC h hn).2,(MC h hn).1⟩,e,(a1q (OC hf.1.1 hk)).1⟩
theorem a1s{t:List UInt8}{l:List Sg}{ms:List (Int×Int)}{g:Gs}(h:rsQ t l ms g)(hb:g.bad=true):CU t=none:=by
 rcases h with h|h
 ·exact h.2
 ·rw[h.1.1] at hb;cases hb
theorem b2P{t:List UInt8}{l:List Sg}{ms:List (Int×Int)}{g:Gs}(h:rsQ t l ms g)(hb:g.bad=false):CU t=some g.nodes∧Bc g.nodes:=by
 rcases h with h|h
 ·rw[h.1] at hb;cases hb
 ·refine⟨?_,h.2.2⟩
  rw[CU,h.1.2.2];simp only[Option.bind_some,h.2.1];rfl
attribute [local irreducible] gsOk EW EI CU Jz Cw treeOk
end Go.My
end
section
set_option linter.unusedVariables false
set_option linter.unusedSimpArgs false
namespace Go.My
open Go.Eng Go.Proofs
variable {G:GInv}
def OK:List (List UInt8):=[[38,38],[124,124],[61,61],[61,62],[46,46]]
def KV:List (List UInt8):=[[40],[41],[123],[125],[91],[93],[59],[44],[46],[61],[43],[45],[42],[60],[63],[58]]
def mks:List (List UInt8):=[[38,38],[124,124],[61,61],[61,62],[46,46],[40],[41],[123],[125],[91],[93],[59],[44],[46],[61],[43],[45],[42],[60],[63],[58]]
def Fl(s:List UInt8):List UInt8:=(mks.find? fun m=>s.take m.length==m).getD []
theorem UJ{s:List UInt8}{k:Nat}:∀ {l:List (List UInt8)},(∀m∈l,m.length=k)→l.find? (fun m=>s.take m.length==m)=if l.elem (s.take k) then some (s.take k) else none
 |[],_=>rfl
 |m::l,h=>by
  have hm:=h m (by simp)
  rw[List.find?_cons,List.elem_cons,hm]
  cases he:(s.take k==m) with
  |true=>
   have:s.take k=m:=by simpa using he
   simp [this]
  |false=>
   rw[UJ (l:=l) (fun m hm=>h m (by simp [hm]))]
theorem a1t{s:List UInt8}:Fl s=if OK.elem (s.take 2) then s.take 2 else if KV.elem (s.take 1) then s.take 1 else []:=by
 have e:mks=OK++KV:=rfl
 rw[Fl,e,List.find?_append,UJ (k:=2) (l:=OK) (by decide),UJ (k:=1) (l:=KV) (by decide)]
 split
 ·rfl
 ·split<;>rfl
theorem b2Q{s:List UInt8}:OK.elem s=mk2 s:=by
 rw[Bool.eq_iff_iff];simp [OK,mk2]
theorem b2R{c:UInt8}:KV.elem [c]=mk1.elem c:=by
 simp [KV,mk1,List.elem_cons,List.elem_nil]
theorem a1u{c:UInt8}{s:List UInt8}:Fl (c::s)=if Co ((c::s).take 2) then(c::s).take 2 else if Co ((c::s).take 1) then(c::s).take 1 else []:=by
 rw[a1t,b2Q]
 have h1:KV.elem ((c::s).take 1)=Co ((c::s).take 1):=by
  show KV.elem [c]=Co [c]
  rw[b2R]
  simp [Co,mk2]
 rw[h1]
 cases s with
 |nil=>
  show(if mk2 [c]=true then [c] else if Co [c]=true then [c] else [])=if Co [c]=true then [c] else if Co [c]=true then [c] else []
  have:mk2 [c]=false:=by simp [mk2]
  rw[this];simp
 |cons d r=>
  have:Co ((c::d::r).take 2)=mk2 ((c::d::r).take 2):=by
   show Co [c,d]=mk2 [c,d]
   simp [Co]
  rw[this]
def Hx(x:List UInt8×Int)(i:Int):Prop:=(0≤i∧i≤21)∧Fl (x.1.drop x.2.toNat)=((mks.drop i.toNat).find? fun m=>(x.1.drop x.2.toNat).take m.length==m).getD []
theorem b2S{x:List UInt8×Int}:Hx x 0:=⟨by omega,rfl⟩
theorem a1v{x:List UInt8×Int}{i:Int}{m:List UInt8}(h:Hx x i)(ha:mks[i.toNat]? =some m)(hg:((x.1.drop x.2.toNat).take m.length==m)=false):Hx x (i+1):=by
 have hlt:=(List.getElem?_eq_some_iff.1 ha).1
 have h21:mks.length=21:=rfl
 obtain⟨h1,h2⟩:=h
 refine⟨by omega,?_⟩
 rw[h2,List.drop_eq_getElem_cons hlt,(List.getElem?_eq_some_iff.1 ha).2,List.find?_cons_of_neg (by simpa using hg),show(i+1).toNat=i.toNat+1 by omega]
theorem b2T{x:List UInt8×Int}{i:Int}{m:List UInt8}(h:Hx x i)(ha:mks[i.toNat]? =some m)(hg:((x.1.drop x.2.toNat).take m.length==m)=true):m=Fl (x.1.drop x.2.toNat):=by
 have hlt:=(List.getElem?_eq_some_iff.1 ha).1
 rw[h.2,List.drop_eq_getElem_cons hlt,(List.getElem?_eq_some_iff.1 ha).2,List.find?_cons_of_pos (by simpa using hg)];rfl
theorem b2U{x:List UInt8×Int}{i:Int}(h:Hx x i)(hi:¬i<21):[]=Fl (x.1.drop x.2.toNat):=by
 have e:mks.drop i.toNat=[]:=List.drop_eq_nil_of_le (by have h21:mks.length=21:=rfl;rw[h21];omega)
 rw[h.2,e];rfl
theorem Rh{t:List UInt8}{a n:Int}(h0:0≤a)(hn:0≤n):List.drop a.toNat (List.take (a+n).toNat t)=(t.drop a.toNat).take n.toNat:=by
 rw[List.drop_take,show(a+n).toNat-a.toNat=n.toNat by omega]
theorem b2V{x:List UInt8×Int}{m:List UInt8}(h0:0≤x.2)(h2:x.2≤x.1.length)(hl:¬x.2+(m.length:Int)≤x.1.length):((x.1.drop x.2.toNat).take m.length==m)=false:=by
 have:((x.1.drop x.2.toNat).take m.length)≠m:=by
  intro e
  have:=congrArg List.length e
  simp at this;omega
 simpa using this
theorem b2W{x:List UInt8×Int}{m:List UInt8}(h0:0≤x.2)(h:List.drop (Int.toNat x.2) (List.take (Int.toNat (x.2+(m.length:Int))) x.1)=m):((x.1.drop x.2.toNat).take m.length==m)=true:=by
 rw[Rh h0 (by omega)] at h;simpa using h
theorem b2X{x:List UInt8×Int}{m:List UInt8}(h0:0≤x.2)(h:List.drop (Int.toNat x.2) (List.take (Int.toNat (x.2+(m.length:Int))) x.1)≠m):((x.1.drop x.2.toNat).take m.length==m)=false:=by
 rw[Rh h0 (by omega)] at h;simpa using h
theorem b2Y{i:Int}{m:List UInt8}(ha:mks[i.toNat]? =some m):m.length≤2:=by
 have:∀m∈mks,m.length≤2:=by decide
 exact this m (List.mem_of_getElem? ha)
theorem a1w{x:List UInt8×Int}{i:Int}(h:Hx x i):0≤i∧i≤21:=h.1
attribute [local irreducible] Hx Fl
def MD:Sig:= {X:=Unit,args:=fun x=>[],pre:=fun x=>True,Y:=Unit,post:=fun x y=>True,res:=fun x y=> .sl false 0 1 (List UInt8) Ai mks,outs:=fun x y=>[],keep:=true}
theorem b2Z:Al G Tryz.prog 186 MD:=
 vcFun_okP [] [(38,⟨List UInt8,Ai⟩)] false (fun x=>[]) Tryz.func186 rfl (by decide) trivial (fun(x:Unit)=>True∧∃(x_1:List UInt8),#[(38:UInt8),(38:UInt8)].toList=x_1∧∃(x_2:List UInt8),#[(124:UInt8),(124:UInt8)].toList=x_2∧∃(x_3:List UInt8),#[(61:UInt8),(61:UInt8)].toList=x_3∧∃(x_4:List UInt8),#[(61:UInt8),(62:UInt8)].toList=x_4∧∃(x_5:List UInt8),#[(46:UInt8),(46:UInt8)].toList=x_5∧∃(x_6:List UInt8),#[(40:UInt8)].toList=x_6∧∃(x_7:List UInt8),#[(41:UInt8)].toList=x_7∧∃(x_8:List UInt8),#[(123:UInt8)].toList=x_8∧∃(x_9:List UInt8),#[(125:UInt8)].toList=x_9∧∃(x_10:List UInt8),#[(91:UInt8)].toList=x_10∧∃(x_11:List UInt8),#[(93:UInt8)].toList=x_11∧∃(x_12:List UInt8),#[(59:UInt8)].toList=x_12∧∃(x_13:List UInt8),#[(44:UInt8)].toList=x_13∧∃(x_14:List UInt8),#[(46:UInt8)].toList=x_14∧∃(x_15:List UInt8),#[(61:UInt8)].toList=x_15∧∃(x_16:List UInt8),#[(43:UInt8)].toList=x_16∧∃(x_17:List UInt8),#[(45:UInt8)].toList=x_17∧∃(x_18:List UInt8),#[(42:UInt8)].toList=x_18∧∃(x_19:List UInt8),#[(60:UInt8)].toList=x_19∧∃(x_20:List UInt8),#[(63:UInt8)].toList=x_20∧∃(x_21:List UInt8),#[(58:UInt8)].toList=x_21∧rA MD x [AV.sl true (0:Nat) (1:Nat) (List UInt8) Ai [x_1,x_2,x_3,x_4,x_5,x_6,x_7,x_8,x_9,x_10,x_11,x_12,x_13,x_14,x_15,x_16,x_17,x_18,x_19,x_20,x_21]]) (fun x=>by kernel_rfl) fun(x:Unit) (hx:True)=>(by
 dsimp only[rA,MD,Av,AA]
 (repeat' first|(with_reducible first|rfl|exact True.intro|apply AL|apply And.intro|((first|apply AB|apply AJ|apply AC|apply AK)<;>intro _))|(apply Az<;>intro _)|apply AI|refine Ag () ?_ ?_|((first|apply AP|apply AO|apply AN|apply AM|apply AH|apply AG|apply AF|apply AE|apply AD)<;>try dsimp only)|apply Ag|(refine Prod.forall.2 ?_;intro _;try dsimp only)|(intro _;try dsimp only))
 all_goals first
  |rfl
  |(simp [Bb];done)
  |skip)
def KW:Sig:= {X:=List UInt8×Int,args:=fun x=>[.str x.1,.int .i64 x.2],pre:=fun x=>0≤x.2∧x.2≤x.1.length∧x.1.length<2^62,Y:=Unit,post:=fun x y=>True,res:=fun x y=> .str (Fl (x.1.drop x.2.toNat)),outs:=fun x y=>[.top,.top],keep:=false}
def OL(x:List UInt8×Int):LS:= {ι:=Int,inv:=fun i=>Hx x i,regs:=fun i=>[(0,.str x.1),(1,.int .i64 x.2),(5,.sl false 0 1 (List UInt8) Ai mks),(6,.int .i64 i)],als:=[],meas:=fun i=>21-i.toNat}
theorem b3a:Al G Tryz.prog 170 KW:=
 vcFun_okP [(186,0,MD)] [(38,⟨List UInt8,Ai⟩)] false (fun x=>[(3,OL x)]) Tryz.func170 rfl (by decide) ⟨b2Z,trivial⟩ (fun(x:List UInt8×Int)=>(∀(y:Unit),True→True∧True∧True∧True)∧cA MD [] fun x_1 y=>eA (OL x) [.str x.1,.int .i64 x.2,AV.sl false (0:Nat) (1:Nat) (List UInt8) Ai mks,.int .i64 (0:Int)]∧∀(i:Int),Hx x i→Aa (decide (i<(↑(21:Nat):Int))) (((0:Int)≤i∧i<(↑(21:Nat):Int))∧∀(e:List UInt8),mks[Int.toNat i]? =some e→true=true∧true=true∧inR IntKind.i64 (x.2+(↑(List.length e):Int))∧Aa (decide (x.2+(↑(List.length e):Int)≤(↑(List.length x.1):Int))) (inR IntKind.i64 (x.2+(↑(List.length e):Int))∧((0:Int)≤x.2∧x.2≤x.2+(↑(List.length e):Int)∧x.2+(↑(List.length e):Int)≤(↑(List.length x.1):Int))∧((0:Int)≤i∧i<(↑(21:Nat):Int))∧∀(e_1:List UInt8),mks[Int.toNat i]? =some e_1→Aa (List.drop (Int.toNat x.2) (List.take (Int.toNat (x.2+(↑(List.length e):Int))) x.1)==e_1) (((0:Int)≤i∧i<(↑(21:Nat):Int))∧∀(e:List UInt8),mks[Int.toNat i]? =some e→rA KW x [.str e,.top,.top]) (inR IntKind.i64 (i+(1:Int))∧eN (OL x) i [.str x.1,.int .i64 x.2,AV.sl false (0:Nat) (1:Nat) (List UInt8) Ai mks,.int .i64 (i+(1:Int))])) (inR IntKind.i64 (i+(1:Int))∧eN (OL x) i [.str x.1,.int .i64 x.2,AV.sl false (0:Nat) (1:Nat) (List UInt8) Ai mks,.int .i64 (i+(1:Int))])) (rA KW x [.str #[].toList,.top,.top])) (fun x=>by kernel_rfl) fun(x:List UInt8×Int) (hx:0≤x.2∧x.2≤x.1.length∧x.1.length<2^62)=>(by
 dsimp only[cA,eA,eN,OL,rA,KW,MD,Av,AA,mvL,lnL,mvE,lnE,Bi]
 obtain⟨h1,h2,h3⟩:=hx
 (repeat' first|(with_reducible first|rfl|exact True.intro|apply AL|apply And.intro|((first|apply AB|apply AJ|apply AC|apply AK)<;>intro _))|(apply Az<;>intro _)|apply AI|refine Ag () ?_ ?_|((first|apply AP|apply AO|apply AN|apply AM|apply AH|apply AG|apply AF|apply AE|apply AD)<;>try dsimp only)|apply Ag|(refine Prod.forall.2 ?_;intro _;try dsimp only)|(intro _;try dsimp only))
 all_goals(try(repeat(rename mks[_]? =some _=>hq;revert hq;rename mks[_]? =some _=>hr;intro hq;rw[hr] at hq;cases hq)))
 all_goals first
  |rfl
  |exact b2S
  |exact a1v ‹_› ‹_› (b2V h1 h2 ‹_›)
  |exact a1v ‹_› ‹_› (b2X h1 ‹_›)
  |exact b2T ‹_› ‹_› (b2W h1 ‹_›)
  |exact b2U ‹_› (by omega)
  |(have hq:=a1w (show Hx _ _ by assumption);(try simp only[AR]);omega)
  |(have hq:=a1w (show Hx _ _ by assumption);have hm:=b2Y ‹_›;(try simp only[AR]);omega)
  |skip)
def rwI(p:UInt8→Bool)(x:List UInt8×Int)(i:Int):Prop:=(x.2≤i∧i≤x.1.length)∧∀e∈(x.1.drop x.2.toNat).take (i-x.2).toNat,p e=true
theorem b3b{p:UInt8→Bool}{x:List UInt8×Int}(h:x.2≤x.1.length):rwI p x x.2:=by
 refine⟨⟨by omega,h⟩,fun e he=> ?_⟩
 rw[show(x.2-x.2).toNat=0 by omega] at he;simp at he
theorem UK{p:UInt8→Bool}{x:List UInt8×Int}{i:Int}{c:UInt8}(h0:0≤x.2)(h:rwI p x i)(hi:i<x.1.length)(hc:x.1[i.toNat]? =some c)(hp:p c=true):rwI p x (i+1):=by
 obtain⟨⟨a,b⟩,h2⟩:=h
 exact⟨by omega,Qa h2 (by rw[NR h0 a];exact hc) hp (by omega)⟩
theorem a1x{p:UInt8→Bool}{x:List UInt8×Int}{i:Int}(h0:0≤x.2)(h:rwI p x i)(he:¬i<x.1.length∨∃c,x.1[i.toNat]? =some c∧p c=false):((x.1.drop x.2.toNat).takeWhile p)=List.drop (Int.toNat x.2) (List.take (Int.toNat i) x.1)∧((((x.1.drop x.2.toNat).takeWhile p).length:Nat):Int)=i-x.2:=by
 obtain⟨⟨a,b⟩,h2⟩:=h
 have e:=Iq h2 (by
  rcases he with he|⟨c,hc,hp⟩
  ·left;simp;omega
  ·right;exact⟨c,by rw[NR h0 a];exact hc,hp⟩)
 rw[←e,List.drop_take]
 refine⟨by congr 1;omega,?_⟩
 simp;omega
theorem b3c{p:UInt8→Bool}{x:List UInt8×Int}{i:Int}(h:rwI p x i):x.2≤i∧i≤x.1.length:=h.1
def sgR(x:List UInt8×Int)(k:Int)(t:List UInt8)(p:Int)(b:Bool)(n:Int):Prop:=
 ((Be (x.1.drop x.2.toNat)).ok=true∧(k=(Be (x.1.drop x.2.toNat)).kind∧t=(Be (x.1.drop x.2.toNat)).text∧p=x.2∧b=false)∧n=(Be (x.1.drop x.2.toNat)).size)∨((Be (x.1.drop x.2.toNat)).ok=false∧n=0)
theorem Ri{x:List UInt8×Int}{c:UInt8}(hc:x.1[x.2.toNat]? =some c):x.1.drop x.2.toNat=c::x.1.drop (x.2.toNat+1):=by
 have hlt:=(List.getElem?_eq_some_iff.1 hc).1
 rw[List.drop_eq_getElem_cons hlt,(List.getElem?_eq_some_iff.1 hc).2]
theorem b3d{x:List UInt8×Int}(h0:0≤x.2)(h:(Cf (x.1.drop x.2.toNat):Int)>0):sgR x 5 (Cp (List.drop (Int.toNat x.2) (List.take (Int.toNat (x.2+(Cf (x.1.drop x.2.toNat):Int))) x.1))) x.2 false (Cf (x.1.drop x.2.toNat)):=by
 rw[Rh h0 (by omega)]
 unfold sgR
 generalize x.1.drop x.2.toNat=s at*
 unfold Cf at h ⊢
 split at h
 ·rename_i h2
  split at h
  ·rename_i hp
   rw[if_pos h2,if_pos hp]
   match s with
   |[]=>simp at h2
   |[_]=>simp at h2
   |b::c::r=>
    simp at h2
    obtain⟨rfl,rfl⟩:=h2
    left
    simp only[Be,show Cg 47=false by decide,show Bn 47=false by decide,Bool.false_eq_true,if_false,show(47:UInt8).toNat≠39 by decide,List.take_succ_cons,List.take_zero,if_true]
    refine⟨hp,⟨trivial,?_,trivial,trivial⟩,trivial⟩
    congr 1
    have:=List.takeWhile_prefix BU (l:=47::47::r)
    rw[Int.toNat_natCast]
    exact(List.prefix_iff_eq_take.1 this).symm
  ·simp at h
 ·simp at h
theorem b3e{s:List UInt8}{c:UInt8}(h:¬(Cf (c::s):Int)>0)(h2:(c::s).take 2=[47,47]):((c::s).takeWhile BU).all BW=false:=by
 cases hp:((c::s).takeWhile BU).all BW with
 |false=>rfl
 |true=>
  exfalso
  apply h
  rw[Cf,if_pos h2,if_pos hp]
  match s with
  |[]=>simp at h2
  |d::r=>
   simp at h2
   obtain⟨rfl,rfl⟩:=h2
   have:BU 47=true:=by decide
   simp [List.takeWhile_cons,this];omega
theorem Rj{x:List UInt8×Int}{i:Int}{c:UInt8}(h0:0≤x.2)(hc:x.1[x.2.toNat]? =some c)(hf:Cg c=true)(h:rwI BB x i)(he:¬i<x.1.length∨∃c,x.1[i.toNat]? =some c∧BB c=false):
 (i-x.2>30→sgR x 0 [] 0 false 0)∧(¬i-x.2>30→sgR x 1 (List.drop (Int.toNat x.2) (List.take (Int.toNat i) x.1)) x.2 false (i-x.2)):=by
 obtain⟨e1,e2⟩:=a1x h0 h he
 have e:=Ri hc
 have es:Be (x.1.drop x.2.toNat)=⟨1,(x.1.drop x.2.toNat).takeWhile BB,((x.1.drop x.2.toNat).takeWhile BB).length,decide (((x.1.drop x.2.toNat).takeWhile BB).length≤30)⟩:=by
  rw[e];simp only[Be,hf,if_true]
 unfold sgR
 rw[es]
 refine⟨fun h3=> .inr ⟨by simp;omega,rfl⟩,fun h3=> .inl ⟨by simp;omega,⟨rfl,e1.symm,rfl,rfl⟩,by simp only;omega⟩⟩
theorem OM{x:List UInt8×Int}{i:Int}{c:UInt8}(h0:0≤x.2)(hc:x.1[x.2.toNat]? =some c)(hf:Cg c=false)(hg:Bn c=true)(h:rwI Bn x i)(he:¬i<x.1.length∨∃c,x.1[i.toNat]? =some c∧Bn c=false):
 (i-x.2>12→sgR x 0 [] 0 false 0)∧(¬i-x.2>12→sgR x 2 (List.drop (Int.toNat x.2) (List.take (Int.toNat i) x.1)) x.2 false (i-x.2)):=by
 obtain⟨e1,e2⟩:=a1x h0 h he
 have e:=Ri hc
 have es:Be (x.1.drop x.2.toNat)=⟨2,(x.1.drop x.2.toNat).takeWhile Bn,((x.1.drop x.2.toNat).takeWhile Bn).length,decide (((x.1.drop x.2.toNat).takeWhile Bn).length≤12)⟩:=by
  rw[e];simp only[Be,hf,hg,Bool.false_eq_true,if_false,if_true]
 unfold sgR
 rw[es]
 refine⟨fun h3=> .inr ⟨by simp;omega,rfl⟩,fun h3=> .inl ⟨by simp;omega,⟨rfl,e1.symm,rfl,rfl⟩,by simp only;omega⟩⟩
theorem b3f{x:List UInt8×Int}{c:UInt8}(h0:0≤x.2)(hc:x.1[x.2.toNat]? =some c)(hf:Cg c=false)(hg:Bn c=false)(hq:(c.toNat:Int)=39):
 sgR x 3 (List.drop (Int.toNat x.2) (List.take (Int.toNat (x.2+(Ck (x.1.drop x.2.toNat):Int))) x.1)) x.2 false (Ck (x.1.drop x.2.toNat)):=by
 rw[Rh h0 (by omega)]
 have e:=Ri hc
 have hq2:isQ c=true:=by simp [isQ];omega
 unfold sgR
 rw[e]
 have es:Be (c::x.1.drop (x.2.toNat+1))=⟨3,(Da (c::x.1.drop (x.2.toNat+1))).1,(Da (c::x.1.drop (x.2.toNat+1))).1.length,(Da (c::x.1.drop (x.2.toNat+1))).2⟩:=by
  simp only[Be,hf,hg,Bool.false_eq_true,if_false,show c.toNat=39 by omega,if_true]
 rw[es]
 by_cases hz:Ck (c::x.1.drop (x.2.toNat+1))=0
 ·right
  refine⟨?_,by rw[hz];rfl⟩
  cases hb:(Da (c::x.1.drop (x.2.toNat+1))).2 with
  |false=>rfl
  |true=>exact((PZ hq2).1 hb hz).elim
 ·left
  obtain⟨l1,l2⟩:=XN hq2 hz
  refine⟨(PZ hq2).2 hz,⟨rfl,?_,rfl,rfl⟩,?_⟩
  ·simp only[l1,Int.toNat_natCast]
  ·simp only[l1,List.length_take];omega
theorem b3g{x:List UInt8×Int}{c:UInt8}(h0:0≤x.2)(hc:x.1[x.2.toNat]? =some c)(hn:¬(Cf (x.1.drop x.2.toNat):Int)>0)(hf:Cg c=false)(hg:Bn c=false)(hq:(c.toNat:Int)≠39):
 sgR x 4 (Fl (x.1.drop x.2.toNat)) x.2 false (Fl (x.1.drop x.2.toNat)).length:=by
 have e:=Ri hc
 unfold sgR
 rw[e] at hn ⊢
 generalize x.1.drop (x.2.toNat+1)=s at*
 by_cases h2:(c::s).take 2=[47,47]
 ·right
  have e0:Fl (c::s)=[]:=by
   rw[a1u,h2,if_neg (by decide)]
   have:(c::s).take 1=[47]:=by
    have:=congrArg (List.take 1) h2
    simpa using this
   rw[this,if_neg (by decide)]
  have hp:=b3e hn h2
  refine⟨?_,by rw[e0];rfl⟩
  simp only[Be,hf,hg,Bool.false_eq_true,if_false,if_neg (show¬c.toNat=39 by omega),h2,if_true]
  exact hp
 ·have es:Be (c::s)=if Co ((c::s).take 2) then⟨4,(c::s).take 2,((c::s).take 2).length,true⟩ else if Co ((c::s).take 1) then⟨4,(c::s).take 1,1,true⟩ else⟨0,[],0,false⟩:=by
   simp only[Be,hf,hg,Bool.false_eq_true,if_false,if_neg (show¬c.toNat=39 by omega),if_neg h2]
  rw[es,a1u]
  split
  ·left;exact⟨rfl,⟨rfl,rfl,rfl,rfl⟩,rfl⟩
  ·split
   ·left;exact⟨rfl,⟨rfl,rfl,rfl,rfl⟩,by simp⟩
   ·right;exact⟨rfl,rfl⟩
end Go.My
end
section
set_option linter.unusedVariables false
set_option linter.unusedSimpArgs false
namespace Go.My
open Go.Eng Go.Proofs
variable {G:GInv}
def srd(s:ST)(g:Gs):AV:= .box 0 [sgs s.sg,.int .i64 g.pos,.bool g.bad,.int .i64 g.deep,AY g.nodes]
theorem a1y{sg:List Sg}{g:Gs}(h:g.bad=true∨(sg.length:Int)≤g.pos):pkG sg g 0=Ep:=b0A (by simpa using h)
theorem UL{sg:List Sg}{g:Gs}{e:Sg}(he:sg[g.pos.toNat]? =some e)(hb:g.bad=false)(hl:g.pos<sg.length):pkG sg g 0=e:=b0B (by simpa using he) hb (by omega)
theorem a1z{sg:List Sg}{g:Gs}{k:Int}{t:List UInt8}(hk:k≠0)(h:g.bad=true∨(sg.length:Int)≤g.pos):isG sg g k t=false:=by
 simp [isG,a1y h,Ep,Ne.symm hk]
theorem b3h{sg:List Sg}{g:Gs}{e:Sg}{k:Int}{t:List UInt8}(he:sg[g.pos.toNat]? =some e)(hb:g.bad=false)(hl:g.pos<sg.length):isG sg g k t=(decide (e.kind=k)&&(e.text==t)):=by
 rw[isG,UL he hb hl]
def kdG(sg:List Sg)(g:Gs)(k:Int):Bool:=decide ((pkG sg g 0).kind=k)&&(decide (k≠1)|| !kw (pkG sg g 0).text)
theorem ME{sg:List Sg}{g:Gs}{k:Int}(hk:k≠0)(h:g.bad=true∨(sg.length:Int)≤g.pos):kdG sg g k=false:=by
 simp [kdG,a1y h,Ep,Ne.symm hk]
theorem a1A{sg:List Sg}{g:Gs}{e:Sg}{k:Int}(he:sg[g.pos.toNat]? =some e)(hb:g.bad=false)(hl:g.pos<sg.length):kdG sg g k=(decide (e.kind=k)&&(decide (k≠1)|| !kw e.text)):=by
 rw[kdG,UL he hb hl]
theorem Ib{sg:List Sg}{g:Gs}:kdG sg g 1=nmG sg g 0:=by simp [kdG,nmG]
theorem Rk{sg:List Sg}{g:Gs}{k:Int}(hk:k≠0)(h:kdG sg g k=true):g.bad=false∧g.pos<sg.length:=by
 cases hb:g.bad with
 |true=>rw[ME hk (.inl hb)] at h;cases h
 |false=>
  refine⟨rfl,?_⟩
  rcases Int.lt_or_le g.pos sg.length with hh|hh
  ·exact hh
  ·rw[ME hk (.inr hh)] at h;cases h
theorem b3i{e:Nd}{b:Bool}{q:Nd→Prop}(h:q ⟨e.kind,e.text,e.kids,b⟩):
 ∃x':Nd,([AV.int IntKind.i64 x'.kind,AV.str x'.text,AV.sl true 0 1 Int Bh x'.kids]=[AV.int IntKind.i64 e.kind,AV.str e.text,AV.sl true 0 1 Int Bh e.kids]∧(@List.nil AV)=[])∧b=x'.blank∧q x':=
 ⟨⟨e.kind,e.text,e.kids,b⟩,⟨rfl,rfl⟩,rfl,h⟩
def Bw(sg:List Sg)(g:Gs)(m:List UInt8):Gs:=if isG sg g 1 m then As g else g
def Bf(sg:List Sg)(g:Gs)(k:Int):Gs:=if kdG sg g k then As g else Bs g
def Bv(sg:List Sg)(g:Gs)(k:Int):List UInt8:=if kdG sg g k then(pkG sg g 0).text else []
def gBl(g:Gs)(k:Int)(b:Bool):Gs:=if g.bad=false∧k<g.nodes.length then⟨g.pos,g.deep,g.bad,g.nodes.set k.toNat ⟨(Ab g.nodes k).kind,(Ab g.nodes k).text,(Ab g.nodes k).kids,b⟩⟩ else g
theorem b3j{g:Gs}{k:Int}{b:Bool}{e:Nd}(he:g.nodes[k.toNat]? =some e)(hb:g.bad=false)(hk:k<g.nodes.length):g.nodes.set k.toNat ⟨e.kind,e.text,e.kids,b⟩=(gBl g k b).nodes:=by
 rw[gBl,if_pos ⟨hb,hk⟩,AZ he]
def blG(sg:List Sg)(g:Gs):Bool:=decide (g.pos<sg.length)&&(sgO sg g.pos).blank
theorem b3k{sg:List Sg}{g:Gs}{e:Sg}{k:Int}(he:sg[(g.pos+1-1).toNat]? =some e)(hk:k≠0)(h:kdG sg g k=true):e.text=Bv sg g k:=by
 obtain⟨hb,hl⟩:=Rk hk h
 rw[Bv,if_pos h,UL (by rw[show g.pos=g.pos+1-1 by omega];exact he) hb hl]
def DJ:Sig:= {X:=ST×Int×Int×Bool×List Nd×Int×List UInt8,args:=fun x=>[srd x.1 (xh x),.int .i64 x.2.2.2.2.2.1,.str x.2.2.2.2.2.2],pre:=fun x=>rOk x.1 (xh x)∧x.2.2.2.2.2.1≠0,Y:=Unit,post:=fun x y=>True,res:=fun x y=> .bool (isG x.1.sg (xh x) x.2.2.2.2.2.1 x.2.2.2.2.2.2),outs:=fun x y=>[srd x.1 (xh x),.top,.top],keep:=true}
theorem ON:Al G Tryz.prog 171 DJ:=
 vcFun_okP [] [] false (fun x=>[]) Tryz.func171 rfl (by decide) trivial (fun(x:ST×Int×Int×Bool×List Nd×Int×List UInt8)=>True∧true=true∧true=true∧Aa (!(xh x).bad) (Aa (decide ((xh x).pos<(↑(List.length x.1.sg):Int))) (((0:Int)≤(xh x).pos∧(xh x).pos<(↑(List.length x.1.sg):Int))∧∀(e:Sg),x.1.sg[Int.toNat (xh x).pos]? =some e→Aa (e.kind==x.2.2.2.2.2.1) (((0:Int)≤(xh x).pos∧(xh x).pos<(↑(List.length x.1.sg):Int))∧∀(e:Sg),x.1.sg[Int.toNat (xh x).pos]? =some e→rA DJ x [.bool (e.text==x.2.2.2.2.2.2),srd x.1 (xh x),.top,.top]) (rA DJ x [.bool false,srd x.1 (xh x),.top,.top])) (rA DJ x [.bool false,srd x.1 (xh x),.top,.top])) (rA DJ x [.bool false,srd x.1 (xh x),.top,.top])) (fun x=>by kernel_rfl) fun(x:ST×Int×Int×Bool×List Nd×Int×List UInt8) (hx:rOk x.1 (xh x)∧x.2.2.2.2.2.1≠0)=>(by
 dsimp only[Bt,AY,rA,DJ,CG,sgs,srd,Av,AA]
 obtain⟨s,p,d,b,ns,k,m⟩:=x;dsimp only[xg,xh] at hx ⊢
 obtain⟨h1,h2⟩:=hx;have hs:=Gh h1;dsimp only at hs
 (repeat' first|(with_reducible first|rfl|exact True.intro|apply AL|apply And.intro|((first|apply AB|apply AJ|apply AC|apply AK)<;>intro _))|(apply Az<;>intro _)|apply AI|refine Ag () ?_ ?_|((first|apply AP|apply AO|apply AN|apply AM|apply AH|apply AG|apply AF|apply AE|apply AD)<;>try dsimp only)|apply Ag|(refine Prod.forall.2 ?_;intro _;try dsimp only)|(intro _;try dsimp only))
 all_goals(try(repeat(rename s.sg[_]? =some _=>hq;revert hq;rename s.sg[_]? =some _=>hr;intro hq;rw[hr] at hq;cases hq)))
 all_goals first
  |rfl
  |exact(a1z h2 (.inl ‹_›)).symm
  |exact(a1z h2 (.inr (by simp only;omega))).symm
  |(rw[b3h ‹_› ‹_› (by simp only;omega)];simp [*];done)
  |((try simp only[AR]);omega)
  |skip)
def BQ:Sig:= {X:=ST×Int×Int×Bool×List Nd×List UInt8,args:=fun x=>[srd x.1 (xh x),.str x.2.2.2.2.2],pre:=fun x=>rOk x.1 (xh x),Y:=Unit,post:=fun x y=>True,res:=fun x y=> .bool (isG x.1.sg (xh x) 4 x.2.2.2.2.2),outs:=fun x y=>[srd x.1 (Aw x.1.sg (xh x) x.2.2.2.2.2),.top],keep:=true}
theorem GU:Al G Tryz.prog 142 BQ:=
 vcFun_okP [(171,0,DJ)] [] false (fun x=>[]) Tryz.func142 rfl (by decide) ⟨ON,trivial⟩ (fun(x:ST×Int×Int×Bool×List Nd×List UInt8)=>True∧cA DJ [srd x.1 (xh x),.int .i64 (4:Int),.str x.2.2.2.2.2] fun x_1 y=>Aa (isG x_1.1.sg (xh x_1) x_1.2.2.2.2.2.1 x_1.2.2.2.2.2.2) (inR IntKind.i64 ((xh x_1).pos+(1:Int))∧rA BQ x [.bool true,.box 0 [sgs x_1.1.sg,.int .i64 ((xh x_1).pos+(1:Int)),.bool (xh x_1).bad,.int .i64 (xh x_1).deep,AY (xh x_1).nodes],.top]) (rA BQ x [.bool false,srd x_1.1 (xh x_1),.top])) (fun x=>by kernel_rfl) fun(x:ST×Int×Int×Bool×List Nd×List UInt8) (hx:rOk x.1 (xh x))=>(by
 dsimp only[cA,Bt,AY,rA,DJ,BQ,CG,sgs,srd,Av,AA,mvL,lnL,mvE,lnE]
 obtain⟨s,p,d,b,ns,m⟩:=x;dsimp only[xg,xh] at hx ⊢
 have hx:rOk s ⟨p,d,b,ns⟩:=hx;have hs:=Gh hx;dsimp only at hs
 (repeat' first|(with_reducible first|rfl|exact True.intro|apply AL|apply And.intro|((first|apply AB|apply AJ|apply AC|apply AK)<;>intro _))|(apply Az<;>intro _)|apply AI|refine Ag () ?_ ?_|((first|apply AP|apply AO|apply AN|apply AM|apply AH|apply AG|apply AF|apply AE|apply AD)<;>try dsimp only)|apply Ag|(refine Prod.forall.2 ?_;intro _;try dsimp only)|(intro _;try dsimp only))
 all_goals first
  |rfl
  |exact hx
  |omega
  |(simp [Aw,As, *];done)
  |((try simp only[AR]);omega)
  |skip)
def Eu:Sig:= {X:=ST×Int×Int×Bool×List Nd×List UInt8,args:=fun x=>[srd x.1 (xh x),.str x.2.2.2.2.2],pre:=fun x=>rOk x.1 (xh x),Y:=Unit,post:=fun x y=>True,res:=fun x y=> .bool (isG x.1.sg (xh x) 1 x.2.2.2.2.2),outs:=fun x y=>[srd x.1 (Bw x.1.sg (xh x) x.2.2.2.2.2),.top],keep:=true}
theorem UM:Al G Tryz.prog 139 Eu:=
 vcFun_okP [(171,0,DJ)] [] false (fun x=>[]) Tryz.func139 rfl (by decide) ⟨ON,trivial⟩ (fun(x:ST×Int×Int×Bool×List Nd×List UInt8)=>True∧cA DJ [srd x.1 (xh x),.int .i64 (1:Int),.str x.2.2.2.2.2] fun x_1 y=>Aa (isG x_1.1.sg (xh x_1) x_1.2.2.2.2.2.1 x_1.2.2.2.2.2.2) (inR IntKind.i64 ((xh x_1).pos+(1:Int))∧rA Eu x [.bool true,.box 0 [sgs x_1.1.sg,.int .i64 ((xh x_1).pos+(1:Int)),.bool (xh x_1).bad,.int .i64 (xh x_1).deep,AY (xh x_1).nodes],.top]) (rA Eu x [.bool false,srd x_1.1 (xh x_1),.top])) (fun x=>by kernel_rfl) fun(x:ST×Int×Int×Bool×List Nd×List UInt8) (hx:rOk x.1 (xh x))=>(by
 dsimp only[cA,Bt,AY,rA,DJ,Eu,CG,sgs,srd,Av,AA,mvL,lnL,mvE,lnE]
 obtain⟨s,p,d,b,ns,m⟩:=x;dsimp only[xg,xh] at hx ⊢
 have hx:rOk s ⟨p,d,b,ns⟩:=hx;have hs:=Gh hx;dsimp only at hs
 (repeat' first|(with_reducible first|rfl|exact True.intro|apply AL|apply And.intro|((first|apply AB|apply AJ|apply AC|apply AK)<;>intro _))|(apply Az<;>intro _)|apply AI|refine Ag () ?_ ?_|((first|apply AP|apply AO|apply AN|apply AM|apply AH|apply AG|apply AF|apply AE|apply AD)<;>try dsimp only)|apply Ag|(refine Prod.forall.2 ?_;intro _;try dsimp only)|(intro _;try dsimp only))
 all_goals first
  |rfl
  |exact hx
  |omega
  |(simp [Bw,As, *];done)
  |((try simp only[AR]);omega)
  |skip)
def BF:Sig:= {X:=ST×Int×Int×Bool×List Nd×List UInt8,args:=fun x=>[srd x.1 (xh x),.str x.2.2.2.2.2],pre:=fun x=>rOk x.1 (xh x),Y:=Unit,post:=fun x y=>True,res:=fun x y=> .tup [],outs:=fun x y=>[srd x.1 (Au x.1.sg (xh x) x.2.2.2.2.2),.top],keep:=true}
theorem Hy:Al G Tryz.prog 141 BF:=
 vcFun_okP [(142,0,BQ)] [] false (fun x=>[]) Tryz.func141 rfl (by decide) ⟨GU,trivial⟩ (fun(x:ST×Int×Int×Bool×List Nd×List UInt8)=>True∧cA BQ [srd x.1 (xh x),.str x.2.2.2.2.2] fun x_1 y=>Aa (!isG x_1.1.sg (xh x_1) (4:Int) x_1.2.2.2.2.2) (rA BF x [.tup [],.box 0 [sgs x_1.1.sg,.int .i64 (Aw x_1.1.sg (xh x_1) x_1.2.2.2.2.2).pos,.bool true,.int .i64 (Aw x_1.1.sg (xh x_1) x_1.2.2.2.2.2).deep,AY (Aw x_1.1.sg (xh x_1) x_1.2.2.2.2.2).nodes],.top]) (rA BF x [.tup [],srd x_1.1 (Aw x_1.1.sg (xh x_1) x_1.2.2.2.2.2),.top])) (fun x=>by kernel_rfl) fun(x:ST×Int×Int×Bool×List Nd×List UInt8) (hx:rOk x.1 (xh x))=>(by
 dsimp only[cA,Bt,AY,rA,BQ,BF,CG,sgs,srd,Av,AA,mvL,lnL,mvE,lnE]
 obtain⟨s,p,d,b,ns,m⟩:=x;dsimp only[xg,xh] at hx ⊢
 have hx:rOk s ⟨p,d,b,ns⟩:=hx;have hs:=Gh hx;dsimp only at hs
 (repeat' first|(with_reducible first|rfl|exact True.intro|apply AL|apply And.intro|((first|apply AB|apply AJ|apply AC|apply AK)<;>intro _))|(apply Az<;>intro _)|apply AI|refine Ag () ?_ ?_|((first|apply AP|apply AO|apply AN|apply AM|apply AH|apply AG|apply AF|apply AE|apply AD)<;>try dsimp only)|apply Ag|(refine Prod.forall.2 ?_;intro _;try dsimp only)|(intro _;try dsimp only))
 all_goals first
  |rfl
  |exact hx
  |(simp [Au,Aw,As,Bs, *];done)
  |((try simp only[AR]);omega)
  |skip)
def DK:Sig:= {X:=ST×Int×Int×Bool×List Nd×Int,args:=fun x=>[srd x.1 (xh x),.int .i64 x.2.2.2.2.2],pre:=fun x=>rOk x.1 (xh x)∧x.2.2.2.2.2≠0,Y:=Unit,post:=fun x y=>True,res:=fun x y=> .bool (kdG x.1.sg (xh x) x.2.2.2.2.2),outs:=fun x y=>[srd x.1 (xh x),.top],keep:=true}
theorem Rl:Al G Tryz.prog 137 DK:=
 vcFun_okP [(125,0,Fx)] [] false (fun x=>[]) Tryz.func137 rfl (by decide) ⟨TW,trivial⟩ (fun(x:ST×Int×Int×Bool×List Nd×Int)=>True∧true=true∧true=true∧Aa (!(xh x).bad) (Aa (decide ((xh x).pos<(↑(List.length x.1.sg):Int))) (((0:Int)≤(xh x).pos∧(xh x).pos<(↑(List.length x.1.sg):Int))∧∀(e:Sg),x.1.sg[Int.toNat (xh x).pos]? =some e→Aa (e.kind==x.2.2.2.2.2) (Aa (x.2.2.2.2.2 != (1:Int)) (rA DK x [.bool true,srd x.1 (xh x),.top]) (((0:Int)≤(xh x).pos∧(xh x).pos<(↑(List.length x.1.sg):Int))∧∀(e:Sg),x.1.sg[Int.toNat (xh x).pos]? =some e→∃(x_1:List UInt8),True∧e.text=x_1∧∃(y0:Unit),(∀(y:Unit),True→AV.bool (kw x_1)=AV.bool (kw x_1))∧true=true∧rA DK x [.bool !kw x_1,srd x.1 (xh x),.top])) (rA DK x [.bool false,srd x.1 (xh x),.top])) (rA DK x [.bool false,srd x.1 (xh x),.top])) (rA DK x [.bool false,srd x.1 (xh x),.top])) (fun x=>by kernel_rfl) fun(x:ST×Int×Int×Bool×List Nd×Int) (hx:rOk x.1 (xh x)∧x.2.2.2.2.2≠0)=>(by
 dsimp only[Bt,AY,rA,DK,CG,sgs,srd,Av,AA]
 obtain⟨s,p,d,b,ns,k⟩:=x;dsimp only[xg,xh] at hx ⊢
 obtain⟨h1,h2⟩:=hx;have hs:=Gh h1;dsimp only at hs
 (repeat' first|(with_reducible first|rfl|exact True.intro|apply AL|apply And.intro|((first|apply AB|apply AJ|apply AC|apply AK)<;>intro _))|(apply Az<;>intro _)|apply AI|refine Ag () ?_ ?_|((first|apply AP|apply AO|apply AN|apply AM|apply AH|apply AG|apply AF|apply AE|apply AD)<;>try dsimp only)|apply Ag|(refine Prod.forall.2 ?_;intro _;try dsimp only)|(intro _;try dsimp only))
 all_goals(try(repeat(rename s.sg[_]? =some _=>hq;revert hq;rename s.sg[_]? =some _=>hr;intro hq;rw[hr] at hq;cases hq)))
 all_goals first
  |rfl
  |exact(ME h2 (.inl ‹_›)).symm
  |exact(ME h2 (.inr (by simp only;omega))).symm
  |(rw[a1A ‹_› ‹_› (by simp only;omega)];simp [*];done)
  |((try simp only[AR]);omega)
  |skip)
def Cm:Sig:= {X:=ST×Int×Int×Bool×List Nd×Int,args:=fun x=>[srd x.1 (xh x),.int .i64 x.2.2.2.2.2],pre:=fun x=>rOk x.1 (xh x)∧x.2.2.2.2.2≠0,Y:=Unit,post:=fun x y=>True,res:=fun x y=> .str (Bv x.1.sg (xh x) x.2.2.2.2.2),outs:=fun x y=>[srd x.1 (Bf x.1.sg (xh x) x.2.2.2.2.2),.top],keep:=true}
theorem JI:Al G Tryz.prog 138 Cm:=
 vcFun_okP [(137,0,DK)] [] false (fun x=>[]) Tryz.func138 rfl (by decide) ⟨Rl,trivial⟩ (fun(x:ST×Int×Int×Bool×List Nd×Int)=>True∧cA DK [srd x.1 (xh x),.int .i64 x.2.2.2.2.2] fun x_1 y=>Aa (!kdG x_1.1.sg (xh x_1) x_1.2.2.2.2.2) (rA Cm x [.str #[].toList,.box 0 [sgs x_1.1.sg,.int .i64 (xh x_1).pos,.bool true,.int .i64 (xh x_1).deep,AY (xh x_1).nodes],.top]) (inR IntKind.i64 ((xh x_1).pos+(1:Int))∧true=true∧true=true∧inR IntKind.i64 ((xh x_1).pos+(1:Int)-(1:Int))∧((0:Int)≤(xh x_1).pos+(1:Int)-(1:Int)∧(xh x_1).pos+(1:Int)-(1:Int)<(↑(List.length x_1.1.sg):Int))∧∀(e:Sg),x_1.1.sg[Int.toNat ((xh x_1).pos+(1:Int)-(1:Int))]? =some e→rA Cm x [.str e.text,.box 0 [sgs x_1.1.sg,.int .i64 ((xh x_1).pos+(1:Int)),.bool (xh x_1).bad,.int .i64 (xh x_1).deep,AY (xh x_1).nodes],.top])) (fun x=>by kernel_rfl) fun(x:ST×Int×Int×Bool×List Nd×Int) (hx:rOk x.1 (xh x)∧x.2.2.2.2.2≠0)=>(by
 dsimp only[cA,Bt,AY,rA,DK,Cm,CG,sgs,srd,Av,AA,mvL,lnL,mvE,lnE]
 obtain⟨s,p,d,b,ns,k⟩:=x;dsimp only[xg,xh] at hx ⊢
 obtain⟨h1,h2⟩:=hx;have hs:=Gh h1;dsimp only at hs
 (repeat' first|(with_reducible first|rfl|exact True.intro|apply AL|apply And.intro|((first|apply AB|apply AJ|apply AC|apply AK)<;>intro _))|(apply Az<;>intro _)|apply AI|refine Ag () ?_ ?_|((first|apply AP|apply AO|apply AN|apply AM|apply AH|apply AG|apply AF|apply AE|apply AD)<;>try dsimp only)|apply Ag|(refine Prod.forall.2 ?_;intro _;try dsimp only)|(intro _;try dsimp only))
 all_goals first
  |rfl
  |exact h1
  |exact h2
  |(simp [Bf,Bv,As,Bs, *];done)
  |exact b3k ‹_› h2 ‹_›
  |(have hl:=Rk h2 (show kdG _ _ _=true by assumption);dsimp only at hl;(try simp only[AR]);omega)
  |((try simp only[AR]);omega)
  |skip)
def Bm:Sig:= {X:=ST×Int×Int×Bool×List Nd×Int×List UInt8×List Int,args:=fun x=>[srd x.1 (xh x),.int .i64 x.2.2.2.2.2.1,.str x.2.2.2.2.2.2.1,Ae x.2.2.2.2.2.2.2],pre:=fun x=>rOk x.1 (xh x),Y:=Unit,post:=fun x y=>True,res:=fun x y=> .int .i64 (AU (xh x)),outs:=fun x y=>[srd x.1 (Aq (xh x) ⟨x.2.2.2.2.2.1,x.2.2.2.2.2.2.1,x.2.2.2.2.2.2.2,false⟩),.top,.top,.top],keep:=true}
theorem GV:Al G Tryz.prog 117 Bm:=
 vcFun_okP [] [(24,⟨Nd,ndA true⟩)] false (fun x=>[]) Tryz.func117 rfl (by decide) trivial (fun(x:ST×Int×Int×Bool×List Nd×Int×List UInt8×List Int)=>True∧Aa (xh x).bad (rA Bm x [.int .i64 (0:Int),.box 0 [sgs x.1.sg,.int .i64 (xh x).pos,.bool true,.int .i64 (xh x).deep,AY (xh x).nodes],.top,.top,.top]) (Aa (decide ((↑(List.length (xh x).nodes):Int)≥(300:Int))) (rA Bm x [.int .i64 (0:Int),.box 0 [sgs x.1.sg,.int .i64 (xh x).pos,.bool true,.int .i64 (xh x).deep,AY (xh x).nodes],.top,.top,.top]) (∃(x_1:Nd),x.2.2.2.2.2.1=x_1.kind∧x.2.2.2.2.2.2.1=x_1.text∧Ae x.2.2.2.2.2.2.2=Ae x_1.kids∧false=x_1.blank∧∃(zs:List Nd),AY [x_1]=AY zs∧BG (ndA true)∧Bb (List.length (xh x).nodes+List.length zs) (56:Nat)∧inR IntKind.i64 ((↑(List.length ((xh x).nodes++zs)):Int)-(1:Int))∧∃(y:Unit),True∧(↑(List.length ((xh x).nodes++zs)):Int)-(1:Int)=AU (xh x)∧sgs x.1.sg=sgs x.1.sg∧(xh x).pos=(Aq (xh x) {kind:=x.2.2.2.2.2.1,text:=x.2.2.2.2.2.2.1,kids:=x.2.2.2.2.2.2.2,blank:=false}).pos∧(xh x).bad=(Aq (xh x) {kind:=x.2.2.2.2.2.1,text:=x.2.2.2.2.2.2.1,kids:=x.2.2.2.2.2.2.2,blank:=false}).bad∧(xh x).deep=(Aq (xh x) {kind:=x.2.2.2.2.2.1,text:=x.2.2.2.2.2.2.1,kids:=x.2.2.2.2.2.2.2,blank:=false}).deep∧AY ((xh x).nodes++zs)=AY (Aq (xh x) {kind:=x.2.2.2.2.2.1,text:=x.2.2.2.2.2.2.1,kids:=x.2.2.2.2.2.2.2,blank:=false}).nodes∧True))) (fun x=>by kernel_rfl) fun(x:ST×Int×Int×Bool×List Nd×Int×List UInt8×List Int) (hx:rOk x.1 (xh x))=>(by
 dsimp only[Bt,Ae,AY,rA,Bm,CG,sgs,srd,Av,AA]
 obtain⟨s,p,d,b,ns,k,t,ks⟩:=x;dsimp only[xg,xh] at hx ⊢
 have hx:rOk s ⟨p,d,b,ns⟩:=hx;have hs:=Gh hx;dsimp only at hs
 (repeat' first|refine b0z ?_|(with_reducible first|rfl|exact True.intro|apply AL|apply And.intro|((first|apply AB|apply AJ|apply AC|apply AK)<;>intro _))|(apply Az<;>intro _)|apply AI|refine Ag () ?_ ?_|((first|apply AP|apply AO|apply AN|apply AM|apply AH|apply AG|apply AF|apply AE|apply AD)<;>try dsimp only)|apply Ag|(refine Prod.forall.2 ?_;intro _;try dsimp only)|(intro _;try dsimp only))
 all_goals first
  |rfl
  |(simp [Aq,AU,Dm,Bs, *];done)
  |(have hn:ns.length=300:=by omega
    simp [Aq,AU,Dm,Bs, *];done)
  |(have hn:ns.length≠300:=by omega
    simp [Aq,AU,Dm,Bs, *];done)
  |((try simp only[AR,Bb,List.length_append,List.length_cons,List.length_nil]);omega)
  |skip)
def Fm:Sig:= {X:=ST×Int×Int×Bool×List Nd,args:=fun x=>[srd x.1 (xg x)],pre:=fun x=>rOk x.1 (xg x),Y:=Unit,post:=fun x y=>True,res:=fun x y=> .bool (blG x.1.sg (xg x)),outs:=fun x y=>[srd x.1 (xg x)],keep:=true}
theorem Rm:Al G Tryz.prog 114 Fm:=
 vcFun_okP [] [] false (fun x=>[]) Tryz.func114 rfl (by decide) trivial (fun(x:ST×Int×Int×Bool×List Nd)=>True∧true=true∧true=true∧Aa (decide ((xg x).pos<(↑(List.length x.1.sg):Int))) (((0:Int)≤(xg x).pos∧(xg x).pos<(↑(List.length x.1.sg):Int))∧∀(e:Sg),x.1.sg[Int.toNat (xg x).pos]? =some e→rA Fm x [.bool e.blank,srd x.1 (xg x)]) (rA Fm x [.bool false,srd x.1 (xg x)])) (fun x=>by kernel_rfl) fun(x:ST×Int×Int×Bool×List Nd) (hx:rOk x.1 (xg x))=>(by
 dsimp only[Bt,AY,rA,Fm,CG,sgs,srd,Av,AA]
 obtain⟨s,p,d,b,ns⟩:=x;dsimp only[xg,xh] at hx ⊢
 have hx:rOk s ⟨p,d,b,ns⟩:=hx;have hs:=Gh hx;dsimp only at hs
 (repeat' first|(with_reducible first|rfl|exact True.intro|apply AL|apply And.intro|((first|apply AB|apply AJ|apply AC|apply AK)<;>intro _))|(apply Az<;>intro _)|apply AI|refine Ag () ?_ ?_|((first|apply AP|apply AO|apply AN|apply AM|apply AH|apply AG|apply AF|apply AE|apply AD)<;>try dsimp only)|apply Ag|(refine Prod.forall.2 ?_;intro _;try dsimp only)|(intro _;try dsimp only))
 all_goals first
  |rfl
  |(simp [blG,IH (show s.sg[_]? =some _ by assumption), *];done)
  |(simp [blG, *];done)
  |((try simp only[AR]);omega)
  |skip)
def DR:Sig:= {X:=ST×Int×Int×Bool×List Nd×Int×Bool,args:=fun x=>[srd x.1 (xh x),.int .i64 x.2.2.2.2.2.1,.bool x.2.2.2.2.2.2],pre:=fun x=>rOk x.1 (xh x)∧((xh x).bad=false→0≤x.2.2.2.2.2.1),Y:=Unit,post:=fun x y=>True,res:=fun x y=> .tup [],outs:=fun x y=>[srd x.1 (gBl (xh x) x.2.2.2.2.2.1 x.2.2.2.2.2.2),.top,.top],keep:=true}
theorem Rn:Al G Tryz.prog 116 DR:=
 vcFun_okP [] [(24,⟨Nd,ndA true⟩)] false (fun x=>[]) Tryz.func116 rfl (by decide) trivial (fun(x:ST×Int×Int×Bool×List Nd×Int×Bool)=>True∧Aa (!(xh x).bad) (Aa (decide (x.2.2.2.2.2.1<(↑(List.length (xh x).nodes):Int))) (((0:Int)≤x.2.2.2.2.2.1∧x.2.2.2.2.2.1<(↑(List.length (xh x).nodes):Int))∧Int.toNat x.2.2.2.2.2.1<List.length (xh x).nodes∧∀(x_1:Nd),(xh x).nodes[Int.toNat x.2.2.2.2.2.1]? =some x_1→∃(x':Nd),([AV.int .i64 x'.kind,.str x'.text,Ae x'.kids]=[.int .i64 x_1.kind,.str x_1.text,Ae x_1.kids]∧(@List.nil AV)=[])∧x.2.2.2.2.2.2=x'.blank∧rA DR x [.tup [],.box 0 [sgs x.1.sg,.int .i64 (xh x).pos,.bool (xh x).bad,.int .i64 (xh x).deep,AY (List.set (xh x).nodes (Int.toNat x.2.2.2.2.2.1) x')],.top,.top]) (rA DR x [.tup [],srd x.1 (xh x),.top,.top])) (rA DR x [.tup [],srd x.1 (xh x),.top,.top])) (fun x=>by kernel_rfl) fun(x:ST×Int×Int×Bool×List Nd×Int×Bool) (hx:rOk x.1 (xh x)∧((xh x).bad=false→0≤x.2.2.2.2.2.1))=>(by
 dsimp only[Bt,Ae,AY,rA,DR,CG,sgs,srd,Av,AA]
 obtain⟨s,p,d,b,ns,k,bl⟩:=x;dsimp only[xg,xh] at hx ⊢
 obtain⟨hx,hk⟩:=hx
 have hx:rOk s ⟨p,d,b,ns⟩:=hx;have hs:=Gh hx;dsimp only at hs
 (repeat' first|refine b3i ?_|(with_reducible first|rfl|exact True.intro|apply AL|apply And.intro|((first|apply AB|apply AJ|apply AC|apply AK)<;>intro _))|(apply Az<;>intro _)|apply AI|refine Ag () ?_ ?_|((first|apply AP|apply AO|apply AN|apply AM|apply AH|apply AG|apply AF|apply AE|apply AD)<;>try dsimp only)|apply Ag|(refine Prod.forall.2 ?_;intro _;try dsimp only)|(intro _;try dsimp only))
 all_goals first
  |rfl
  |(simp [gBl, *];done)
  |exact b3j (g:=⟨p,d,b,ns⟩) ‹_› ‹_› ‹_›
  |(have hk2:=hk ‹_›;(try simp only[AR]);omega)
  |((try simp only[AR]);omega)
  |skip)
end Go.My
end
