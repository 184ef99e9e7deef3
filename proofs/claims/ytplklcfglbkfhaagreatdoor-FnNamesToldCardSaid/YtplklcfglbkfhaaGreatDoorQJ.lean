/- A part of the proof: the engine and the contracts, joined. -/
import Derived.Test.YtplklcfglbkfhaaGreatDoorQI
section
set_option linter.unusedVariables false
set_option linter.unusedSimpArgs false
namespace Go.My
open Go.Eng
def chF(sg:List Sg)(n l N:Nat)(t:List UInt8)(ks:List Int):Ps→PR:=Gm sg l (pE sg n (.chain (l+1))) N t ks
def chO(sg:List Sg)(n l:Nat)(x y:Gs)(k:Int)(N:Nat):Prop:=
 restP sg x (pE sg (n+1) (.chain l)) y (chF sg n l N [] [k]) 0∧2*((sg.length:Int)-y.pos)+3≤N∧(y.bad=false→x.pos<y.pos)
def chN(sg:List Sg)(n l:Nat)(m:List UInt8)(x y:Gs)(ks:List Int)(N:Nat):Prop:=
 restP sg x (pE sg (n+1) (.chain l)) y (chF sg n l N m ks) 0∧(2*((sg.length:Int)-y.pos)+4≤N∨(isG sg y 4 m=true∧2*((sg.length:Int)-y.pos)+3≤N))∧(ks.length:Int)≤y.pos+1∧(y.bad=false→x.pos<y.pos)
theorem b1d{sg:List Sg}{x:Gs}{n:Nat}{z:Int×Gs}(h1:Aj sg x (pE sg n .fin) z):Aj sg x (pE sg (n+1) (.chain 6)) z:=h1
theorem b1e{sg:List Sg}{x:Gs}{n l:Nat}{z:Int×Gs}(h:gsOk sg x)(hl:l≠6)(h1:Aj sg x (pE sg n (.chain (l+1))) z):chO sg n l x z.2 z.1 (2*sg.length+4):=by
 have k1:=DK (CU (f:=pE sg (n+1) (.chain l)) h) (g':=fun s=>(pE sg n (.chain (l+1)) s).bind fun p=>Gm sg l (pE sg n (.chain (l+1))) (2*sg.length+4) [] [p.1] p.2) (fun s _=>by rw[b0Q,if_neg hl])
 have k2:=BP (k:=fun k s=>chF sg n l (2*sg.length+4) [] [k] s) k1 h1.1 (fun _ _=>rfl)
 have:=k2.1.1
 exact⟨k2,by omega,h1.2⟩
def CV(sg:List Sg)(l:Nat)(g:Gs):List UInt8:=((BM l).find? fun m=>isG sg g 4 m).getD []
theorem JT{sg:List Sg}{l:Nat}{g:Gs}{s:Ps}(hs:pur g=some s):IY sg l s=CV sg l g:=by
 unfold IY CV
 congr 2
 funext m
 exact(Rj hs).symm
theorem chMG_t{sg:List Sg}{l:Nat}{g:Gs}(hb:g.bad=true):CV sg l g=[]:=by
 unfold CV
 rw[List.find?_eq_none.2 (by intro m _;rw[a1n (DI hb) (by omega)];simp)];rfl
theorem b1f{l:Nat}{m:List UInt8}(h:m∈BM l):m≠[]:=by
 unfold BM at h
 split at h<;>simp at h<;>(first|(subst h;simp)|(rcases h with rfl|rfl<;>simp))
theorem JU{sg:List Sg}{l:Nat}{g:Gs}(h:CV sg l g≠[]):isG sg g 4 (CV sg l g)=true∧CV sg l g∈BM l:=by
 unfold CV at h ⊢
 cases hf:(BM l).find? fun m=>isG sg g 4 m with
 |none=>rw[hf] at h;exact(h rfl).elim
 |some m=>exact⟨by simpa using List.find?_some hf,by simpa using List.mem_of_find?_eq_some hf⟩
theorem b1g{sg:List Sg}{g:Gs}{m m':List UInt8}(h:isG sg g 4 m=true)(h':isG sg g 4 m'=true):m=m':=by
 simp [isG] at h h';rw[←h.2,h'.2]
theorem b1h{sg:List Sg}{l:Nat}{g:Gs}{m:List UInt8}(hm:m∈BM l)(h:isG sg g 4 m=true):CV sg l g=m:=by
 unfold CV
 cases hf:(BM l).find? fun m=>isG sg g 4 m with
 |none=>exact(List.find?_eq_none.1 hf m hm (by simpa using h)).elim
 |some m'=>exact(b1g (by simpa using List.find?_some hf) h)
def enI(sg:List Sg)(n:Nat)(x y:Gs)(k:Int)(N:Nat):Prop:=
 restP sg x (pE sg (n+1) .fin) y (FQ sg (pE sg n .value) N k) 0∧(y.bad=false→(sg.length:Int)-y.pos<N)∧(y.bad=false→x.pos<y.pos)
theorem b1i{sg:List Sg}{x:Gs}{n:Nat}{z:Int×Gs}(h:gsOk sg x)(h1:Aj sg x (pE sg n .base) z):enI sg n x z.2 z.1 (sg.length+1):=by
 have k1:=BP (k:=fun k s=>FQ sg (pE sg n .value) (sg.length+1) k s) (CU (f:=pE sg (n+1) .fin) h) h1.1 (fun _ _=>rfl)
 have:=k1.1.1
 exact⟨k1,fun _=>by omega,h1.2⟩
theorem Pf{sg:List Sg}{n:Nat}{x y:Gs}{k:Int}{N:Nat}(h:enI sg n x y k N)(hb:y.bad=false):∃M,N=M+1:=by
 have h1:=h.1.1.1;have h2:=h.2.1 hb
 match N with
 |0=>omega
 |M+1=>exact⟨M,rfl⟩
theorem b1j{sg:List Sg}{n:Nat}{x y:Gs}{k a:Int}{N:Nat}(h:enI sg n x y k N)(hb:y.bad=true):Aj sg x (pE sg (n+1) .fin) (a,y):=
 ⟨Pd h.1 hb,fun hb2=>by simp only at hb2;rw[hb] at hb2;cases hb2⟩
theorem b1k{sg:List Sg}{n:Nat}{x y:Gs}{k:Int}{N:Nat}{w:Int×Gs}(h:enI sg n x y k N)(hq:isG sg y 4 [40]=true)(hw:Aj sg y (CP sg (pE sg n .value) k) w):
 ∃M,N=M+1∧enI sg n x w.2 w.1 M:=by
 have hl:=CS hq (by omega)
 obtain⟨M,rfl⟩:=Pf h hl.1
 obtain⟨h1,hN,hb⟩:=h
 have k1:=DK h1 (g':=fun s=>(CP sg (pE sg n .value) k s).bind fun p=>FQ sg (pE sg n .value) M p.1 p.2) (fun s hs=>by rw[FQ,if_pos (Jc hs hq)])
 have k2:=BP (k:=fun k s=>FQ sg (pE sg n .value) M k s) k1 hw.1 (fun _ _=>rfl)
 have e:=CE hw
 have hN2:=hN hl.1;have hb2:=hb hl.1
 exact⟨M,rfl,k2,fun hwb=>by have:=e.2.2.2 hwb;omega,fun hwb=>by have:=e.2.2.2 hwb;omega⟩
theorem b1l{sg:List Sg}{n:Nat}{x y:Gs}{k:Int}{N:Nat}(hs:sgB sg)(h:enI sg n x y k N)(hp:isG sg y 4 [40]=false)(hq:isG sg y 4 [46]=true)(hn:nmG sg (Aw y) 0=true):
 ∃M,N=M+1∧enI sg n x (CT (As (Aw y) ⟨6,(pkG sg (Aw y) 0).text,[k],false⟩)) (AX (Aw y)) M:=by
 have hl:=CS hq (by omega)
 obtain⟨M,rfl⟩:=Pf h hl.1
 obtain⟨h1,hN,hb⟩:=h
 have hw:CQ ⟨6,(pkG sg (Aw y) 0).text,[k],false⟩:=⟨Pb hs,by simp⟩
 have hn2:=Rk hn
 have k1:=Gt (g':=fun s=>(FO (Bb ⟨6,(pkG sg (Aw y) 0).text,[k],false⟩ s)).bind fun p=>FQ sg (pE sg n .value) M p.1 p.2) h1 (by omega) hq (fun s hs ht=>by
  obtain⟨hb0,rfl⟩:=Ez.1 hs
  rw[FQ,if_neg (by simp [EA hs hp]),if_pos (show isM sg _ [46]=true from ht)]
  have e1:Di sg (y.pos+1)=true:=by
   have:=Li (sg:=sg) (n:=0) (g:=Aw y) (CR hn2.1)
   rw[hn] at this;simpa [Aw] using this.symm
  have e2:(pkG sg (Aw y) 0)=sgO sg (y.pos+1):=by rw[Ja hn2.1];simp [Aw]
  rw[if_pos e1,e2])
 have hg:=Vc k1.1 hw (fun _=>by omega)
 have k2:=BP (k:=fun k s=>FQ sg (pE sg n .value) M k s) k1 hg.1 (fun _ _=>rfl)
 have e:=CE hg
 have hN2:=hN hl.1;have hb2:=hb hl.1
 simp only[Aw] at e
 exact⟨M,rfl,k2,fun hwb=>by have:=e.2.2.2 hwb;simp only[Aw] at*;omega,fun hwb=>by have:=e.2.2.2 hwb;simp only[Aw] at*;omega⟩
theorem b1m{sg:List Sg}{n:Nat}{x y:Gs}{k a:Int}{N:Nat}(h:enI sg n x y k N)(hp:isG sg y 4 [40]=false)(hq:isG sg y 4 [46]=true)(hn:nmG sg (Aw y) 0=false):
 Aj sg x (pE sg (n+1) .fin) (a,Bv (Aw y)):=by
 have hl:=CS hq (by omega)
 obtain⟨M,rfl⟩:=Pf h hl.1
 obtain⟨h1,hN,hb⟩:=h
 have k1:=Gt (g':=fun _=>none) h1 (by omega) hq (fun s hs ht=>by
  obtain⟨hb0,rfl⟩:=Ez.1 hs
  rw[FQ,if_neg (by simp [EA hs hp]),if_pos (show isM sg _ [46]=true from ht)]
  have e1:Di sg (y.pos+1)=false:=by
   have:=Li (sg:=sg) (n:=0) (g:=Aw y) (CR (by simpa [Aw] using hb0))
   rw[hn] at this;simpa [Aw] using this.symm
  rw[if_neg (by simp [e1])])
 exact⟨a1s k1 (fun _ _=>rfl),fun hb2=>by simp [Bv] at hb2⟩
theorem b1n{sg:List Sg}{n:Nat}{x y:Gs}{k:Int}{N:Nat}(h:enI sg n x y k N)(hb:y.bad=false)(hp:isG sg y 4 [40]=false)(hq:isG sg y 4 [46]=false):Aj sg x (pE sg (n+1) .fin) (k,y):=by
 obtain⟨M,rfl⟩:=Pf h hb
 exact⟨Gq (DK h.1 (g':=fun s=>some (k,s)) (fun s hs=>by rw[FQ,if_neg (by simp [EA hs hp]),if_neg (by simp [EA hs hq])])),h.2.2⟩
theorem Rt{sg:List Sg}{g:Gs}{s:Ps}(hs:pur g=some s):(pkG sg g 0).kind=(sgO sg s.pos).kind:=by
 obtain⟨h,rfl⟩:=Ez.1 hs
 rw[Ja h];simp
theorem Ru{sg:List Sg}{g:Gs}(h:(pkG sg g 0).kind≠0):g.bad=false∧g.pos<sg.length:=by
 unfold pkG at h
 split at h
 ·simp [Ey] at h
 ·rename_i hh;simp only[Int.add_zero] at hh;exact⟨by cases hb:g.bad<;>simp_all,by omega⟩
theorem a1C{sg:List Sg}{x:Gs}{n:Nat}(hs:sgB sg)(h:gsOk sg x)(hk:(pkG sg x 0).kind=1):Aj sg x (pE sg (n+1) .base) (DW sg x,DJ sg x):=by
 obtain⟨a,b⟩:=Ro hs h
 have e:(pur x).bind (pE sg (n+1) .base)=(pur x).bind (BS sg):=by
  cases hp:pur x with
  |none=>rfl
  |some s=>simp only[Option.bind_some];rw[pE,if_pos (by rw[←Rt hp];exact hk)]
 obtain⟨a1,a2,a3,a4,a5⟩:=a
 exact⟨⟨a1,a2,a3,by rw[e];exact a4,by rw[e];exact a5⟩,b⟩
theorem b1o{sg:List Sg}{x:Gs}{n:Nat}{k:Int}(hs:sgB sg)(h:gsOk sg x)(hk:(pkG sg x 0).kind=k)(hk2:k=2∨k=3):Aj sg x (pE sg (n+1) .base) (AX x,Eh sg x k false):=by
 have hl:=Ru (sg:=sg) (g:=x) (by rw[hk];omega)
 obtain⟨a,b⟩:=Pc (k:=k) (b:=false) hs h (fun _=>hl.2)
 have e:(pur x).bind (pE sg (n+1) .base)=(pur x).bind (Fr sg k false):=by
  cases hp:pur x with
  |none=>rfl
  |some s=>
   simp only[Option.bind_some]
   have:=Rt (sg:=sg) hp
   rcases hk2 with rfl|rfl
   ·rw[pE,if_neg (by omega),if_pos (by omega)]
   ·rw[pE,if_neg (by omega),if_neg (by omega),if_pos (by omega)]
 obtain⟨a1,a2,a3,a4,a5⟩:=a
 exact⟨⟨a1,a2,a3,by rw[e];exact a4,by rw[e];exact a5⟩,b⟩
theorem Pg{sg:List Sg}{x:Gs}{s:Ps}{n:Nat}(hs:pur x=some s)(h1:(pkG sg x 0).kind≠1)(h2:(pkG sg x 0).kind≠2)(h3:(pkG sg x 0).kind≠3):pE sg (n+1) .base s=
 if isM sg s [91] then(Bw sg (pE sg n .value) [93] (sg.length+1) [] (adv s)).bind fun p=>Bu sg [93] ⟨4,[],p.1,false⟩ p.2
 else if isM sg s [40]&&JP sg s then(Bw sg (BS sg) [41] (sg.length+1) [] (adv s)).bind fun p=>(BD sg [41] p.2).bind fun s1=>(BD sg [61,62] s1).bind fun s2=>(pE sg n .pick s2).bind fun q=>Bb ⟨9,[],p.1++[q.1],false⟩ q.2
 else if isM sg s [40] then(pE sg n .value (adv s)).bind fun p=>Bu sg [41] ⟨11,[],[p.1],false⟩ p.2
 else none:=by
 have:=Rt (sg:=sg) hs
 rw[pE,if_neg (by omega),if_neg (by omega),if_neg (by omega)]
theorem b1p{sg:List Sg}{x:Gs}{n:Nat}{l:List Int×Gs}(h:gsOk sg x)(h1:(pkG sg x 0).kind≠1)(h2:(pkG sg x 0).kind≠2)(h3:(pkG sg x 0).kind≠3)(hq:isG sg x 4 [91]=true)
 (hl:BB sg (Aw x) (Bw sg (pE sg n .value) [93] (sg.length+1) []) l) (hll:l.1.length≤3001):
 Aj sg x (pE sg (n+1) .base) (Cy sg l.2 [93],Cx sg l.2 [93] ⟨4,[],l.1,false⟩):=by
 have k1:=Gt (g':=fun s=>(Bw sg (pE sg n .value) [93] (sg.length+1) [] s).bind fun p=>Bu sg [93] ⟨4,[],p.1,false⟩ p.2) (CU (f:=pE sg (n+1) .base) h) (by omega) hq
  (fun s hs ht=>by rw[Pg hs h1 h2 h3,if_pos (show isM sg s [91]=true from ht)])
 have k2:=BP (k:=fun ks s=>Bu sg [93] ⟨4,[],ks,false⟩ s) k1 hl (fun _ _=>rfl)
 have hw:CQ ⟨4,[],l.1,false⟩:=⟨by simp,by simp only;omega⟩
 refine⟨Rs k2 hw,fun hb=> ?_⟩
 have:=(MG (m:=[93]) hl.1 hw).2 hb
 have e1:=hl.2.2.1
 simp only[Aw] at this e1 ⊢
 omega
theorem b1q{sg:List Sg}{x:Gs}{n:Nat}{z:Int×Gs}(h:gsOk sg x)(h1:(pkG sg x 0).kind≠1)(h2:(pkG sg x 0).kind≠2)(h3:(pkG sg x 0).kind≠3)(hn:isG sg x 4 [91]=false)(hq:isG sg x 4 [40]=true)
 (ha:∀s,pur x=some s→JP sg s=false) (hz:Aj sg (Aw x) (pE sg n .value) z):
 Aj sg x (pE sg (n+1) .base) (Cy sg z.2 [41],Cx sg z.2 [41] ⟨11,[],[z.1],false⟩):=by
 have k1:=Gt (g':=fun s=>(pE sg n .value s).bind fun p=>Bu sg [41] ⟨11,[],[p.1],false⟩ p.2) (CU (f:=pE sg (n+1) .base) h) (by omega) hq
  (fun s hs ht=>by rw[Pg hs h1 h2 h3,if_neg (by simp [EA hs hn]),if_neg (by simp [ha s hs]),if_pos (show isM sg s [40]=true from ht)])
 have k2:=BP (k:=fun k s=>Bu sg [41] ⟨11,[],[k],false⟩ s) k1 hz.1 (fun _ _=>rfl)
 have hw:CQ ⟨11,[],[z.1],false⟩:=⟨by simp,by simp⟩
 refine⟨Rs k2 hw,fun hb=> ?_⟩
 have:=(MG (m:=[41]) hz.1.1 hw).2 hb
 have e1:=hz.1.2.2.1
 simp only[Aw] at this e1 ⊢
 omega
theorem b1r{sg:List Sg}{x:Gs}{n:Nat}{a:Int}(h:gsOk sg x)(h1:(pkG sg x 0).kind≠1)(h2:(pkG sg x 0).kind≠2)(h3:(pkG sg x 0).kind≠3)(hn:isG sg x 4 [91]=false)(hq:isG sg x 4 [40]=false):
 Aj sg x (pE sg (n+1) .base) (a,Bv x):=
 ⟨a1s (CU h) (fun s hs=>by rw[Pg hs h1 h2 h3,if_neg (by simp [EA hs hn]),if_neg (by simp [EA hs hq]),if_neg (by simp [EA hs hq])]),fun hb=>by simp [Bv] at hb⟩
def fnR(sg:List Sg)(n:Nat)(s:Ps):PR:=(BD sg [40] s).bind fun s0=>(Bw sg (BS sg) [41] (sg.length+1) [] s0).bind fun p=>(BD sg [41] p.2).bind fun s1=>(BD sg [61,62] s1).bind fun s2=>(pE sg n .pick s2).bind fun q=>Bb ⟨9,[],p.1++[q.1],false⟩ q.2
theorem b1s{sg:List Sg}{x:Gs}{n:Nat}{l:List Int×Gs}{z:Int×Gs}(h:gsOk sg x)(hl:BB sg (AK sg x [40]) (Bw sg (BS sg) [41] (sg.length+1) []) l)(hll:l.1.length≤3001)
 (hz:Aj sg (AK sg (AK sg l.2 [41]) [61,62]) (pE sg n .pick) z):Aj sg x (fnR sg n) (AX z.2,As z.2 ⟨9,[],l.1++[z.1],false⟩):=by
 have k1:=Hb (g':=fun s0=>(Bw sg (BS sg) [41] (sg.length+1) [] s0).bind fun p=>(BD sg [41] p.2).bind fun s1=>(BD sg [61,62] s1).bind fun s2=>(pE sg n .pick s2).bind fun q=>Bb ⟨9,[],p.1++[q.1],false⟩ q.2) (CU (f:=fnR sg n) h) (fun _ _=>rfl)
 have k2:=BP (k:=fun ks s=>(BD sg [41] s).bind fun s1=>(BD sg [61,62] s1).bind fun s2=>(pE sg n .pick s2).bind fun q=>Bb ⟨9,[],ks++[q.1],false⟩ q.2) k1 hl (fun _ _=>rfl)
 have k3:=Hb (g':=fun s1=>(BD sg [61,62] s1).bind fun s2=>(pE sg n .pick s2).bind fun q=>Bb ⟨9,[],l.1++[q.1],false⟩ q.2) k2 (fun _ _=>rfl)
 have k4:=Hb (g':=fun s2=>(pE sg n .pick s2).bind fun q=>Bb ⟨9,[],l.1++[q.1],false⟩ q.2) k3 (fun _ _=>rfl)
 have k5:=BP (k:=fun k s=>Bb ⟨9,[],l.1++[k],false⟩ s) k4 hz.1 (fun _ _=>rfl)
 have hw:CQ ⟨9,[],l.1++[z.1],false⟩:=⟨by simp,by simp;omega⟩
 refine⟨Rr k5 hw,fun hb=> ?_⟩
 obtain⟨d1,d2,d3⟩:= @Je z.2 ⟨9,[],l.1++[z.1],false⟩
 have e1:=CE hz
 have e2:=k4.2.2.1
 have:=e1.2.2.2 (d3 hb)
 simp only[d2];omega
end Go.My
end
section
set_option linter.unusedVariables false
set_option linter.unusedSimpArgs false
namespace Go.My
open Go.Eng Go.Proofs
variable {G:GInv}
abbrev iG {α:Type} (i:Int×Int×Bool×List Nd×α×Nat):Gs:=⟨i.1,i.2.1,i.2.2.1,i.2.2.2.1⟩
def vP(r n:Nat)(s:ST)(g:Gs):Prop:=(rOk s g∧g.deep≤20)∧12*((s.sg.length:Int)-g.pos)+r≤n
def wP(r n:Nat)(s:ST)(g:Gs):Prop:=(rOk s g∧(g.bad=false→g.deep≤20))∧12*((s.sg.length:Int)-g.pos)+r≤n
theorem ML{I:Nat→Prop}{N:Nat}(h:∃M,N=M+1∧I M):I (N-1)∧N-1<N:=by
 obtain⟨M,rfl,h⟩:=h
 exact⟨by simpa using h,by omega⟩
theorem Dl{sg:List Sg}{g:Gs}{m:List UInt8}(h:isG sg g 4 m=false):AP sg g m=g:=by simp [AP,h]
theorem Ek{sg:List Sg}{g:Gs}{m:List UInt8}(h:isG sg g 4 m=true):AP sg g m=Aw g:=by simp [AP,h]
theorem b1t{α:Type}{sg:List Sg}{x:Gs}{f:Ps→Option (α×Ps)}{y:α×Gs}(h:Aj sg x f y)(hb:y.2.bad=false):x.bad=false:=((CE h).2.2.2 hb).1
abbrev MM (sg:List Sg) (one:Ps→PR) (m:List UInt8) (x y:Gs) (ks:List Int) (N:Nat):Prop:=Iu sg one m x y ks N∧(y.bad=false→x.bad=false)
theorem b1u{sg:List Sg}{one:Ps→PR}{m:List UInt8}{x y:Gs}{ks:List Int}{N:Nat}{z:Int×Gs}(h:MM sg one m x y ks N)(hz:Aj sg y one z)(hq:isG sg y 4 m=false)(hc:isG sg z.2 4 [44]=false):
 BB sg x (Bw sg one m (sg.length+1) []) (ks++[z.1],AP sg z.2 [44]):=by rw[Dl hc];exact b1a h.1 hq hz hc
theorem b1v{sg:List Sg}{one:Ps→PR}{m:List UInt8}{x y:Gs}{ks:List Int}{N:Nat}{z:Int×Gs}(h:MM sg one m x y ks N)(hz:Aj sg y one z)(hq:isG sg y 4 m=false)(hc:isG sg z.2 4 [44]=true):
 MM sg one m x (AP sg z.2 [44]) (ks++[z.1]) (N-1)∧N-1<N:=by
 rw[Ek hc]
 obtain⟨a,b⟩:=ML (b1b h.1 hq hz hc)
 exact⟨⟨a,fun hb=>h.2 (b1t hz hb)⟩,b⟩
theorem FS(g:Gs):(⟨g.pos,g.deep,g.bad,g.nodes⟩:Gs)=g:=rfl
theorem b1w{s:ST}{one:Ps→PR}{m:List UInt8}{x y:Gs}{ks:List Int}{N:Nat}(hr:sgB s.sg)(h:MM s.sg one m x y ks N):ks.length≤3000:=by
 have h1:=h.1.2.2;have h2:=h.1.1.1.1.2;have h3:=hr.1;omega
theorem b1x{s:ST}{one:Ps→PR}{m:List UInt8}{x y:Gs}{ks:List Int}{N n:Nat}(hr:sgB s.sg)(h:MM s.sg one m x y ks N)(hb:y.bad=false)(hd:x.bad=false→x.deep≤20)(hn:12*((s.sg.length:Int)-x.pos)+11≤n):vP 11 n s y:=by
 have h1:=h.1.1;have h2:=hd (h.2 hb);have h3:=h1.2.1;have h4:=h1.2.2.1
 exact⟨⟨⟨hr,h1.1⟩,by omega⟩,by omega⟩
theorem b1y{s:ST}{one:Ps→PR}{m:List UInt8}{x y:Gs}{ks:List Int}{N:Nat}(hr:sgB s.sg)(h:MM s.sg one m x y ks N):rOk s y:=⟨hr,h.1.1.1⟩
theorem b1z{sg:List Sg}{x:Gs}{one:Ps→PR}{k:Int}{l:List Int×Gs}(hx:gsOk sg x)(h:BB sg (AK sg x [40]) (Bw sg one [41] (sg.length+1) []) l∧l.1.length≤3001):
 Aj sg x (CP sg one k) (Cy sg l.2 [41],Cx sg l.2 [41] ⟨5,[],[k]++l.1,false⟩):=b1c hx h.1 h.2
attribute [local irreducible] pE Bw CP fnR Aj BB gsOk AK Cx As CT Eh AP DJ DW AX Cy pkG isG nmG
end Go.My
end
section
set_option linter.unusedVariables false
set_option linter.unusedSimpArgs false
namespace Go.My
open Go.Eng Go.Proofs
variable {G:GInv}
theorem Ph{sg:List Sg}{f:Ps→PR}{x:Gs}{y:Int×Gs}(h:Aj sg x f y)(hb:x.bad=false→x.deep≤20):y.2.bad=false→y.2.deep≤20:=fun hy=>by
 have:=CE h;have h2:=hb (this.2.2.2 hy).1;omega
theorem Hc{sg:List Sg}{x:Gs}{m:List UInt8}(h:gsOk sg x):gsOk sg (AK sg x m)∧(AK sg x m).deep=x.deep∧x.pos≤(AK sg x m).pos∧((AK sg x m).bad=false→x.bad=false):=by
 obtain⟨a1,a2,a3,a4⟩:=(OZ (m:=m) h).1
 refine⟨a1,a2,a3,fun hb=> ?_⟩
 cases hx:x.bad with
 |false=>rfl
 |true=>rw[DI hx,CR hb] at a4;cases a4
theorem b1A{s:ST}{x:Gs}{n:Nat}{one:Ps→PR}{l:List Int×Gs}(h:rOk s x)(hd:x.deep≤20)(hq:isG s.sg x 4 [40]=true)(hn:12*((s.sg.length:Int)-x.pos)≤n+2)(hl:BB s.sg (AK s.sg x [40]) (Bw s.sg one [41] (s.sg.length+1) []) l∧l.1.length≤3001):
 vP 10 n s (AK s.sg (AK s.sg l.2 [41]) [61,62]):=by
 have a:=Hc (m:=[40]) h.2;have b:=Hc (m:=[41]) hl.1.1;have c:=Hc (m:=[61,62]) b.1
 have e1:=hl.1.2.1;have e2:=hl.1.2.2.1
 have e3:(AK s.sg x [40]).pos=x.pos+1:=by rw[AK,if_pos hq];rfl
 exact⟨⟨⟨h.1,c.1⟩,by omega⟩,by omega⟩
theorem EN{s:ST}{x y:Gs}{f:Ps→PR}{z:Int×Gs}(h:rOk s x)(hz:Aj s.sg y f z):rOk s z.2:=⟨h.1,Ft hz⟩
theorem b1B{l:Nat}:(BM l).length≤2:=by
 unfold BM;split<;>simp
attribute [local irreducible] pE Bw CP fnR Aj BB gsOk AK Cx As CT Eh AP DJ DW AX Cy pkG isG nmG
end Go.My
end
section
set_option linter.unusedVariables false
set_option linter.unusedSimpArgs false
namespace Go.My
open Go.Eng Go.Proofs
variable {G:GInv}
theorem a1D{s:ST}{x:Gs}{n r:Nat}{k:Int}{m:List UInt8}(hq:isG s.sg x k m=true)(hk:k≠0)(h1:rOk s x)(h2:x.bad=false→x.deep≤20)(h3:12*((s.sg.length:Int)-x.pos)+1≤(n+1:Nat))(hr:r≤12):wP r n s (Aw x)∧vP r n s (Aw x):=by
 have hl:=CS hq hk
 have ha:=FR h1.2 hl.2
 have hd:=h2 hl.1
 have e:(Aw x).pos=x.pos+1:=rfl
 have e2:(Aw x).deep=x.deep:=rfl
 have a:12*((s.sg.length:Int)-(Aw x).pos)+r≤n:=by omega
 exact⟨⟨⟨⟨h1.1,ha⟩,fun _=>by omega⟩,a⟩,⟨⟨⟨h1.1,ha⟩,by omega⟩,a⟩⟩
abbrev enJ (sg:List Sg) (n:Nat) (x y:Gs) (k:Int) (N:Nat):Prop:=enI sg n x y k N∧(y.bad=false→y.deep≤20)
theorem b1C{s:ST}{x:Gs}{n:Nat}{z:Int×Gs}(h1:rOk s x)(h2:x.bad=false→x.deep≤20)(hz:Aj s.sg x (pE s.sg n .base) z):enJ s.sg n x z.2 z.1 (s.sg.length+1):=⟨b1i h1.2 hz,Ph hz h2⟩
theorem b1D{sg:List Sg}{n:Nat}{x y:Gs}{k:Int}{N:Nat}{w:Int×Gs}(h:enJ sg n x y k N)(hw:Aj sg y (CP sg (pE sg n .value) k) w)(hq:isG sg y 4 [40]=true):enJ sg n x w.2 w.1 (N-1)∧N-1<N:=by
 obtain⟨a,b⟩:=ML (b1k h.1 hq hw)
 exact⟨⟨a,Ph hw h.2⟩,b⟩
theorem b1E{s:ST}{x:Gs}{n:Nat}(h1:rOk s x)(h2:x.bad=false→x.deep≤20)(h3:12*((s.sg.length:Int)-x.pos)+2≤(n+1:Nat)):wP 1 n s x:=⟨⟨h1,h2⟩,by omega⟩
attribute [local irreducible] pE Bw CP fnR Aj BB gsOk AK Cx As CT Eh AP DJ DW AX Cy pkG isG nmG
end Go.My
end
section
set_option linter.unusedVariables false
set_option linter.unusedSimpArgs false
namespace Go.My
open Go.Eng Go.Proofs
variable {G:GInv}
def b1F(sg:List Sg)(n l:Nat)(m:List UInt8)(x y:Gs)(ks:List Int)(N M:Nat):Prop:=(chN sg n l m x y ks N∧N≤M)∧(y.bad=false→y.deep≤20)
theorem b1G{s:ST}{x:Gs}{n:Nat}{l:Int}{z:Int×Gs}(hl:l=6)(h:Aj s.sg x (pE s.sg n .fin) z):Aj s.sg x (pE s.sg (n+1) (.chain l.toNat)) z:=by subst hl;exact b1d h
theorem ch_ks{s:ST}{n l:Nat}{x y:Gs}{m:List UInt8}{ks:List Int}{N M:Nat}(hs:sgB s.sg)(h:b1F s.sg n l m x y ks N M):ks.length≤3001:=by
 have:=h.1.1.2.2.1;have:=h.1.1.1.1.1.2;have:=hs.1;omega
abbrev pkX (x:Gs):Gs:=gDp (if x.deep=20 then Bv x else x) 1
theorem a1E{s:ST}{x:Gs}{n:Nat}(h1:rOk s x)(h2:x.deep≤20)(h3:12*((s.sg.length:Int)-x.pos)+10≤(n+1:Nat)):wP (9-(0:Int).toNat) n s (pkX x)∧rOk s (pkX x):=by
 obtain⟨p1,p2,p3⟩:= @Pe x
 have hok:gsOk s.sg (pkX x):=by
  unfold pkX;split
  ·exact⟨h1.2.1,by simp only[gDp,Bv];have:=h1.2.2.1;omega,h1.2.2.2⟩
  ·exact⟨h1.2.1,by simp only[gDp];have:=h1.2.2.1;omega,h1.2.2.2⟩
 exact⟨⟨⟨⟨h1.1,hok⟩,fun hb=>by have:=p3 hb;simp only[pkX] at*;omega⟩,by simp only[pkX] at*;simp;omega⟩,h1.1,hok⟩
theorem a1F{s:ST}{x:Gs}{n:Nat}{z:Int×Gs}(h1:rOk s x)(h2:x.deep≤20)(h3:12*((s.sg.length:Int)-x.pos)+10≤(n+1:Nat))(hz:Aj s.sg (pkX x) (pE s.sg n (.chain 0)) z)(hq:isG s.sg z.2 4 [63]=true):vP 10 n s (AP s.sg z.2 [63]):=by
 rw[Ek hq]
 have hl:=CS hq (by omega)
 have e:=CE hz
 obtain⟨p1,p2,p3⟩:= @Pe x
 have e1:(Aw z.2).pos=z.2.pos+1:=rfl
 have e2:(Aw z.2).deep=z.2.deep:=rfl
 have e3:=p3 (e.2.2.2 hl.1).1
 simp only[pkX] at*
 exact⟨⟨⟨h1.1,FR (Ft hz) hl.2⟩,by omega⟩,by omega⟩
theorem b1H{s:ST}{x:Gs}{n:Nat}{z a:Int×Gs}(h1:rOk s x)(h2:x.deep≤20)(h3:12*((s.sg.length:Int)-x.pos)+10≤(n+1:Nat))(hz:Aj s.sg (pkX x) (pE s.sg n (.chain 0)) z)(hq:isG s.sg z.2 4 [63]=true)
 (ha:Aj s.sg (AP s.sg z.2 [63]) (pE s.sg n .pick) a):vP 10 n s (AK s.sg a.2 [58]):=by
 have hv:=a1F h1 h2 h3 hz hq
 have e:=CE ha
 have t:=Hc (m:=[58]) (Ft ha)
 have:=hv.2;have:=hv.1.2
 exact⟨⟨⟨h1.1,t.1⟩,by omega⟩,by omega⟩
theorem b1I{s:ST}{x:Gs}{n:Nat}{z a b:Int×Gs}(h1:rOk s x)(h2:x.deep≤20)(hz:Aj s.sg (pkX x) (pE s.sg n (.chain 0)) z)(hq:isG s.sg z.2 4 [63]=true)
 (ha:Aj s.sg (AP s.sg z.2 [63]) (pE s.sg n .pick) a) (hb:Aj s.sg (AK s.sg a.2 [58]) (pE s.sg n .pick) b):
 Aj s.sg x (pE s.sg (n+1) .pick) (AX b.2,gDp (As b.2 ⟨8,[],[z.1,a.1,b.1],false⟩) (-1)):=by
 rw[Ek hq] at ha
 exact b0T h1.2 h2 hz hq ha hb
theorem b1J{s:ST}{x:Gs}{n:Nat}{z:Int×Gs}(h1:rOk s x)(h2:x.deep≤20)(hz:Aj s.sg (pkX x) (pE s.sg n (.chain 0)) z)(hq:isG s.sg z.2 4 [63]=false):Aj s.sg x (pE s.sg (n+1) .pick) (z.1,gDp (AP s.sg z.2 [63]) (-1)):=by
 rw[Dl hq];exact b0S h1.2 h2 hz hq
theorem b1K{s:ST}{x:Gs}{n:Nat}{z:Int×Gs}(h1:rOk s x)(hz:Aj s.sg (pkX x) (pE s.sg n (.chain 0)) z)(hq:isG s.sg z.2 4 [63]=false):0≤(AP s.sg z.2 [63]).deep∧(AP s.sg z.2 [63]).deep≤21:=by
 rw[Dl hq];exact(Ft hz).2.1
theorem Vf{g:Gs}{x:Nd}:(As g x).deep=g.deep:=Je.1
theorem b1L{α:Type}{sg:List Sg}{x:Gs}{f:Ps→Option (α×Ps)}{y:α×Gs}(h:Aj sg x f y):0≤y.2.deep∧y.2.deep≤21:=(Ft h).2.1
theorem b1M{s:ST}{x:Gs}{n:Nat}(h1:rOk s x)(h2:x.deep≤20)(h3:12*((s.sg.length:Int)-x.pos)+11≤(n+1:Nat)):vP 10 n s x:=⟨⟨h1,h2⟩,by omega⟩
def vaJ(sg:List Sg)(n:Nat)(x y:Gs)(ks:List Int)(N:Nat):Prop:=JS sg n x y ks N∧y.deep≤20
theorem a1G{sg:List Sg}{n:Nat}{x y:Gs}{ks:List Int}{N:Nat}(h:JS sg n x y ks N∧y.deep≤20):vaJ sg n x y ks N:=h
theorem b1N{s:ST}{x:Gs}{n:Nat}{z:Int×Gs}(h1:rOk s x)(hz:Aj s.sg x (pE s.sg n .pick) z)(hq:isG s.sg z.2 4 [46,46]=false):Aj s.sg x (pE s.sg (n+1) .value) z:=b0U h1.2 hz hq
theorem b1O{s:ST}{x:Gs}{n:Nat}{z:Int×Gs}(h1:rOk s x)(h2:x.deep≤20)(hz:Aj s.sg x (pE s.sg n .pick) z)(hq:isG s.sg z.2 4 [46,46]=true):vaJ s.sg n x z.2 [z.1] (s.sg.length+1):=a1G ⟨b0V h1.2 hz hq,by have:=(CE hz).1;omega⟩
theorem Vg{s:ST}{x y:Gs}{n:Nat}{ks:List Int}{N:Nat}(h1:rOk s x)(h:vaJ s.sg n x y ks N):rOk s y:=⟨h1.1,h.1.1.1⟩
theorem b1P{s:ST}{x y:Gs}{n:Nat}{ks:List Int}{N:Nat}(hs:sgB s.sg)(h:vaJ s.sg n x y ks N):ks.length≤3001:=by
 have:=h.1.2.2.1;have:=h.1.1.1.1.2;have:=hs.1;omega
theorem b1Q{s:ST}{x y:Gs}{n N:Nat}{ks:List Int}(h1:rOk s x)(h:vaJ s.sg n x y ks N)(hq:isG s.sg y 4 [46,46]=false):Aj s.sg x (pE s.sg (n+1) .value) (AX (AP s.sg y [46,46]),As (AP s.sg y [46,46]) ⟨10,[],ks,false⟩):=by
 rw[Dl hq];exact b0W h.1 hq h1.1
theorem b1R{s:ST}{x y:Gs}{n N:Nat}{ks:List Int}(h1:rOk s x)(h:vaJ s.sg n x y ks N)(hq:isG s.sg y 4 [46,46]=false):rOk s (AP s.sg y [46,46]):=by
 rw[Dl hq];exact Vg h1 h
attribute [local irreducible] pE Bw CP fnR Aj BB gsOk AK Cx As CT Eh AP DJ DW AX Cy pkG isG nmG
end Go.My
end
section
set_option linter.unusedVariables false
set_option linter.unusedSimpArgs false
namespace Go.My
open Go.Eng
theorem EB{k:Int}{t:List UInt8}{ks:List Int}{b:Bool}(ht:t.length≤3000)(hk:ks.length≤4000):CQ ⟨k,t,ks,b⟩:=⟨ht,hk⟩
theorem JV{α:Type}{sg:List Sg}{x:Gs}{f g:Ps→Option (α×Ps)}{y:α×Gs}(h:Aj sg x g y)(e:∀s,pur x=some s→f s=g s):Aj sg x f y:=by
 have e2:(pur x).bind f=(pur x).bind g:=by
  cases hp:pur x with
  |none=>rfl
  |some s=>exact e s hp
 obtain⟨⟨a1,a2,a3,a4,a5⟩,b⟩:=h
 exact⟨⟨a1,a2,a3,by rw[e2];exact a4,by rw[e2];exact a5⟩,b⟩
theorem Ll{α:Type}{sg:List Sg}{x:Gs}{k:Int}{m:List UInt8}{f g:Ps→Option (α×Ps)}{y:α×Gs}(hx:gsOk sg x)(hk:k≠0)(hm:isG sg x k m=true)(h:BB sg (Aw x) g y)
 (e:∀s,pur x=some s→isT sg s k m=true→f s=g (adv s)):Aj sg x f y:=by
 have k1:=Gt (g':=g) (CU (f:=f) hx) hk hm e
 have k2:=BP (k:=fun a s=>some (a,s)) k1 h (fun s _=>by cases g s<;>rfl)
 refine⟨Gq k2,fun _=> ?_⟩
 have:=h.2.2.1
 simp only[Aw] at this;omega
theorem Lm{sg:List Sg}{x y:Gs}{f:Ps→PR}{w:Nd}{m:List UInt8}(h:restP sg x f y (Bu sg m w) 0)(hw:CQ w):Aj sg x f (Cy sg y m,Cx sg y m w):=by
 refine⟨Rs h hw,fun hb=> ?_⟩
 have:=(MG (m:=m) h.1 hw).2 hb
 have:=h.2.2.1
 simp only at*;omega
theorem Rv{sg:List Sg}{x y:Gs}{f:Ps→PR}{w:Nd}(h:restP sg x f y (Bb w) 0)(hw:CQ w)(hp:y.bad=false→x.pos<y.pos):Aj sg x f (AX y,As y w):=by
 obtain⟨d1,d2,d3⟩:= @Je y w
 exact⟨Rr h hw,fun hb=>by simp only[d2];exact hp (d3 hb)⟩
theorem a1H{sg:List Sg}{x:Gs}{b:Bool}(h:gsOk sg x):restP sg x (Dj sg b) (CB sg x) (fun s=>if isM sg s [61] then(Cg sg (adv s)).bind fun q=>Bu sg [59] ⟨12,CM sg x,[q.1],b⟩ q.2 else Bu sg [59] ⟨12,CM sg x,[],b⟩ s) 0:=
 BP (k:=fun t s=>if isM sg s [61] then(Cg sg (adv s)).bind fun q=>Bu sg [59] ⟨12,t,[q.1],b⟩ q.2 else Bu sg [59] ⟨12,t,[],b⟩ s) (CU h) (MH h).1 (fun _ _=>rfl)
theorem Jf{sg:List Sg}{x:Gs}(hs:sgB sg):(CM sg x).length≤3000:=by
 unfold CM;split
 ·exact Pb hs
 ·simp
theorem b1S{sg:List Sg}{x:Gs}{b:Bool}(hs:sgB sg)(h:gsOk sg x)(hq:isG sg (CB sg x) 4 [61]=false):
 Aj sg x (Dj sg b) (Cy sg (CB sg x) [59],Cx sg (CB sg x) [59] ⟨12,CM sg x,[],b⟩):=
 Lm (DK (a1H h) (fun s hs=>by rw[if_neg (by simp [EA hs hq])])) (EB (Jf hs) (by simp))
theorem b1T{sg:List Sg}{x:Gs}{b:Bool}{z:Int×Gs}(hs:sgB sg)(h:gsOk sg x)(hq:isG sg (CB sg x) 4 [61]=true)(hz:Aj sg (Aw (CB sg x)) (Cg sg) z):
 Aj sg x (Dj sg b) (Cy sg z.2 [59],Cx sg z.2 [59] ⟨12,CM sg x,[z.1],b⟩):=by
 have k1:=Gt (g':=fun s=>(Cg sg s).bind fun q=>Bu sg [59] ⟨12,CM sg x,[q.1],b⟩ q.2) (a1H h) (by omega) hq (fun s hs ht=>by rw[if_pos (show isM sg s [61]=true from ht)])
 have k2:=BP (k:=fun k s=>Bu sg [59] ⟨12,CM sg x,[k],b⟩ s) k1 hz.1 (fun _ _=>rfl)
 exact Lm k2 (EB (Jf hs) (by simp))
def Gu(sg:List Sg)(b:Bool)(s:Ps):PR:=if isM sg s [59] then Bu sg [59] ⟨15,[],[],b⟩ s else(Cg sg s).bind fun p=>Bu sg [59] ⟨15,[],[p.1],b⟩ p.2
theorem b1U{sg:List Sg}{x:Gs}{b:Bool}(h:gsOk sg x)(hq:isG sg x 4 [59]=true):Aj sg x (Gu sg b) (Cy sg x [59],Cx sg x [59] ⟨15,[],[],b⟩):=
 Lm (DK (CU h) (fun s hs=>by rw[Gu,if_pos (Jc hs hq)])) (EB (by simp) (by simp))
theorem b1V{sg:List Sg}{x:Gs}{b:Bool}{z:Int×Gs}(h:gsOk sg x)(hq:isG sg x 4 [59]=false)(hz:Aj sg x (Cg sg) z):Aj sg x (Gu sg b) (Cy sg z.2 [59],Cx sg z.2 [59] ⟨15,[],[z.1],b⟩):=by
 have k1:=DK (CU (f:=Gu sg b) h) (g':=fun s=>(Cg sg s).bind fun p=>Bu sg [59] ⟨15,[],[p.1],b⟩ p.2) (fun s hs=>by rw[Gu,if_neg (by simp [EA hs hq])])
 have k2:=BP (k:=fun k s=>Bu sg [59] ⟨15,[],[k],b⟩ s) k1 hz.1 (fun _ _=>rfl)
 exact Lm k2 (EB (by simp) (by simp))
theorem b1W{sg:List Sg}{x:Gs}{z:Int×Gs}(h:gsOk sg x)(hz:Aj sg (AK sg x [40]) (Cg sg) z):BB sg x (Dq sg) (z.1,AK sg z.2 [41]):=by
 have k1:=Hb (g':=fun s1=>(Cg sg s1).bind fun p=>(BD sg [41] p.2).map fun s2=>(p.1,s2)) (CU (f:=Dq sg) h) (fun _ _=>rfl)
 have k2:=BP (k:=fun k s=>(BD sg [41] s).map fun s2=>(k,s2)) k1 hz.1 (fun _ _=>rfl)
 have k3:=Hb (g':=fun s=>some (z.1,s)) k2 (fun s _=>by cases BD sg [41] s<;>rfl)
 exact Gq k3
theorem b1X{sg:List Sg}{one:Bool→Ps→PR}{m:List UInt8}{N:Nat}{ks:List Int}{s:Ps}(h:isM sg s m=true):CD sg one m (N+1) ks s=some (ks,s):=by rw[CD,if_pos h]
theorem b1Y{sg:List Sg}{one:Bool→Ps→PR}{m:List UInt8}{N:Nat}{ks:List Int}{s:Ps}(h:isM sg s m=false):CD sg one m (N+1) ks s=(one ((sgO sg s.pos).blank&&decide (0<ks.length)) s).bind fun p=>CD sg one m N (ks++[p.1]) p.2:=by rw[CD,if_neg (by simp [h])]
def JW(sg:List Sg)(one:Bool→Ps→PR)(m:List UInt8)(x y:Gs)(ks:List Int)(N:Nat):Prop:=
 restP sg x (CD sg one m (sg.length+1) []) y (CD sg one m N ks) 0∧(y.bad=false→(sg.length:Int)-y.pos<N)∧(ks.length:Int)≤y.pos+1∧(y.bad=false→(ks.length:Int)≤y.pos)
theorem a1I{sg:List Sg}{one:Bool→Ps→PR}{m:List UInt8}{x:Gs}(h:gsOk sg x):JW sg one m x x [] (sg.length+1):=by
 have:=h.1
 exact⟨CU h,fun _=>by omega,by simp;omega,fun _=>by simp;omega⟩
theorem a1J{sg:List Sg}{one:Bool→Ps→PR}{m:List UInt8}{x y:Gs}{ks:List Int}{N:Nat}(h:JW sg one m x y ks N)(hb:y.bad=true):BB sg x (CD sg one m (sg.length+1) []) (ks,y):=Pd h.1 hb
theorem a1K{sg:List Sg}{one:Bool→Ps→PR}{m:List UInt8}{x y:Gs}{ks:List Int}{N:Nat}(h:JW sg one m x y ks N)(hb:y.bad=false):∃M,N=M+1:=by
 have h1:=h.1.1.1;have h2:=h.2.1 hb
 match N with
 |0=>omega
 |M+1=>exact⟨M,rfl⟩
theorem a1L{sg:List Sg}{one:Bool→Ps→PR}{m:List UInt8}{x y:Gs}{ks:List Int}{N:Nat}(h:JW sg one m x y ks N)(hq:isG sg y 4 m=true):BB sg x (CD sg one m (sg.length+1) []) (ks,y):=by
 obtain⟨M,rfl⟩:=a1K h (CS hq (by omega)).1
 exact Gq (DK h.1 (g':=fun s=>some (ks,s)) (fun s hs=>b1X (Jc hs hq)))
theorem a1M{sg:List Sg}{one:Bool→Ps→PR}{m:List UInt8}{x y:Gs}{ks:List Int}{N:Nat}{z:Int×Gs}(h:JW sg one m x y ks N)(hb:y.bad=false)(hq:isG sg y 4 m=false)
 (hz:Aj sg y (one ((pkG sg y 0).blank&&decide (0<ks.length))) z):∃M,N=M+1∧JW sg one m x z.2 (ks++[z.1]) M:=by
 obtain⟨M,rfl⟩:=a1K h hb
 obtain⟨h1,h2,h3,h4⟩:=h
 have k1:=DK h1 (g':=fun s=>(one ((pkG sg y 0).blank&&decide (0<ks.length)) s).bind fun p=>CD sg one m M (ks++[p.1]) p.2) (fun s hs=>by
  rw[b1Y (EA hs hq)]
  obtain⟨_,rfl⟩:=Ez.1 hs
  rw[Ja hb];simp)
 have k2:=BP (k:=fun k s=>CD sg one m M (ks++[k]) s) k1 hz.1 (fun _ _=>rfl)
 have e:=CE hz
 have:=h2 hb;have:=h4 hb
 exact⟨M,rfl,k2,fun hw=>by have:=e.2.2.2 hw;omega,by simp;omega,fun hw=>by have:=e.2.2.2 hw;simp;omega⟩
theorem b1Z{sg:List Sg}{one:Bool→Ps→PR}{x:Gs}(h:gsOk sg x)(hd:x.deep≤20):restP sg x (BN sg one) (AK sg (gDp (if x.deep=20 then Bv x else x) 1) [123])
 (fun s1=>(CD sg one [125] (sg.length+1) [] s1).bind fun p=>(Bu sg [125] ⟨18,[],p.1,false⟩ p.2).map fun q=>(q.1,dp q.2 (-1))) 1:=by
 have k0:restP sg x (BN sg one) (gDp (if x.deep=20 then Bv x else x) 1) (fun s=>(BD sg [123] s).bind fun s1=>(CD sg one [125] (sg.length+1) [] s1).bind fun p=>(Bu sg [125] ⟨18,[],p.1,false⟩ p.2).map fun q=>(q.1,dp q.2 (-1))) 1:=by
  split
  ·rename_i h20
   have h2:=a1t (d:=0) (g':=BN sg one) (CU (f:=BN sg one) h) (fun s hs=>by
    obtain⟨_,rfl⟩:=Ez.1 hs
    rw[BN,if_pos (by simp only;omega)])
   refine Lk (d:=0) h2 ⟨by simp only[Bv];omega,by simp only[Bv];omega⟩ (fun s hs=> ?_)
   rw[Jb] at hs;cases hs
  ·rename_i h20
   refine Lk (d:=0) (CU h) ⟨by have:=h.2.1.1;omega,by omega⟩ (fun s hs=> ?_)
   obtain⟨_,rfl⟩:=Ez.1 hs
   rw[BN,if_neg (by simp only;omega)]
 exact Hb k0 (fun _ _=>rfl)
def ifR(sg:List Sg)(n:Nat)(b:Bool)(s:Ps):PR:=(Dq sg s).bind fun p=>(BN sg (stR sg n) p.2).bind fun q=>
 if isW sg q.2 [101,108,115,101] then(BN sg (stR sg n) (adv q.2)).bind fun r=>Bb ⟨16,[],[p.1,q.1,r.1],b⟩ r.2 else Bb ⟨16,[],[p.1,q.1],b⟩ q.2
theorem a1N{sg:List Sg}{n:Nat}{b:Bool}{x:Gs}{c q:Int×Gs}(h:gsOk sg x)(hc:BB sg x (Dq sg) c)(hq:Aj sg c.2 (BN sg (stR sg n)) q):
 restP sg x (ifR sg n b) q.2 (fun s=>if isW sg s [101,108,115,101] then(BN sg (stR sg n) (adv s)).bind fun r=>Bb ⟨16,[],[c.1,q.1,r.1],b⟩ r.2 else Bb ⟨16,[],[c.1,q.1],b⟩ s) 0:=by
 have k1:=BP (k:=fun a s=>(BN sg (stR sg n) s).bind fun q=>if isW sg q.2 [101,108,115,101] then(BN sg (stR sg n) (adv q.2)).bind fun r=>Bb ⟨16,[],[a,q.1,r.1],b⟩ r.2 else Bb ⟨16,[],[a,q.1],b⟩ q.2) (CU (f:=ifR sg n b) h) hc (fun _ _=>rfl)
 exact BP (k:=fun k s=>if isW sg s [101,108,115,101] then(BN sg (stR sg n) (adv s)).bind fun r=>Bb ⟨16,[],[c.1,k,r.1],b⟩ r.2 else Bb ⟨16,[],[c.1,k],b⟩ s) k1 hq.1 (fun _ _=>rfl)
theorem b2a{sg:List Sg}{n:Nat}{b:Bool}{x:Gs}{c q:Int×Gs}(h:gsOk sg x)(hc:BB sg x (Dq sg) c)(hq:Aj sg c.2 (BN sg (stR sg n)) q)(he:isG sg q.2 1 [101,108,115,101]=false):
 Aj sg x (ifR sg n b) (AX q.2,As q.2 ⟨16,[],[c.1,q.1],b⟩):=by
 have k:=DK (a1N (b:=b) h hc hq) (g':=Bb ⟨16,[],[c.1,q.1],b⟩) (fun s hs=>by rw[if_neg (by simp [Ei hs he])])
 refine Rv k (EB (by simp) (by simp)) (fun hb=> ?_)
 have:=(CE hq).2.2.2 hb;have:=hc.2.2.1;omega
theorem b2b{sg:List Sg}{n:Nat}{b:Bool}{x:Gs}{c q r:Int×Gs}(h:gsOk sg x)(hc:BB sg x (Dq sg) c)(hq:Aj sg c.2 (BN sg (stR sg n)) q)(he:isG sg q.2 1 [101,108,115,101]=true)
 (hr:Aj sg (Aw q.2) (BN sg (stR sg n)) r):Aj sg x (ifR sg n b) (AX r.2,As r.2 ⟨16,[],[c.1,q.1,r.1],b⟩):=by
 have k:=Gt (a1N (b:=b) h hc hq) (g':=fun s=>(BN sg (stR sg n) s).bind fun r=>Bb ⟨16,[],[c.1,q.1,r.1],b⟩ r.2) (by omega) he (fun s hs ht=>by rw[if_pos (show isW sg s [101,108,115,101]=true from ht)])
 have k2:=BP (k:=fun k s=>Bb ⟨16,[],[c.1,q.1,k],b⟩ s) k hr.1 (fun _ _=>rfl)
 refine Rv k2 (EB (by simp) (by simp)) (fun hb=> ?_)
 have:=(CE hr).2.2.2 hb;have:=hc.2.2.1;have:=(CE hq).2.1
 simp only[Aw] at*;omega
def whR(sg:List Sg)(n:Nat)(b:Bool)(s:Ps):PR:=(Dq sg s).bind fun p=>(BN sg (stR sg n) p.2).bind fun q=>Bb ⟨17,[],[p.1,q.1],b⟩ q.2
theorem b2c{sg:List Sg}{n:Nat}{b:Bool}{x:Gs}{c q:Int×Gs}(h:gsOk sg x)(hc:BB sg x (Dq sg) c)(hq:Aj sg c.2 (BN sg (stR sg n)) q):
 Aj sg x (whR sg n b) (AX q.2,As q.2 ⟨17,[],[c.1,q.1],b⟩):=by
 have k1:=BP (k:=fun a s=>(BN sg (stR sg n) s).bind fun q=>Bb ⟨17,[],[a,q.1],b⟩ q.2) (CU (f:=whR sg n b) h) hc (fun _ _=>rfl)
 have k2:=BP (k:=fun k s=>Bb ⟨17,[],[c.1,k],b⟩ s) k1 hq.1 (fun _ _=>rfl)
 refine Rv k2 (EB (by simp) (by simp)) (fun hb=> ?_)
 have:=(CE hq).2.2.2 hb;have:=hc.2.2.1;omega
def setR(sg:List Sg)(b:Bool)(s:Ps):PR:=(Gl sg s).bind fun p=>(BD sg [61] p.2).bind fun s1=>(Cg sg s1).bind fun q=>Bu sg [59] ⟨13,p.1,[q.1],b⟩ q.2
theorem b2d{sg:List Sg}{b:Bool}{x:Gs}{z:Int×Gs}(hs:sgB sg)(h:gsOk sg x)(hz:Aj sg (AK sg (CB sg x) [61]) (Cg sg) z):
 Aj sg x (setR sg b) (Cy sg z.2 [59],Cx sg z.2 [59] ⟨13,CM sg x,[z.1],b⟩):=by
 have k1:=BP (k:=fun t s=>(BD sg [61] s).bind fun s1=>(Cg sg s1).bind fun q=>Bu sg [59] ⟨13,t,[q.1],b⟩ q.2) (CU (f:=setR sg b) h) (MH h).1 (fun _ _=>rfl)
 have k2:=Hb (g':=fun s1=>(Cg sg s1).bind fun q=>Bu sg [59] ⟨13,CM sg x,[q.1],b⟩ q.2) k1 (fun _ _=>rfl)
 have k3:=BP (k:=fun k s=>Bu sg [59] ⟨13,CM sg x,[k],b⟩ s) k2 hz.1 (fun _ _=>rfl)
 exact Lm k3 (EB (Jf hs) (by simp))
def doR(sg:List Sg)(b:Bool)(s:Ps):PR:=(Cg sg s).bind fun p=>Bu sg [59] ⟨14,[],[p.1],b⟩ p.2
theorem b2e{sg:List Sg}{b:Bool}{x:Gs}{z:Int×Gs}(h:gsOk sg x)(hz:Aj sg x (Cg sg) z):Aj sg x (doR sg b) (Cy sg z.2 [59],Cx sg z.2 [59] ⟨14,[],[z.1],b⟩):=by
 have k3:=BP (k:=fun k s=>Bu sg [59] ⟨14,[],[k],b⟩ s) (CU (f:=doR sg b) h) hz.1 (fun _ _=>rfl)
 exact Lm k3 (EB (by simp) (by simp))
theorem Jg{sg:List Sg}{n:Nat}{b:Bool}{s:Ps}:stR sg (n+1) b s=
 if(sgO sg s.pos).kind=5 then Fr sg 19 b s
 else if isW sg s [118,97,114] then Dj sg b (adv s)
 else if isW sg s [114,101,116,117,114,110] then Gu sg b (adv s)
 else if isW sg s [105,102] then ifR sg n b (adv s)
 else if isW sg s [119,104,105,108,101] then whR sg n b (adv s)
 else if Di sg s.pos&&isM sg (adv s) [61] then(Cg sg (adv (adv s))).bind fun p=>Bu sg [59] ⟨13,(sgO sg s.pos).text,[p.1],b⟩ p.2
 else doR sg b s:=rfl
theorem set_eq{sg:List Sg}{b:Bool}{s:Ps}(h:(Di sg s.pos&&isM sg (adv s) [61])=true):(Cg sg (adv (adv s))).bind (fun p=>Bu sg [59] ⟨13,(sgO sg s.pos).text,[p.1],b⟩ p.2)=setR sg b s:=by
 simp only[Bool.and_eq_true] at h
 rw[setR,Gl,if_pos h.1]
 simp only[Option.bind_some]
 rw[BD,if_pos h.2];rfl
theorem FT{sg:List Sg}{x:Gs}{s:Ps}(hs:pur x=some s):(sgO sg s.pos).kind=(pkG sg x 0).kind:=(Rt hs).symm
theorem b2f{sg:List Sg}{x:Gs}{n:Nat}{b:Bool}(hs:sgB sg)(h:gsOk sg x)(hk:(pkG sg x 0).kind=5):Aj sg x (stR sg (n+1) b) (AX x,Eh sg x 19 b):=
 JV (Pc hs h (fun _=>(Ru (by omega)).2)) (fun s hp=>by rw[Jg,if_pos (by rw[FT hp];exact hk)])
theorem b2g{sg:List Sg}{x:Gs}{n:Nat}{b:Bool}{z:Int×Gs}(h:gsOk sg x)(hk:(pkG sg x 0).kind≠5)(hq:isG sg x 1 [118,97,114]=true)(hz:Aj sg (Aw x) (Dj sg b) z):Aj sg x (stR sg (n+1) b) z:=
 Ll h (by omega) hq hz.1 (fun s hp ht=>by rw[Jg,if_neg (by rw[FT hp];exact hk),if_pos (show isW sg s _=true from ht)])
theorem a1O{sg:List Sg}{x:Gs}{n:Nat}{b:Bool}{z:Int×Gs}(h:gsOk sg x)(hk:(pkG sg x 0).kind≠5)(h1:isG sg x 1 [118,97,114]=false)(hq:isG sg x 1 [114,101,116,117,114,110]=true)(hz:Aj sg (Aw x) (Gu sg b) z):Aj sg x (stR sg (n+1) b) z:=
 Ll h (by omega) hq hz.1 (fun s hp ht=>by rw[Jg,if_neg (by rw[FT hp];exact hk),if_neg (by simp [Ei hp h1]),if_pos (show isW sg s _=true from ht)])
theorem a1P{sg:List Sg}{x:Gs}{n:Nat}{b:Bool}{z:Int×Gs}(h:gsOk sg x)(hk:(pkG sg x 0).kind≠5)(h1:isG sg x 1 [118,97,114]=false)(h2:isG sg x 1 [114,101,116,117,114,110]=false)(hq:isG sg x 1 [105,102]=true)
 (hz:Aj sg (Aw x) (ifR sg n b) z):Aj sg x (stR sg (n+1) b) z:=
 Ll h (by omega) hq hz.1 (fun s hp ht=>by rw[Jg,if_neg (by rw[FT hp];exact hk),if_neg (by simp [Ei hp h1]),if_neg (by simp [Ei hp h2]),if_pos (show isW sg s _=true from ht)])
theorem b2h{sg:List Sg}{x:Gs}{n:Nat}{b:Bool}{z:Int×Gs}(h:gsOk sg x)(hk:(pkG sg x 0).kind≠5)(h1:isG sg x 1 [118,97,114]=false)(h2:isG sg x 1 [114,101,116,117,114,110]=false)(h3:isG sg x 1 [105,102]=false)(hq:isG sg x 1 [119,104,105,108,101]=true)
 (hz:Aj sg (Aw x) (whR sg n b) z):Aj sg x (stR sg (n+1) b) z:=
 Ll h (by omega) hq hz.1 (fun s hp ht=>by rw[Jg,if_neg (by rw[FT hp];exact hk),if_neg (by simp [Ei hp h1]),if_neg (by simp [Ei hp h2]),if_neg (by simp [Ei hp h3]),if_pos (show isW sg s _=true from ht)])
def seG(sg:List Sg)(x:Gs):Bool:=nmG sg x 0&&(decide ((pkG sg x 1).kind=4)&&((pkG sg x 1).text==[61]))
theorem Vh{sg:List Sg}{x:Gs}{s:Ps}(hs:pur x=some s):(Di sg s.pos&&isM sg (adv s) [61])=seG sg x:=by
 obtain⟨hb,rfl⟩:=Ez.1 hs
 have:=Li (sg:=sg) (n:=0) (CR hb)
 simp only[Int.add_zero] at this
 rw[seG,this,Ja hb];rfl
theorem b2i{sg:List Sg}{x:Gs}{n:Nat}{b:Bool}{z:Int×Gs}(h:gsOk sg x)(hk:(pkG sg x 0).kind≠5)(h1:isG sg x 1 [118,97,114]=false)(h2:isG sg x 1 [114,101,116,117,114,110]=false)(h3:isG sg x 1 [105,102]=false)(h4:isG sg x 1 [119,104,105,108,101]=false)
 (hq:seG sg x=true) (hz:Aj sg x (setR sg b) z):Aj sg x (stR sg (n+1) b) z:=
 JV hz (fun s hp=>by rw[Jg,if_neg (by rw[FT hp];exact hk),if_neg (by simp [Ei hp h1]),if_neg (by simp [Ei hp h2]),if_neg (by simp [Ei hp h3]),if_neg (by simp [Ei hp h4]),if_pos (by rw[Vh hp];exact hq),set_eq (by rw[Vh hp];exact hq)])
theorem b2j{sg:List Sg}{x:Gs}{n:Nat}{b:Bool}{z:Int×Gs}(h:gsOk sg x)(hk:(pkG sg x 0).kind≠5)(h1:isG sg x 1 [118,97,114]=false)(h2:isG sg x 1 [114,101,116,117,114,110]=false)(h3:isG sg x 1 [105,102]=false)(h4:isG sg x 1 [119,104,105,108,101]=false)
 (hq:seG sg x=false) (hz:Aj sg x (doR sg b) z):Aj sg x (stR sg (n+1) b) z:=
 JV hz (fun s hp=>by rw[Jg,if_neg (by rw[FT hp];exact hk),if_neg (by simp [Ei hp h1]),if_neg (by simp [Ei hp h2]),if_neg (by simp [Ei hp h3]),if_neg (by simp [Ei hp h4]),if_neg (by rw[Vh hp];simp [hq])])
theorem b2k{sg:List Sg}{x:Gs}{b:Bool}{l:List Int×Gs}{q:Int×Gs}(hs:sgB sg)(h:gsOk sg x)(hl:BB sg (AK sg (CB sg x) [40]) (Bw sg (BS sg) [41] (sg.length+1) []) l)(hll:l.1.length≤3001)
 (hq:Aj sg (AK sg l.2 [41]) (Fb sg) q):Aj sg x (Gn sg b) (AX q.2,As q.2 ⟨20,CM sg x,l.1++[q.1],b⟩):=by
 have k1:=BP (k:=fun t s=>(BD sg [40] s).bind fun s1=>(Bw sg (BS sg) [41] (sg.length+1) [] s1).bind fun q=>(BD sg [41] q.2).bind fun s2=>(Fb sg s2).bind fun r=>Bb ⟨20,t,q.1++[r.1],b⟩ r.2) (CU (f:=Gn sg b) h) (MH h).1 (fun _ _=>rfl)
 have k2:=Hb (g':=fun s1=>(Bw sg (BS sg) [41] (sg.length+1) [] s1).bind fun q=>(BD sg [41] q.2).bind fun s2=>(Fb sg s2).bind fun r=>Bb ⟨20,CM sg x,q.1++[r.1],b⟩ r.2) k1 (fun _ _=>rfl)
 have k3:=BP (k:=fun ks s=>(BD sg [41] s).bind fun s2=>(Fb sg s2).bind fun r=>Bb ⟨20,CM sg x,ks++[r.1],b⟩ r.2) k2 hl (fun _ _=>rfl)
 have k4:=Hb (g':=fun s2=>(Fb sg s2).bind fun r=>Bb ⟨20,CM sg x,l.1++[r.1],b⟩ r.2) k3 (fun _ _=>rfl)
 have k5:=BP (k:=fun k s=>Bb ⟨20,CM sg x,l.1++[k],b⟩ s) k4 hq.1 (fun _ _=>rfl)
 refine Rv k5 (EB (Jf hs) (by simp;omega)) (fun hb=> ?_)
 have:=(CE hq).2.2.2 hb;have:=k4.2.2.1;omega
theorem b2l{sg:List Sg}{x:Gs}{b:Bool}{l:List Int×Gs}(hs:sgB sg)(h:gsOk sg x)(hl:BB sg (AK sg (CB sg x) [123]) (CD sg (Da sg) [125] (sg.length+1) []) l)(hll:l.1.length≤3001):
 Aj sg x (Ha sg b) (Cy sg l.2 [125],Cx sg l.2 [125] ⟨21,CM sg x,l.1,b⟩):=by
 have k1:=BP (k:=fun t s=>(BD sg [123] s).bind fun s1=>(CD sg (Da sg) [125] (sg.length+1) [] s1).bind fun q=>Bu sg [125] ⟨21,t,q.1,b⟩ q.2) (CU (f:=Ha sg b) h) (MH h).1 (fun _ _=>rfl)
 have k2:=Hb (g':=fun s1=>(CD sg (Da sg) [125] (sg.length+1) [] s1).bind fun q=>Bu sg [125] ⟨21,CM sg x,q.1,b⟩ q.2) k1 (fun _ _=>rfl)
 have k3:=BP (k:=fun ks s=>Bu sg [125] ⟨21,CM sg x,ks,b⟩ s) k2 hl (fun _ _=>rfl)
 exact Lm k3 (EB (Jf hs) (by omega))
theorem b2m{sg:List Sg}{x:Gs}{b:Bool}(hs:sgB sg)(h:gsOk sg x)(hk:(pkG sg x 0).kind=5):Aj sg x (Da sg b) (AX x,Eh sg x 19 b):=
 JV (Pc hs h (fun _=>(Ru (by omega)).2)) (fun s hp=>by rw[Da,if_pos (by rw[FT hp];exact hk)])
theorem b2n{sg:List Sg}{x:Gs}{b:Bool}{z:Int×Gs}(h:gsOk sg x)(hk:(pkG sg x 0).kind≠5)(hq:isG sg x 1 [118,97,114]=true)(hz:Aj sg (Aw x) (Dj sg b) z):Aj sg x (Da sg b) z:=
 Ll h (by omega) hq hz.1 (fun s hp ht=>by rw[Da,if_neg (by rw[FT hp];exact hk),if_pos (show isW sg s _=true from ht)])
theorem b2o{sg:List Sg}{x:Gs}{b:Bool}{z:Int×Gs}(h:gsOk sg x)(hk:(pkG sg x 0).kind≠5)(hq:isG sg x 1 [118,97,114]=false)(hz:Aj sg x (Gn sg b) z):Aj sg x (Da sg b) z:=
 JV hz (fun s hp=>by rw[Da,if_neg (by rw[FT hp];exact hk),if_neg (by simp [Ei hp hq])])
theorem b2p{sg:List Sg}{x:Gs}{b:Bool}(hs:sgB sg)(h:gsOk sg x)(hk:(pkG sg x 0).kind=5):Aj sg x (Dk sg b) (AX x,Eh sg x 19 b):=
 JV (Pc hs h (fun _=>(Ru (by omega)).2)) (fun s hp=>by rw[Dk,if_pos (by rw[FT hp];exact hk)])
theorem b2q{sg:List Sg}{x:Gs}{b:Bool}{z:Int×Gs}(h:gsOk sg x)(hk:(pkG sg x 0).kind≠5)(hq:isG sg x 1 [118,97,114]=true)(hz:Aj sg (Aw x) (Dj sg b) z):Aj sg x (Dk sg b) z:=
 Ll h (by omega) hq hz.1 (fun s hp ht=>by rw[Dk,if_neg (by rw[FT hp];exact hk),if_pos (show isW sg s _=true from ht)])
theorem b2r{sg:List Sg}{x:Gs}{b:Bool}{z:Int×Gs}(h:gsOk sg x)(hk:(pkG sg x 0).kind≠5)(h1:isG sg x 1 [118,97,114]=false)(hq:isG sg x 1 [99,108,97,115,115]=true)(hz:Aj sg (Aw x) (Ha sg b) z):Aj sg x (Dk sg b) z:=
 Ll h (by omega) hq hz.1 (fun s hp ht=>by rw[Dk,if_neg (by rw[FT hp];exact hk),if_neg (by simp [Ei hp h1]),if_pos (show isW sg s _=true from ht)])
theorem b2s{sg:List Sg}{x:Gs}{b:Bool}{z:Int×Gs}(h:gsOk sg x)(hk:(pkG sg x 0).kind≠5)(h1:isG sg x 1 [118,97,114]=false)(hq:isG sg x 1 [99,108,97,115,115]=false)(hz:Aj sg x (Gn sg b) z):Aj sg x (Dk sg b) z:=
 JV hz (fun s hp=>by rw[Dk,if_neg (by rw[FT hp];exact hk),if_neg (by simp [Ei hp h1]),if_neg (by simp [Ei hp hq])])
def Fd(sg:List Sg)(y:Gs)(ks:List Int)(ms:List (Int×Int))(N:Nat):Prop:=
 gsOk sg y∧y.deep=0∧(pur y).bind (Lh sg N ks ms)=Lh sg (sg.length+1) [] [] ps0∧(y.bad=false→(sg.length:Int)-y.pos<N)∧(ks.length:Int)≤y.pos+1∧(y.bad=false→(ks.length:Int)≤y.pos)∧ms.length=ks.length
def gs0:Gs:=⟨0,0,false,[]⟩
theorem b2t{sg:List Sg}:gsOk sg gs0:=⟨by simp [gs0],by simp [gs0],by simp [gs0],by simp [gs0]⟩
theorem b2u{sg:List Sg}:Fd sg gs0 [] [] (sg.length+1):=⟨b2t,rfl,rfl,fun _=>by simp only[gs0];omega,by simp [gs0],fun _=>by simp [gs0],rfl⟩
theorem b2v{sg:List Sg}{y:Gs}{ks:List Int}{ms:List (Int×Int)}{N:Nat}{z:Int×Gs}(h:Fd sg y ks ms N)(hb:y.bad=false)(hl:y.pos<sg.length)(hz:Aj sg y (Dk sg ((pkG sg y 0).blank&&decide (0<ks.length))) z):
 ∃M,N=M+1∧Fd sg z.2 (ks++[z.1]) (ms++[(y.pos,z.2.pos)]) M:=by
 obtain⟨h0,hd,h1,h2,h3,h4,h5⟩:=h
 have h2:=h2 hb;have h4:=h4 hb
 match N with
 |0=>omega
 |M+1=>
  have e:=CE hz
  obtain⟨⟨a1,a2,a3,a4,a5⟩,b⟩:=hz
  refine⟨M,rfl,a1,by omega,?_,fun hw=>by have:=e.2.2.2 hw;omega,by simp;omega,fun hw=>by have:=e.2.2.2 hw;simp;omega,by simp [h5]⟩
  rw[←h1,CR hb,Option.bind_some,Lh,if_pos hl]
  rw[CR hb] at a4 a5
  have eb:(sgO sg y.pos).blank=(pkG sg y 0).blank:=by rw[Ja hb];simp
  simp only[Option.bind_some] at a4 a5
  rw[eb,a4]
  cases hp:Dk sg ((pkG sg y 0).blank&&decide (0<ks.length)) ⟨y.pos,y.deep,y.nodes⟩ with
  |none=>rfl
  |some p=>
   simp only[Option.map_some,Option.bind_some]
   have:=a5 p hp
   have hpos:z.2.pos=p.2.pos:=by
    rw[hp] at a4
    simp only[Option.map_some] at a4
    obtain⟨_,e2⟩:=Ez.1 a4
    rw[e2]
   rw[this,hpos]
def EO(sg:List Sg)(y:Gs)(ks:List Int):Gs:=As y ⟨22,[],ks,false⟩
theorem b2w{sg:List Sg}{y:Gs}{ks:List Int}{ms:List (Int×Int)}{N:Nat}(h:Fd sg y ks ms N)(hb:(EO sg y ks).bad=true)(he:y.bad=true∨¬y.pos<sg.length):JQ sg=none:=by
 obtain⟨h0,hd,h1,h2,h3,h4,h5⟩:=h
 rw[JQ,←h1]
 cases hy:y.bad with
 |true=>rw[DI hy];rfl
 |false=>
  have h2:=h2 hy
  have he:¬y.pos<sg.length:=by rcases he with he|he
                               ·rw[hy] at he;cases he
                               ·exact he
  match N with
  |0=>have:=h0.1;omega
  |N+1=>
   rw[CR hy,Option.bind_some,Lh,if_neg he,Option.bind_some]
   unfold EO As at hb
   split at hb
   ·rename_i hf
    have h3:y.nodes.length=300:=by simpa [Dr,hy] using hf
    rw[Bb,if_pos (by simp only;omega)];rfl
   ·simp only at hb;rw[hy] at hb;cases hb
theorem b2x{sg:List Sg}{y:Gs}{ks:List Int}{ms:List (Int×Int)}{N:Nat}(h:Fd sg y ks ms N)(hb:(EO sg y ks).bad=false)(he:y.bad=true∨¬y.pos<sg.length):
 JQ sg=if BC (EO sg y ks).nodes then some (ms,(EO sg y ks).nodes) else none:=by
 obtain⟨h0,hd,h1,h2,h3,h4,h5⟩:=h
 have hy:=(@Je y ⟨22,[],ks,false⟩).2.2 hb
 have h2:=h2 hy
 have he:¬y.pos<sg.length:=by rcases he with he|he
                              ·rw[hy] at he;cases he
                              ·exact he
 rw[JQ,←h1]
 match N with
 |0=>have:=h0.1;omega
 |N+1=>
  rw[CR hy,Option.bind_some,Lh,if_neg he,Option.bind_some]
  unfold EO As at hb ⊢
  split at hb
  ·simp [Bv] at hb
  ·rename_i hf
   rw[if_neg hf]
   have hf2:=Rm (by simpa using hf)
   have:=h0.2.2.1
   rw[Bb,if_neg (by simp only;omega)]
   simp only[Option.bind_some]
end Go.My
end
section
set_option linter.unusedVariables false
set_option linter.unusedSimpArgs false
namespace Go.My
open Go.Eng Go.Proofs
variable {G:GInv}
theorem Ln{P:Program}{f:FuncId}{S:Sig}{fn:Func}{c:Code}(hfn:P.funcs[f]? =some fn)(hb:fn.body=some c)(hn:(fn.name== "runtime.NumGoroutine")=false)(hp:∀x,¬S.pre x):Am G P f S:=
 ⟨⟨⟨fn,hfn,hn,by simp [hb]⟩,fun x y hx _=>(hp x hx).elim⟩,fun x hx=>(hp x hx).elim⟩
theorem b2y{r:Nat}{s:ST}{g:Gs}(hr:1≤r)(h:wP r 0 s g):False:=by
 have h1:=h.1.1.2.1.2;have h2:=h.2;omega
theorem b2z{r:Nat}{s:ST}{g:Gs}(hr:1≤r)(h:vP r 0 s g):False:=by
 have h1:=h.1.1.2.1.2;have h2:=h.2;omega
theorem b2A{s:ST}{g:Gs}(h:rOk s g∧g.deep≤20):vP 11 peN s g:=by
 have h1:=h.1.2.1;have h2:=h.1.1.1
 exact⟨h,by unfold peN;omega⟩
end Go.My
end
section
set_option linter.unusedVariables false
set_option linter.unusedSimpArgs false
namespace Go.My
open Go.Eng Go.Proofs
variable {G:GInv}
def okD(s:ST)(x:Gs):Prop:=rOk s x∧x.deep≤20
def okN(s:ST)(x:Gs):Prop:=okD s x∧x.bad=false∧x.pos<s.sg.length
theorem a1Q{s:ST}{x:Gs}(h:okN s x):rOk s (Aw x)∧(Aw x).deep≤20:=⟨⟨h.1.1.1,FR h.1.1.2 h.2.2⟩,h.1.2⟩
theorem a1R{s:ST}{x:Gs}(h:rOk s x):rOk s (CB s.sg x):=⟨h.1,(MH h.2).1.1⟩
theorem b2B{s:ST}{x:Gs}(h:rOk s x):(CB s.sg x).deep=x.deep∧x.pos≤(CB s.sg x).pos:=by
 have:=CE (MH h.2);exact⟨this.1,this.2.1⟩
theorem Gv{s:ST}{x:Gs}{m:List UInt8}(h:rOk s x):rOk s (AK s.sg x m)∧(AK s.sg x m).deep=x.deep:=⟨⟨h.1,(Hc h.2).1⟩,(Hc h.2).2.1⟩
theorem JX{a:Bool}{k:Int}(h:a=true):decide (k>0)=(a&&decide (0<k)):=by simp [h]
theorem JY{a:Bool}{k:Int}(h:a=false):false=(a&&decide (0<k)):=by simp [h]
theorem b2C{s:ST}{x:Gs}(h:rOk s x)(hd:x.deep≤20)(hq:isG s.sg (CB s.sg x) 4 [61]=true):rOk s (AP s.sg (CB s.sg x) [61])∧(AP s.sg (CB s.sg x) [61]).deep≤20:=by
 rw[Ek hq]
 have a:=a1R h;have b:=b2B h
 refine⟨⟨h.1,FR a.2 (CS hq (by omega)).2⟩,?_⟩
 have e:(Aw (CB s.sg x)).deep=(CB s.sg x).deep:=rfl
 omega
theorem b2D{s:ST}{x:Gs}{b:Bool}{z:Int×Gs}(h:rOk s x)(hq:isG s.sg (CB s.sg x) 4 [61]=true)(hz:Aj s.sg (AP s.sg (CB s.sg x) [61]) (Cg s.sg) z):
 Aj s.sg x (Dj s.sg b) (Cy s.sg z.2 [59],Cx s.sg z.2 [59] ⟨12,CM s.sg x,[z.1],b⟩):=by
 rw[Ek hq] at hz;exact b1T h.1 h.2 hq hz
theorem b2E{s:ST}{x:Gs}(h:rOk s x)(hq:isG s.sg (CB s.sg x) 4 [61]=false):rOk s (AP s.sg (CB s.sg x) [61]):=by
 rw[Dl hq];exact a1R h
theorem b2F{s:ST}{x:Gs}{b:Bool}(h:rOk s x)(hq:isG s.sg (CB s.sg x) 4 [61]=false):
 Aj s.sg x (Dj s.sg b) (Cy s.sg (AP s.sg (CB s.sg x) [61]) [59],Cx s.sg (AP s.sg (CB s.sg x) [61]) [59] ⟨12,CM s.sg x,[],b⟩):=by
 rw[Dl hq];exact b1S h.1 h.2 hq
theorem a1S{α:Type}{s:ST}{x:Gs}{f:Ps→Option (α×Ps)}{y:α×Gs}(h:okD s x)(hy:BB s.sg x f y):okD s y.2:=⟨⟨h.1.1,hy.1⟩,by have:=hy.2.1;have:=h.2;omega⟩
theorem a1T{s:ST}{x:Gs}{w:List UInt8}(h:okD s x)(hq:isG s.sg x 1 w=true):okN s x:=⟨h,(CS hq (by omega)).1,(CS hq (by omega)).2⟩
theorem a1U{s:ST}{x:Gs}{m:List UInt8}(h:okD s x)(hq:isG s.sg x 1 m=true):okD s (Aw x):=⟨(a1Q (a1T h hq)).1,(a1Q (a1T h hq)).2⟩
theorem b2G{s:ST}{x:Gs}{n:Nat}{b:Bool}{c q:Int×Gs}(h:okD s x)(hk:(pkG s.sg x 0).kind≠5)(h1:isG s.sg x 1 [118,97,114]=false)(h2:isG s.sg x 1 [114,101,116,117,114,110]=false)(h3:isG s.sg x 1 [105,102]=false)(hq:isG s.sg x 1 [119,104,105,108,101]=true)
 (hc:BB s.sg (Aw x) (Dq s.sg) c) (hz:Aj s.sg c.2 (BN s.sg (stR s.sg n)) q):Aj s.sg x (stR s.sg (n+1) b) (AX q.2,As q.2 ⟨17,[],[c.1,q.1],b⟩):=
 b2h h.1.2 hk h1 h2 h3 hq (b2c (a1U h hq).1.2 hc hz)
theorem b2H{α:Type}{s:ST}{x:Gs}{n:Nat}{f:Ps→Option (α×Ps)}{y:α×Gs}(h:20-x.deep≤(n:Int))(hy:BB s.sg x f y):20-y.2.deep≤(n:Int):=by have:=hy.2.1;omega
theorem b2I{α:Type}{s:ST}{x:Gs}{n:Nat}{f:Ps→Option (α×Ps)}{y:α×Gs}(h:20-x.deep≤(n:Int))(hy:Aj s.sg x f y):20-y.2.deep≤(n:Int):=b2H h hy.1
attribute [local irreducible] pE Bw CP fnR Aj BB gsOk AK Cx As CT Eh AP DJ DW AX Cy pkG isG nmG CB CM Dj Gu Dq Cg BN stR CD
end Go.My
end
section
set_option linter.unusedVariables false
set_option linter.unusedSimpArgs false
namespace Go.My
open Go.Eng Go.Proofs
variable {G:GInv}
attribute [local irreducible] pE Bw CP fnR Aj BB gsOk AK Cx As CT Eh AP DJ DW AX Cy pkG isG nmG CB CM Dj Gu Dq Cg BN stR CD Fb Gn Da Dk Ha BS
end Go.My
end
section
set_option linter.unusedVariables false
set_option linter.unusedSimpArgs false
namespace Go.My
open Go.Eng
def HG(t:List UInt8)(i br:Int)(l:List Sg)(n:Nat):Prop:=
 (0≤i∧i≤t.length)∧(0≤br∧br≤i)∧(l.length:Int)≤i∧(t.length:Int)-i<n∧Fa t (t.length+1) 0 0=(Fa t n i br).map (l++ ·)
theorem b2J{t:List UInt8}:HG t 0 0 [] (t.length+1):=by
 refine⟨by omega,by omega,by simp,by simp;omega,?_⟩
 cases Fa t (t.length+1) 0 0<;>simp
theorem Rw{t:List UInt8}{n:Nat}{i br:Int}{c:UInt8}(hc:t[i.toNat]? =some c):Fa t (n+1) i br=if c.toNat=32 then Fa t n (i+1) br
 else if c.toNat=10 then Fa t n (i+1) (br+1)
 else if(Bf (t.drop i.toNat)).ok then(Fa t n (i+(Bf (t.drop i.toNat)).size) 0).map (⟨(Bf (t.drop i.toNat)).kind,(Bf (t.drop i.toNat)).text,i,decide (br>1)⟩:: ·)
 else none:=by rw[Fa,hc]
theorem Rx{t:List UInt8}{i br:Int}{l:List Sg}{n:Nat}(h:HG t i br l n)(hi:i<t.length):∃m,n=m+1:=by
 obtain⟨h1,h2,h3,h4,h5⟩:=h
 match n with
 |0=>omega
 |m+1=>exact⟨m,rfl⟩
theorem b2K{t:List UInt8}{i br:Int}{l:List Sg}{n:Nat}{c:UInt8}(hc:t[i.toNat]? =some c)(h:HG t i br l (n+1))(hi:i<t.length)(h32:c.toNat=32):HG t (i+1) br l n:=by
 obtain⟨h1,h2,h3,h4,h5⟩:=h
 refine⟨by omega,by omega,by omega,by omega,?_⟩
 rw[h5,Rw hc,if_pos h32]
theorem b2L{t:List UInt8}{i br:Int}{l:List Sg}{n:Nat}{c:UInt8}(hc:t[i.toNat]? =some c)(h:HG t i br l (n+1))(hi:i<t.length)(h32:c.toNat=10):HG t (i+1) (br+1) l n:=by
 obtain⟨h1,h2,h3,h4,h5⟩:=h
 refine⟨by omega,by omega,by omega,by omega,?_⟩
 rw[h5,Rw hc,if_neg (by omega),if_pos h32]
theorem b2M{t:List UInt8}{i br:Int}{l:List Sg}{n:Nat}{c:UInt8}(hc:t[i.toNat]? =some c)(h:HG t i br l (n+1))(hi:i<t.length)(h32:c.toNat≠32)(h10:c.toNat≠10)
 (hok:(Bf (t.drop i.toNat)).ok=true) (hz:1≤(Bf (t.drop i.toNat)).size∧(Bf (t.drop i.toNat)).size≤t.length-i):
 HG t (i+(Bf (t.drop i.toNat)).size) 0 (l++[⟨(Bf (t.drop i.toNat)).kind,(Bf (t.drop i.toNat)).text,i,decide (br>1)⟩]) n:=by
 obtain⟨h1,h2,h3,h4,h5⟩:=h
 refine⟨by omega,by omega,by simp;omega,by omega,?_⟩
 rw[h5,Rw hc,if_neg h32,if_neg h10,if_pos hok]
 cases Fa t n (i+(Bf (t.drop i.toNat)).size) 0<;>simp
theorem b2N{t:List UInt8}{i br:Int}{l:List Sg}{n:Nat}{c:UInt8}(hc:t[i.toNat]? =some c)(h:HG t i br l (n+1))(hi:i<t.length)(h32:c.toNat≠32)(h10:c.toNat≠10)
 (hok:(Bf (t.drop i.toNat)).ok=false) (hl:¬3000<t.length):CA t=none:=by
 rw[CA,if_neg hl,h.2.2.2.2,Rw hc,if_neg h32,if_neg h10,if_neg (by simp [hok])];rfl
theorem b2O{t:List UInt8}{i br:Int}{l:List Sg}{n:Nat}(h:HG t i br l n)(hi:¬i<t.length)(hl:¬3000<t.length):CA t=some l:=by
 obtain⟨h1,h2,h3,h4,h5⟩:=h
 rw[CA,if_neg hl,h5]
 match n with
 |0=>omega
 |n+1=>rw[Fa,List.getElem?_eq_none (by omega)];simp
theorem b2P{t:List UInt8}(h:3000<t.length):CA t=none:=if_pos h
end Go.My
end
section
set_option linter.unusedVariables false
set_option linter.unusedSimpArgs false
namespace Go.My
open Go.Eng Go.Proofs
variable {G:GInv}
theorem Vi{p:UInt8→Bool}{b:UInt8}{s:List UInt8}(h:p b=true):1≤((b::s).takeWhile p).length:=by
 rw[List.takeWhile_cons,if_pos h];simp
theorem Ry{p:UInt8→Bool}{s:List UInt8}:(s.takeWhile p).length≤s.length:=(List.takeWhile_prefix p).length_le
theorem b2Q{s:List UInt8}:(Cs s).length≤s.length:=by
 unfold Cs
 have:=(List.dropWhile_suffix (fun c:UInt8=>decide (c.toNat=32)) (l:=s.reverse)).length_le
 simpa using this
theorem a1V{s:List UInt8}(h:(Bf s).ok=true):1≤(Bf s).size∧(Bf s).size≤s.length∧(Bf s).text.length≤s.length:=by
 match s with
 |[]=>cases h
 |b::s=>
  unfold Bf at h ⊢
  simp only at h ⊢
  split
  ·rename_i hb
   have:=Vi (s:=s) (p:=BJ) (b:=b) (by simp [BJ,hb]);have:=Ry (p:=BJ) (s:=b::s);simp only;omega
  ·rename_i hb
   rw[if_neg hb] at h
   split
   ·rename_i hb2
    have:=Vi (s:=s) (p:=Bt) (b:=b) hb2;have:=Ry (p:=Bt) (s:=b::s);simp only;omega
   ·rename_i hb2
    rw[if_neg hb2] at h
    split
    ·rename_i hb3
     rw[if_pos hb3] at h
     simp only at h ⊢
     unfold De at h ⊢
     split at h
     ·cases h
     ·simp only[List.length_take,List.length_cons] at*;omega
    ·rename_i hb3
     rw[if_neg hb3] at h
     split
     ·rename_i hb4
      have hb5:b=47:=by
       cases s with
       |nil=>simp at hb4
       |cons c s=>simp at hb4;exact hb4.1
      have h1:=Vi (s:=s) (p:=Cb) (b:=b) (by subst hb5;rfl);have h2:=Ry (p:=Cb) (s:=b::s);have h3:= @b2Q ((b::s).takeWhile Cb)
      simp only;omega
     ·rename_i hb4
      rw[if_neg hb4] at h
      split
      ·simp only[List.length_take,List.length_cons];omega
      ·rename_i hb5
       rw[if_neg hb5] at h
       split
       ·simp only[List.length_take,List.length_cons];omega
       ·rename_i hb6
        rw[if_neg hb6] at h
        cases h
def sgJ(t:List UInt8)(i br:Int)(l:List Sg)(n:Nat):Prop:=(HG t i br l n∧¬3000<t.length)∧∀e∈l,e.text.length≤3000
theorem b2R{t:List UInt8}(h:¬(t.length:Int)>3000):sgJ t 0 0 [] (t.length+1):=⟨⟨b2J,by omega⟩,by simp⟩
theorem MN{t:List UInt8}{i br:Int}{l:List Sg}{n:Nat}(h:sgJ t i br l n):((0≤i∧i≤t.length)∧(0≤br∧br≤i)∧(l.length:Int)≤i)∧t.length≤3000:=by
 have:=h.1.1;have:=h.1.2;exact⟨⟨h.1.1.1,h.1.1.2.1,h.1.1.2.2.1⟩,by omega⟩
theorem a1W{t:List UInt8}{i br:Int}{l:List Sg}{n:Nat}{c:UInt8}(hc:t[i.toNat]? =some c)(h:sgJ t i br l n)(hi:i<t.length)(h32:c.toNat=32):sgJ t (i+1) br l (n-1)∧n-1<n:=by
 obtain⟨m,rfl⟩:=Rx h.1.1 hi
 exact⟨⟨⟨b2K hc h.1.1 hi h32,h.1.2⟩,h.2⟩,by omega⟩
theorem a1X{t:List UInt8}{i br:Int}{l:List Sg}{n:Nat}{c:UInt8}(hc:t[i.toNat]? =some c)(h:sgJ t i br l n)(hi:i<t.length)(h32:c.toNat=10):sgJ t (i+1) (br+1) l (n-1)∧n-1<n:=by
 obtain⟨m,rfl⟩:=Rx h.1.1 hi
 exact⟨⟨⟨b2L hc h.1.1 hi h32,h.1.2⟩,h.2⟩,by omega⟩
theorem a1Y{t:List UInt8}{i br:Int}{l:List Sg}{n:Nat}(h:sgJ t i br l n)(hok:(Bf (t.drop i.toNat)).ok=true):1≤(Bf (t.drop i.toNat)).size∧(Bf (t.drop i.toNat)).size≤t.length-i∧(Bf (t.drop i.toNat)).text.length≤3000:=by
 have a:=a1V hok
 have b:=(MN h)
 simp only[List.length_drop] at a
 omega
theorem b2S{t:List UInt8}{i br:Int}{l:List Sg}{n:Nat}{c:UInt8}(hc:t[i.toNat]? =some c)(h:sgJ t i br l n)(hi:i<t.length)(h32:c.toNat≠32)(h10:c.toNat≠10)
 (hok:(Bf (t.drop i.toNat)).ok=true):
 sgJ t (i+(Bf (t.drop i.toNat)).size) 0 (l++[⟨(Bf (t.drop i.toNat)).kind,(Bf (t.drop i.toNat)).text,i,decide (br>1)⟩]) (n-1)∧n-1<n:=by
 obtain⟨m,rfl⟩:=Rx h.1.1 hi
 have hz:=a1Y h hok
 refine⟨⟨⟨b2M hc h.1.1 hi h32 h10 hok ⟨hz.1,hz.2.1⟩,h.1.2⟩,?_⟩,by omega⟩
 intro e he
 rcases List.mem_append.1 he with he|he
 ·exact h.2 e he
 ·simp at he;subst he;exact hz.2.2
theorem b2T{t:List UInt8}{i br:Int}{l:List Sg}{n:Nat}{c:UInt8}(hc:t[i.toNat]? =some c)(h:sgJ t i br l n)(hi:i<t.length)(h32:c.toNat≠32)(h10:c.toNat≠10)
 (hok:(Bf (t.drop i.toNat)).ok=false):CA t=none:=by
 obtain⟨m,rfl⟩:=Rx h.1.1 hi
 exact b2N hc h.1.1 hi h32 h10 hok h.1.2
def sgQ(t:List UInt8)(l:List Sg):Prop:=(CA t=some l∧sgB l)∨(CA t=none∧l=[])
theorem a1Z{t:List UInt8}{i br:Int}{l:List Sg}{n:Nat}(h:sgJ t i br l n)(hi:¬i<t.length):(CA t).isSome=true∧sgQ t l:=by
 have a:=b2O h.1.1 hi h.1.2
 have b:=MN h
 exact⟨by rw[a];rfl,.inl ⟨a,by omega,h.2⟩⟩
theorem Rz{t:List UInt8}(h:CA t=none):(CA t).isSome=false∧sgQ t []:=⟨by rw[h];rfl,.inr ⟨h,rfl⟩⟩
theorem a2a{t:List UInt8}(h:(t.length:Int)>3000):CA t=none:=b2P (by omega)
abbrev iF {α β:Type} (i:Int×Int×Bool×List Nd×α×β):Gs:=⟨i.1,i.2.1,i.2.2.1,i.2.2.2.1⟩
theorem b2U{sg:List Sg}:Fd sg ⟨0,0,false,[]⟩ [] [] (sg.length+1):=b2u
theorem b2V{sg:List Sg}{y:Gs}{ks:List Int}{ms:List (Int×Int)}{N:Nat}{b:Bool}{z:Int×Gs}(h:Fd sg y ks ms N)(hb:y.bad=false)(hl:y.pos<sg.length)(hz:Aj sg y (Dk sg b) z)(e:b=((pkG sg y 0).blank&&decide (0<(ks.length:Int)))):
 Fd sg z.2 (ks++[z.1]) (ms++[(y.pos,z.2.pos)]) (N-1)∧N-1<N:=by
 subst e
 exact ML (b2v h hb hl (z:=z) (by
  have:decide (0<ks.length)=decide (0<(ks.length:Int)):=by simp
  rw[this];exact hz))
theorem b2W{s:ST}{y:Gs}{ks:List Int}{ms:List (Int×Int)}{N:Nat}(hs:sgB s.sg)(h:Fd s.sg y ks ms N):okD s y:=⟨⟨hs,h.1⟩,by have:=h.2.1;omega⟩
theorem a2b{sg:List Sg}{y:Gs}{ks:List Int}{ms:List (Int×Int)}{N:Nat}(hs:sgB sg)(h:Fd sg y ks ms N):ks.length≤3001∧ms.length=ks.length∧0≤y.pos∧y.pos≤sg.length:=by
 have h1:=h.1.1;have h2:=hs.1;have h3:=h.2.2.2.2.1;have h4:=h.2.2.2.2.2.2
 omega
attribute [local irreducible] pE Bw CP fnR Aj BB gsOk AK Cx As CT Eh AP DJ DW AX Cy pkG isG nmG CB CM Dj Gu Dq Cg BN stR CD Fb Gn Da Dk Ha BS Fd sgJ
end Go.My
end
section
set_option linter.unusedVariables false
set_option linter.unusedSimpArgs false
namespace Go.My
open Go.Eng Go.Proofs
variable {G:GInv}
def rsQ(t:List UInt8)(sg:List Sg)(ms:List (Int×Int))(g:Gs):Prop:=(g.bad=true∧DH t=none)∨((g.bad=false∧sgB sg∧CA t=some sg)∧JQ sg=some (ms,g.nodes)∧Be g.nodes)
theorem a2c{sg:List Sg}{g:Gs}(h:gsOk sg g):Be g.nodes∧g.nodes.length≤300:=by
 refine⟨⟨by have:=h.2.2.1;omega,fun x hx=> ?_⟩,h.2.2.1⟩
 have:=h.2.2.2 x hx
 exact⟨by have:=this.1;omega,by have:=this.2;omega⟩
theorem MO{t:List UInt8}{l:List Sg}(h:sgQ t l)(hn:(CA t).isSome=true):CA t=some l∧sgB l:=by
 rcases h with h|h
 ·exact h
 ·rw[h.1] at hn;cases hn
theorem b2X{t:List UInt8}{l:List Sg}{y:Gs}{ks:List Int}{ms:List (Int×Int)}{N:Nat}(h:sgQ t l)(hn:(CA t).isSome=true)(hf:Fd l y ks ms N∧(y.bad=true∨¬y.pos<l.length))(hb:(EO l y ks).bad=true):rsQ t l ms (EO l y ks):=by
 refine .inl ⟨hb,?_⟩
 rw[DH,(MO h hn).1]
 simp only[Option.bind_some,b2w hf.1 hb hf.2];rfl
theorem a2d{l:List Sg}{y:Gs}{ks:List Int}{ms:List (Int×Int)}{N:Nat}(hs:sgB l)(h:Fd l y ks ms N):CQ ⟨22,[],ks,false⟩:=⟨by simp,by have:=(a2b hs h).1;simp only;omega⟩
theorem b2Y{t:List UInt8}{l:List Sg}{y:Gs}{ks:List Int}{ms:List (Int×Int)}{N:Nat}(h:sgQ t l)(hn:(CA t).isSome=true)(hf:Fd l y ks ms N∧(y.bad=true∨¬y.pos<l.length))(hb:(EO l y ks).bad=false):
 rsQ t l ms ⟨(EO l y ks).pos,(EO l y ks).deep,!BC (EO l y ks).nodes,(EO l y ks).nodes⟩:=by
 have hk:=a2d (MO h hn).2 hf.1
 have e:=b2x hf.1 hb hf.2
 cases htr:BC (EO l y ks).nodes with
 |false=>
  rw[htr] at e
  refine .inl ⟨rfl,?_⟩
  rw[DH,(MO h hn).1]
  simp only[Option.bind_some,e];rfl
 |true=>
  rw[htr] at e
  exact .inr ⟨⟨rfl,(MO h hn).2,(MO h hn).1⟩,e,(a2c (Pa hf.1.1 hk)).1⟩
theorem a2e{t:List UInt8}{l:List Sg}{ms:List (Int×Int)}{g:Gs}(h:rsQ t l ms g)(hb:g.bad=true):DH t=none:=by
 rcases h with h|h
 ·exact h.2
 ·rw[h.1.1] at hb;cases hb
theorem b2Z{t:List UInt8}{l:List Sg}{ms:List (Int×Int)}{g:Gs}(h:rsQ t l ms g)(hb:g.bad=false):DH t=some g.nodes∧Be g.nodes:=by
 rcases h with h|h
 ·rw[h.1] at hb;cases hb
 ·refine⟨?_,h.2.2⟩
  rw[DH,h.1.2.2];simp only[Option.bind_some,h.2.1];rfl
attribute [local irreducible] gsOk Fd EO DH JQ CA BC
end Go.My
end
section
set_option linter.unusedVariables false
set_option linter.unusedSimpArgs false
namespace Go.My
open Go.Eng Go.Proofs
variable {G:GInv}
def Pi:List (List UInt8):=[[38,38],[124,124],[61,61],[61,62],[46,46]]
def Lo:List (List UInt8):=[[40],[41],[123],[125],[91],[93],[59],[44],[46],[61],[43],[45],[42],[60],[63],[58]]
def mks:List (List UInt8):=[[38,38],[124,124],[61,61],[61,62],[46,46],[40],[41],[123],[125],[91],[93],[59],[44],[46],[61],[43],[45],[42],[60],[63],[58]]
def Fu(s:List UInt8):List UInt8:=(mks.find? fun m=>s.take m.length==m).getD []
theorem Vj{s:List UInt8}{k:Nat}:∀ {l:List (List UInt8)},(∀m∈l,m.length=k)→l.find? (fun m=>s.take m.length==m)=if l.elem (s.take k) then some (s.take k) else none
 |[],_=>rfl
 |m::l,h=>by
  have hm:=h m (by simp)
  rw[List.find?_cons,List.elem_cons,hm]
  cases he:(s.take k==m) with
  |true=>
   have:s.take k=m:=by simpa using he
   simp [this]
  |false=>
   rw[Vj (l:=l) (fun m hm=>h m (by simp [hm]))]
theorem a2f{s:List UInt8}:Fu s=if Pi.elem (s.take 2) then s.take 2 else if Lo.elem (s.take 1) then s.take 1 else []:=by
 have e:mks=Pi++Lo:=rfl
 rw[Fu,e,List.find?_append,Vj (k:=2) (l:=Pi) (by decide),Vj (k:=1) (l:=Lo) (by decide)]
 split
 ·rfl
 ·split<;>rfl
theorem b3a{s:List UInt8}:Pi.elem s=mk2 s:=by
 rw[Bool.eq_iff_iff];simp [Pi,mk2]
theorem b3b{c:UInt8}:Lo.elem [c]=mk1.elem c:=by
 simp [Lo,mk1,List.elem_cons,List.elem_nil]
theorem a2g{c:UInt8}{s:List UInt8}:Fu (c::s)=if Cr ((c::s).take 2) then(c::s).take 2 else if Cr ((c::s).take 1) then(c::s).take 1 else []:=by
 rw[a2f,b3a]
 have h1:Lo.elem ((c::s).take 1)=Cr ((c::s).take 1):=by
  show Lo.elem [c]=Cr [c]
  rw[b3b]
  simp [Cr,mk2]
 rw[h1]
 cases s with
 |nil=>
  show(if mk2 [c]=true then [c] else if Cr [c]=true then [c] else [])=if Cr [c]=true then [c] else if Cr [c]=true then [c] else []
  have:mk2 [c]=false:=by simp [mk2]
  rw[this];simp
 |cons d r=>
  have:Cr ((c::d::r).take 2)=mk2 ((c::d::r).take 2):=by
   show Cr [c,d]=mk2 [c,d]
   simp [Cr]
  rw[this]
def HH(x:List UInt8×Int)(i:Int):Prop:=(0≤i∧i≤21)∧Fu (x.1.drop x.2.toNat)=((mks.drop i.toNat).find? fun m=>(x.1.drop x.2.toNat).take m.length==m).getD []
theorem b3c{x:List UInt8×Int}:HH x 0:=⟨by omega,rfl⟩
theorem a2h{x:List UInt8×Int}{i:Int}{m:List UInt8}(h:HH x i)(ha:mks[i.toNat]? =some m)(hg:((x.1.drop x.2.toNat).take m.length==m)=false):HH x (i+1):=by
 have hlt:=(List.getElem?_eq_some_iff.1 ha).1
 have h21:mks.length=21:=rfl
 obtain⟨h1,h2⟩:=h
 refine⟨by omega,?_⟩
 rw[h2,List.drop_eq_getElem_cons hlt,(List.getElem?_eq_some_iff.1 ha).2,List.find?_cons_of_neg (by simpa using hg),show(i+1).toNat=i.toNat+1 by omega]
theorem b3d{x:List UInt8×Int}{i:Int}{m:List UInt8}(h:HH x i)(ha:mks[i.toNat]? =some m)(hg:((x.1.drop x.2.toNat).take m.length==m)=true):m=Fu (x.1.drop x.2.toNat):=by
 have hlt:=(List.getElem?_eq_some_iff.1 ha).1
 rw[h.2,List.drop_eq_getElem_cons hlt,(List.getElem?_eq_some_iff.1 ha).2,List.find?_cons_of_pos (by simpa using hg)];rfl
theorem b3e{x:List UInt8×Int}{i:Int}(h:HH x i)(hi:¬i<21):[]=Fu (x.1.drop x.2.toNat):=by
 have e:mks.drop i.toNat=[]:=List.drop_eq_nil_of_le (by have h21:mks.length=21:=rfl;rw[h21];omega)
 rw[h.2,e];rfl
theorem RA{t:List UInt8}{a n:Int}(h0:0≤a)(hn:0≤n):List.drop a.toNat (List.take (a+n).toNat t)=(t.drop a.toNat).take n.toNat:=by
 rw[List.drop_take,show(a+n).toNat-a.toNat=n.toNat by omega]
theorem b3f{x:List UInt8×Int}{m:List UInt8}(h0:0≤x.2)(h2:x.2≤x.1.length)(hl:¬x.2+(m.length:Int)≤x.1.length):((x.1.drop x.2.toNat).take m.length==m)=false:=by
 have:((x.1.drop x.2.toNat).take m.length)≠m:=by
  intro e
  have:=congrArg List.length e
  simp at this;omega
 simpa using this
theorem b3g{x:List UInt8×Int}{m:List UInt8}(h0:0≤x.2)(h:List.drop (Int.toNat x.2) (List.take (Int.toNat (x.2+(m.length:Int))) x.1)=m):((x.1.drop x.2.toNat).take m.length==m)=true:=by
 rw[RA h0 (by omega)] at h;simpa using h
theorem b3h{x:List UInt8×Int}{m:List UInt8}(h0:0≤x.2)(h:List.drop (Int.toNat x.2) (List.take (Int.toNat (x.2+(m.length:Int))) x.1)≠m):((x.1.drop x.2.toNat).take m.length==m)=false:=by
 rw[RA h0 (by omega)] at h;simpa using h
theorem b3i{i:Int}{m:List UInt8}(ha:mks[i.toNat]? =some m):m.length≤2:=by
 have:∀m∈mks,m.length≤2:=by decide
 exact this m (List.mem_of_getElem? ha)
theorem a2i{x:List UInt8×Int}{i:Int}(h:HH x i):0≤i∧i≤21:=h.1
attribute [local irreducible] HH Fu
def MP:Sig:= {X:=Unit,args:=fun x=>[],pre:=fun x=>True,Y:=Unit,post:=fun x y=>True,res:=fun x y=> .sl false 0 1 (List UInt8) Ag mks,outs:=fun x y=>[],keep:=true}
theorem b3j:Am G Tryz.prog 186 MP:=
 vcFun_okP [] [(38,⟨List UInt8,Ag⟩)] false (fun x=>[]) Tryz.func186 rfl (by decide) trivial (fun(x:Unit)=>True∧∃(x_1:List UInt8),#[(38:UInt8),(38:UInt8)].toList=x_1∧∃(x_2:List UInt8),#[(124:UInt8),(124:UInt8)].toList=x_2∧∃(x_3:List UInt8),#[(61:UInt8),(61:UInt8)].toList=x_3∧∃(x_4:List UInt8),#[(61:UInt8),(62:UInt8)].toList=x_4∧∃(x_5:List UInt8),#[(46:UInt8),(46:UInt8)].toList=x_5∧∃(x_6:List UInt8),#[(40:UInt8)].toList=x_6∧∃(x_7:List UInt8),#[(41:UInt8)].toList=x_7∧∃(x_8:List UInt8),#[(123:UInt8)].toList=x_8∧∃(x_9:List UInt8),#[(125:UInt8)].toList=x_9∧∃(x_10:List UInt8),#[(91:UInt8)].toList=x_10∧∃(x_11:List UInt8),#[(93:UInt8)].toList=x_11∧∃(x_12:List UInt8),#[(59:UInt8)].toList=x_12∧∃(x_13:List UInt8),#[(44:UInt8)].toList=x_13∧∃(x_14:List UInt8),#[(46:UInt8)].toList=x_14∧∃(x_15:List UInt8),#[(61:UInt8)].toList=x_15∧∃(x_16:List UInt8),#[(43:UInt8)].toList=x_16∧∃(x_17:List UInt8),#[(45:UInt8)].toList=x_17∧∃(x_18:List UInt8),#[(42:UInt8)].toList=x_18∧∃(x_19:List UInt8),#[(60:UInt8)].toList=x_19∧∃(x_20:List UInt8),#[(63:UInt8)].toList=x_20∧∃(x_21:List UInt8),#[(58:UInt8)].toList=x_21∧rA MP x [AV.sl true (0:Nat) (1:Nat) (List UInt8) Ag [x_1,x_2,x_3,x_4,x_5,x_6,x_7,x_8,x_9,x_10,x_11,x_12,x_13,x_14,x_15,x_16,x_17,x_18,x_19,x_20,x_21]]) (fun x=>by kernel_rfl) fun(x:Unit) (hx:True)=>(by
 dsimp only[rA,MP,Au,Ax]
 (repeat' first|(with_reducible first|rfl|exact True.intro|apply AJ|apply And.intro|((first|apply Az|apply AH|apply AA|apply AI)<;>intro _))|(apply Av<;>intro _)|apply AG|refine Af () ?_ ?_|((first|apply AO|apply AN|apply AM|apply AL|apply AF|apply AE|apply AD|apply AC|apply AB)<;>try dsimp only)|apply Af|(refine Prod.forall.2 ?_;intro _;try dsimp only)|(intro _;try dsimp only))
 all_goals first
  |rfl
  |(simp [Ba];done)
  |skip)
def Lp:Sig:= {X:=List UInt8×Int,args:=fun x=>[.str x.1,.int .i64 x.2],pre:=fun x=>0≤x.2∧x.2≤x.1.length∧x.1.length<2^62,Y:=Unit,post:=fun x y=>True,res:=fun x y=> .str (Fu (x.1.drop x.2.toNat)),outs:=fun x y=>[.top,.top],keep:=false}
def Pj(x:List UInt8×Int):LS:= {ι:=Int,inv:=fun i=>HH x i,regs:=fun i=>[(0,.str x.1),(1,.int .i64 x.2),(5,.sl false 0 1 (List UInt8) Ag mks),(6,.int .i64 i)],als:=[],meas:=fun i=>21-i.toNat}
theorem b3k:Am G Tryz.prog 170 Lp:=
 vcFun_okP [(186,0,MP)] [(38,⟨List UInt8,Ag⟩)] false (fun x=>[(3,Pj x)]) Tryz.func170 rfl (by decide) ⟨b3j,trivial⟩ (fun(x:List UInt8×Int)=>(∀(y:Unit),True→True∧True∧True∧True)∧cA MP [] fun x_1 y=>eA (Pj x) [.str x.1,.int .i64 x.2,AV.sl false (0:Nat) (1:Nat) (List UInt8) Ag mks,.int .i64 (0:Int)]∧∀(i:Int),HH x i→Aa (decide (i<(↑(21:Nat):Int))) (((0:Int)≤i∧i<(↑(21:Nat):Int))∧∀(e:List UInt8),mks[Int.toNat i]? =some e→true=true∧true=true∧inR IntKind.i64 (x.2+(↑(List.length e):Int))∧Aa (decide (x.2+(↑(List.length e):Int)≤(↑(List.length x.1):Int))) (inR IntKind.i64 (x.2+(↑(List.length e):Int))∧((0:Int)≤x.2∧x.2≤x.2+(↑(List.length e):Int)∧x.2+(↑(List.length e):Int)≤(↑(List.length x.1):Int))∧((0:Int)≤i∧i<(↑(21:Nat):Int))∧∀(e_1:List UInt8),mks[Int.toNat i]? =some e_1→Aa (List.drop (Int.toNat x.2) (List.take (Int.toNat (x.2+(↑(List.length e):Int))) x.1)==e_1) (((0:Int)≤i∧i<(↑(21:Nat):Int))∧∀(e:List UInt8),mks[Int.toNat i]? =some e→rA Lp x [.str e,.top,.top]) (inR IntKind.i64 (i+(1:Int))∧eN (Pj x) i [.str x.1,.int .i64 x.2,AV.sl false (0:Nat) (1:Nat) (List UInt8) Ag mks,.int .i64 (i+(1:Int))])) (inR IntKind.i64 (i+(1:Int))∧eN (Pj x) i [.str x.1,.int .i64 x.2,AV.sl false (0:Nat) (1:Nat) (List UInt8) Ag mks,.int .i64 (i+(1:Int))])) (rA Lp x [.str #[].toList,.top,.top])) (fun x=>by kernel_rfl) fun(x:List UInt8×Int) (hx:0≤x.2∧x.2≤x.1.length∧x.1.length<2^62)=>(by
 dsimp only[cA,eA,eN,Pj,rA,Lp,MP,Au,Ax,mvL,lnL,mvE,lnE,Bm]
 obtain⟨h1,h2,h3⟩:=hx
 (repeat' first|(with_reducible first|rfl|exact True.intro|apply AJ|apply And.intro|((first|apply Az|apply AH|apply AA|apply AI)<;>intro _))|(apply Av<;>intro _)|apply AG|refine Af () ?_ ?_|((first|apply AO|apply AN|apply AM|apply AL|apply AF|apply AE|apply AD|apply AC|apply AB)<;>try dsimp only)|apply Af|(refine Prod.forall.2 ?_;intro _;try dsimp only)|(intro _;try dsimp only))
 all_goals(try(repeat(rename mks[_]? =some _=>hq;revert hq;rename mks[_]? =some _=>hr;intro hq;rw[hr] at hq;cases hq)))
 all_goals first
  |rfl
  |exact b3c
  |exact a2h ‹_› ‹_› (b3f h1 h2 ‹_›)
  |exact a2h ‹_› ‹_› (b3h h1 ‹_›)
  |exact b3d ‹_› ‹_› (b3g h1 ‹_›)
  |exact b3e ‹_› (by omega)
  |(have hq:=a2i (show HH _ _ by assumption);(try simp only[AR]);omega)
  |(have hq:=a2i (show HH _ _ by assumption);have hm:=b3i ‹_›;(try simp only[AR]);omega)
  |skip)
def rwI(p:UInt8→Bool)(x:List UInt8×Int)(i:Int):Prop:=(x.2≤i∧i≤x.1.length)∧∀e∈(x.1.drop x.2.toNat).take (i-x.2).toNat,p e=true
theorem b3l{p:UInt8→Bool}{x:List UInt8×Int}(h:x.2≤x.1.length):rwI p x x.2:=by
 refine⟨⟨by omega,h⟩,fun e he=> ?_⟩
 rw[show(x.2-x.2).toNat=0 by omega] at he;simp at he
theorem Vk{p:UInt8→Bool}{x:List UInt8×Int}{i:Int}{c:UInt8}(h0:0≤x.2)(h:rwI p x i)(hi:i<x.1.length)(hc:x.1[i.toNat]? =some c)(hp:p c=true):rwI p x (i+1):=by
 obtain⟨⟨a,b⟩,h2⟩:=h
 exact⟨by omega,Qv h2 (by rw[Om h0 a];exact hc) hp (by omega)⟩
theorem a2j{p:UInt8→Bool}{x:List UInt8×Int}{i:Int}(h0:0≤x.2)(h:rwI p x i)(he:¬i<x.1.length∨∃c,x.1[i.toNat]? =some c∧p c=false):((x.1.drop x.2.toNat).takeWhile p)=List.drop (Int.toNat x.2) (List.take (Int.toNat i) x.1)∧((((x.1.drop x.2.toNat).takeWhile p).length:Nat):Int)=i-x.2:=by
 obtain⟨⟨a,b⟩,h2⟩:=h
 have e:=IJ h2 (by
  rcases he with he|⟨c,hc,hp⟩
  ·left;simp;omega
  ·right;exact⟨c,by rw[Om h0 a];exact hc,hp⟩)
 rw[←e,List.drop_take]
 refine⟨by congr 1;omega,?_⟩
 simp;omega
theorem b3m{p:UInt8→Bool}{x:List UInt8×Int}{i:Int}(h:rwI p x i):x.2≤i∧i≤x.1.length:=h.1
def sgR(x:List UInt8×Int)(k:Int)(t:List UInt8)(p:Int)(b:Bool)(n:Int):Prop:=
 ((Bf (x.1.drop x.2.toNat)).ok=true∧(k=(Bf (x.1.drop x.2.toNat)).kind∧t=(Bf (x.1.drop x.2.toNat)).text∧p=x.2∧b=false)∧n=(Bf (x.1.drop x.2.toNat)).size)∨((Bf (x.1.drop x.2.toNat)).ok=false∧n=0)
theorem RB{x:List UInt8×Int}{c:UInt8}(hc:x.1[x.2.toNat]? =some c):x.1.drop x.2.toNat=c::x.1.drop (x.2.toNat+1):=by
 have hlt:=(List.getElem?_eq_some_iff.1 hc).1
 rw[List.drop_eq_getElem_cons hlt,(List.getElem?_eq_some_iff.1 hc).2]
theorem b3n{x:List UInt8×Int}(h0:0≤x.2)(h:(Ci (x.1.drop x.2.toNat):Int)>0):sgR x 5 (Cs (List.drop (Int.toNat x.2) (List.take (Int.toNat (x.2+(Ci (x.1.drop x.2.toNat):Int))) x.1))) x.2 false (Ci (x.1.drop x.2.toNat)):=by
 rw[RA h0 (by omega)]
 unfold sgR
 generalize x.1.drop x.2.toNat=s at*
 unfold Ci at h ⊢
 split at h
 ·rename_i h2
  split at h
  ·rename_i hp
   rw[if_pos h2,if_pos hp]
   match s with
   |[]=>simp at h2
   |[_]=>simp at h2
   |b::c::r=>
    simp at h2
    obtain⟨rfl,rfl⟩:=h2
    left
    simp only[Bf,show Cj 47=false by decide,show Bt 47=false by decide,Bool.false_eq_true,if_false,show(47:UInt8).toNat≠39 by decide,List.take_succ_cons,List.take_zero,if_true]
    refine⟨hp,⟨trivial,?_,trivial,trivial⟩,trivial⟩
    congr 1
    have:=List.takeWhile_prefix Cb (l:=47::47::r)
    rw[Int.toNat_natCast]
    exact(List.prefix_iff_eq_take.1 this).symm
  ·simp at h
 ·simp at h
theorem b3o{s:List UInt8}{c:UInt8}(h:¬(Ci (c::s):Int)>0)(h2:(c::s).take 2=[47,47]):((c::s).takeWhile Cb).all Cc=false:=by
 cases hp:((c::s).takeWhile Cb).all Cc with
 |false=>rfl
 |true=>
  exfalso
  apply h
  rw[Ci,if_pos h2,if_pos hp]
  match s with
  |[]=>simp at h2
  |d::r=>
   simp at h2
   obtain⟨rfl,rfl⟩:=h2
   have:Cb 47=true:=by decide
   simp [List.takeWhile_cons,this];omega
theorem RC{x:List UInt8×Int}{i:Int}{c:UInt8}(h0:0≤x.2)(hc:x.1[x.2.toNat]? =some c)(hf:Cj c=true)(h:rwI BJ x i)(he:¬i<x.1.length∨∃c,x.1[i.toNat]? =some c∧BJ c=false):
 (i-x.2>30→sgR x 0 [] 0 false 0)∧(¬i-x.2>30→sgR x 1 (List.drop (Int.toNat x.2) (List.take (Int.toNat i) x.1)) x.2 false (i-x.2)):=by
 obtain⟨e1,e2⟩:=a2j h0 h he
 have e:=RB hc
 have es:Bf (x.1.drop x.2.toNat)=⟨1,(x.1.drop x.2.toNat).takeWhile BJ,((x.1.drop x.2.toNat).takeWhile BJ).length,decide (((x.1.drop x.2.toNat).takeWhile BJ).length≤30)⟩:=by
  rw[e];simp only[Bf,hf,if_true]
 unfold sgR
 rw[es]
 refine⟨fun h3=> .inr ⟨by simp;omega,rfl⟩,fun h3=> .inl ⟨by simp;omega,⟨rfl,e1.symm,rfl,rfl⟩,by simp only;omega⟩⟩
theorem Pk{x:List UInt8×Int}{i:Int}{c:UInt8}(h0:0≤x.2)(hc:x.1[x.2.toNat]? =some c)(hf:Cj c=false)(hg:Bt c=true)(h:rwI Bt x i)(he:¬i<x.1.length∨∃c,x.1[i.toNat]? =some c∧Bt c=false):
 (i-x.2>12→sgR x 0 [] 0 false 0)∧(¬i-x.2>12→sgR x 2 (List.drop (Int.toNat x.2) (List.take (Int.toNat i) x.1)) x.2 false (i-x.2)):=by
 obtain⟨e1,e2⟩:=a2j h0 h he
 have e:=RB hc
 have es:Bf (x.1.drop x.2.toNat)=⟨2,(x.1.drop x.2.toNat).takeWhile Bt,((x.1.drop x.2.toNat).takeWhile Bt).length,decide (((x.1.drop x.2.toNat).takeWhile Bt).length≤12)⟩:=by
  rw[e];simp only[Bf,hf,hg,Bool.false_eq_true,if_false,if_true]
 unfold sgR
 rw[es]
 refine⟨fun h3=> .inr ⟨by simp;omega,rfl⟩,fun h3=> .inl ⟨by simp;omega,⟨rfl,e1.symm,rfl,rfl⟩,by simp only;omega⟩⟩
theorem b3p{x:List UInt8×Int}{c:UInt8}(h0:0≤x.2)(hc:x.1[x.2.toNat]? =some c)(hf:Cj c=false)(hg:Bt c=false)(hq:(c.toNat:Int)=39):
 sgR x 3 (List.drop (Int.toNat x.2) (List.take (Int.toNat (x.2+(Cn (x.1.drop x.2.toNat):Int))) x.1)) x.2 false (Cn (x.1.drop x.2.toNat)):=by
 rw[RA h0 (by omega)]
 have e:=RB hc
 have hq2:isQ c=true:=by simp [isQ];omega
 unfold sgR
 rw[e]
 have es:Bf (c::x.1.drop (x.2.toNat+1))=⟨3,(De (c::x.1.drop (x.2.toNat+1))).1,(De (c::x.1.drop (x.2.toNat+1))).1.length,(De (c::x.1.drop (x.2.toNat+1))).2⟩:=by
  simp only[Bf,hf,hg,Bool.false_eq_true,if_false,show c.toNat=39 by omega,if_true]
 rw[es]
 by_cases hz:Cn (c::x.1.drop (x.2.toNat+1))=0
 ·right
  refine⟨?_,by rw[hz];rfl⟩
  cases hb:(De (c::x.1.drop (x.2.toNat+1))).2 with
  |false=>rfl
  |true=>exact((Qu hq2).1 hb hz).elim
 ·left
  obtain⟨l1,l2⟩:=Yh hq2 hz
  refine⟨(Qu hq2).2 hz,⟨rfl,?_,rfl,rfl⟩,?_⟩
  ·simp only[l1,Int.toNat_natCast]
  ·simp only[l1,List.length_take];omega
theorem b3q{x:List UInt8×Int}{c:UInt8}(h0:0≤x.2)(hc:x.1[x.2.toNat]? =some c)(hn:¬(Ci (x.1.drop x.2.toNat):Int)>0)(hf:Cj c=false)(hg:Bt c=false)(hq:(c.toNat:Int)≠39):
 sgR x 4 (Fu (x.1.drop x.2.toNat)) x.2 false (Fu (x.1.drop x.2.toNat)).length:=by
 have e:=RB hc
 unfold sgR
 rw[e] at hn ⊢
 generalize x.1.drop (x.2.toNat+1)=s at*
 by_cases h2:(c::s).take 2=[47,47]
 ·right
  have e0:Fu (c::s)=[]:=by
   rw[a2g,h2,if_neg (by decide)]
   have:(c::s).take 1=[47]:=by
    have:=congrArg (List.take 1) h2
    simpa using this
   rw[this,if_neg (by decide)]
  have hp:=b3o hn h2
  refine⟨?_,by rw[e0];rfl⟩
  simp only[Bf,hf,hg,Bool.false_eq_true,if_false,if_neg (show¬c.toNat=39 by omega),h2,if_true]
  exact hp
 ·have es:Bf (c::s)=if Cr ((c::s).take 2) then⟨4,(c::s).take 2,((c::s).take 2).length,true⟩ else if Cr ((c::s).take 1) then⟨4,(c::s).take 1,1,true⟩ else⟨0,[],0,false⟩:=by
   simp only[Bf,hf,hg,Bool.false_eq_true,if_false,if_neg (show¬c.toNat=39 by omega),if_neg h2]
  rw[es,a2g]
  split
  ·left;exact⟨rfl,⟨rfl,rfl,rfl,rfl⟩,rfl⟩
  ·split
   ·left;exact⟨rfl,⟨rfl,rfl,rfl,rfl⟩,by simp⟩
   ·right;exact⟨rfl,rfl⟩
end Go.My
end
section
set_option linter.unusedVariables false
set_option linter.unusedSimpArgs false
namespace Go.My
open Go.Eng Go.Proofs
variable {G:GInv}
def srd(s:ST)(g:Gs):AV:= .box 0 [sgs s.sg,.int .i64 g.pos,.bool g.bad,.int .i64 g.deep,AW g.nodes]
theorem a2k{sg:List Sg}{g:Gs}(h:g.bad=true∨(sg.length:Int)≤g.pos):pkG sg g 0=Ey:=b0K (by simpa using h)
theorem Vl{sg:List Sg}{g:Gs}{e:Sg}(he:sg[g.pos.toNat]? =some e)(hb:g.bad=false)(hl:g.pos<sg.length):pkG sg g 0=e:=b0L (by simpa using he) hb (by omega)
theorem a2l{sg:List Sg}{g:Gs}{k:Int}{t:List UInt8}(hk:k≠0)(h:g.bad=true∨(sg.length:Int)≤g.pos):isG sg g k t=false:=by
 simp [isG,a2k h,Ey,Ne.symm hk]
theorem b3r{sg:List Sg}{g:Gs}{e:Sg}{k:Int}{t:List UInt8}(he:sg[g.pos.toNat]? =some e)(hb:g.bad=false)(hl:g.pos<sg.length):isG sg g k t=(decide (e.kind=k)&&(e.text==t)):=by
 rw[isG,Vl he hb hl]
def kdG(sg:List Sg)(g:Gs)(k:Int):Bool:=decide ((pkG sg g 0).kind=k)&&(decide (k≠1)|| !kw (pkG sg g 0).text)
theorem MQ{sg:List Sg}{g:Gs}{k:Int}(hk:k≠0)(h:g.bad=true∨(sg.length:Int)≤g.pos):kdG sg g k=false:=by
 simp [kdG,a2k h,Ey,Ne.symm hk]
theorem a2m{sg:List Sg}{g:Gs}{e:Sg}{k:Int}(he:sg[g.pos.toNat]? =some e)(hb:g.bad=false)(hl:g.pos<sg.length):kdG sg g k=(decide (e.kind=k)&&(decide (k≠1)|| !kw e.text)):=by
 rw[kdG,Vl he hb hl]
theorem Iv{sg:List Sg}{g:Gs}:kdG sg g 1=nmG sg g 0:=by simp [kdG,nmG]
theorem RD{sg:List Sg}{g:Gs}{k:Int}(hk:k≠0)(h:kdG sg g k=true):g.bad=false∧g.pos<sg.length:=by
 cases hb:g.bad with
 |true=>rw[MQ hk (.inl hb)] at h;cases h
 |false=>
  refine⟨rfl,?_⟩
  rcases Int.lt_or_le g.pos sg.length with hh|hh
  ·exact hh
  ·rw[MQ hk (.inr hh)] at h;cases h
theorem b3s{e:Nd}{b:Bool}{q:Nd→Prop}(h:q ⟨e.kind,e.text,e.kids,b⟩):
 ∃x':Nd,([AV.int IntKind.i64 x'.kind,AV.str x'.text,AV.sl true 0 1 Int Bj x'.kids]=[AV.int IntKind.i64 e.kind,AV.str e.text,AV.sl true 0 1 Int Bj e.kids]∧(@List.nil AV)=[])∧b=x'.blank∧q x':=
 ⟨⟨e.kind,e.text,e.kids,b⟩,⟨rfl,rfl⟩,rfl,h⟩
def BA(sg:List Sg)(g:Gs)(m:List UInt8):Gs:=if isG sg g 1 m then Aw g else g
def Bi(sg:List Sg)(g:Gs)(k:Int):Gs:=if kdG sg g k then Aw g else Bv g
def Bx(sg:List Sg)(g:Gs)(k:Int):List UInt8:=if kdG sg g k then(pkG sg g 0).text else []
def gBl(g:Gs)(k:Int)(b:Bool):Gs:=if g.bad=false∧k<g.nodes.length then⟨g.pos,g.deep,g.bad,g.nodes.set k.toNat ⟨(Ai g.nodes k).kind,(Ai g.nodes k).text,(Ai g.nodes k).kids,b⟩⟩ else g
theorem b3t{g:Gs}{k:Int}{b:Bool}{e:Nd}(he:g.nodes[k.toNat]? =some e)(hb:g.bad=false)(hk:k<g.nodes.length):g.nodes.set k.toNat ⟨e.kind,e.text,e.kids,b⟩=(gBl g k b).nodes:=by
 rw[gBl,if_pos ⟨hb,hk⟩,Bg he]
def blG(sg:List Sg)(g:Gs):Bool:=decide (g.pos<sg.length)&&(sgO sg g.pos).blank
theorem b3u{sg:List Sg}{g:Gs}{e:Sg}{k:Int}(he:sg[(g.pos+1-1).toNat]? =some e)(hk:k≠0)(h:kdG sg g k=true):e.text=Bx sg g k:=by
 obtain⟨hb,hl⟩:=RD hk h
 rw[Bx,if_pos h,Vl (by rw[show g.pos=g.pos+1-1 by omega];exact he) hb hl]
def DL:Sig:= {X:=ST×Int×Int×Bool×List Nd×Int×List UInt8,args:=fun x=>[srd x.1 (xh x),.int .i64 x.2.2.2.2.2.1,.str x.2.2.2.2.2.2],pre:=fun x=>rOk x.1 (xh x)∧x.2.2.2.2.2.1≠0,Y:=Unit,post:=fun x y=>True,res:=fun x y=> .bool (isG x.1.sg (xh x) x.2.2.2.2.2.1 x.2.2.2.2.2.2),outs:=fun x y=>[srd x.1 (xh x),.top,.top],keep:=true}
theorem Pl:Am G Tryz.prog 171 DL:=
 vcFun_okP [] [] false (fun x=>[]) Tryz.func171 rfl (by decide) trivial (fun(x:ST×Int×Int×Bool×List Nd×Int×List UInt8)=>True∧true=true∧true=true∧Aa (!(xh x).bad) (Aa (decide ((xh x).pos<(↑(List.length x.1.sg):Int))) (((0:Int)≤(xh x).pos∧(xh x).pos<(↑(List.length x.1.sg):Int))∧∀(e:Sg),x.1.sg[Int.toNat (xh x).pos]? =some e→Aa (e.kind==x.2.2.2.2.2.1) (((0:Int)≤(xh x).pos∧(xh x).pos<(↑(List.length x.1.sg):Int))∧∀(e:Sg),x.1.sg[Int.toNat (xh x).pos]? =some e→rA DL x [.bool (e.text==x.2.2.2.2.2.2),srd x.1 (xh x),.top,.top]) (rA DL x [.bool false,srd x.1 (xh x),.top,.top])) (rA DL x [.bool false,srd x.1 (xh x),.top,.top])) (rA DL x [.bool false,srd x.1 (xh x),.top,.top])) (fun x=>by kernel_rfl) fun(x:ST×Int×Int×Bool×List Nd×Int×List UInt8) (hx:rOk x.1 (xh x)∧x.2.2.2.2.2.1≠0)=>(by
 dsimp only[Bn,AW,rA,DL,CO,sgs,srd,Au,Ax]
 obtain⟨s,p,d,b,ns,k,m⟩:=x;dsimp only[xg,xh] at hx ⊢
 obtain⟨h1,h2⟩:=hx;have hs:=Gp h1;dsimp only at hs
 (repeat' first|(with_reducible first|rfl|exact True.intro|apply AJ|apply And.intro|((first|apply Az|apply AH|apply AA|apply AI)<;>intro _))|(apply Av<;>intro _)|apply AG|refine Af () ?_ ?_|((first|apply AO|apply AN|apply AM|apply AL|apply AF|apply AE|apply AD|apply AC|apply AB)<;>try dsimp only)|apply Af|(refine Prod.forall.2 ?_;intro _;try dsimp only)|(intro _;try dsimp only))
 all_goals(try(repeat(rename s.sg[_]? =some _=>hq;revert hq;rename s.sg[_]? =some _=>hr;intro hq;rw[hr] at hq;cases hq)))
 all_goals first
  |rfl
  |exact(a2l h2 (.inl ‹_›)).symm
  |exact(a2l h2 (.inr (by simp only;omega))).symm
  |(rw[b3r ‹_› ‹_› (by simp only;omega)];simp [*];done)
  |((try simp only[AR]);omega)
  |skip)
def BU:Sig:= {X:=ST×Int×Int×Bool×List Nd×List UInt8,args:=fun x=>[srd x.1 (xh x),.str x.2.2.2.2.2],pre:=fun x=>rOk x.1 (xh x),Y:=Unit,post:=fun x y=>True,res:=fun x y=> .bool (isG x.1.sg (xh x) 4 x.2.2.2.2.2),outs:=fun x y=>[srd x.1 (AP x.1.sg (xh x) x.2.2.2.2.2),.top],keep:=true}
theorem Hd:Am G Tryz.prog 142 BU:=
 vcFun_okP [(171,0,DL)] [] false (fun x=>[]) Tryz.func142 rfl (by decide) ⟨Pl,trivial⟩ (fun(x:ST×Int×Int×Bool×List Nd×List UInt8)=>True∧cA DL [srd x.1 (xh x),.int .i64 (4:Int),.str x.2.2.2.2.2] fun x_1 y=>Aa (isG x_1.1.sg (xh x_1) x_1.2.2.2.2.2.1 x_1.2.2.2.2.2.2) (inR IntKind.i64 ((xh x_1).pos+(1:Int))∧rA BU x [.bool true,.box 0 [sgs x_1.1.sg,.int .i64 ((xh x_1).pos+(1:Int)),.bool (xh x_1).bad,.int .i64 (xh x_1).deep,AW (xh x_1).nodes],.top]) (rA BU x [.bool false,srd x_1.1 (xh x_1),.top])) (fun x=>by kernel_rfl) fun(x:ST×Int×Int×Bool×List Nd×List UInt8) (hx:rOk x.1 (xh x))=>(by
 dsimp only[cA,Bn,AW,rA,DL,BU,CO,sgs,srd,Au,Ax,mvL,lnL,mvE,lnE]
 obtain⟨s,p,d,b,ns,m⟩:=x;dsimp only[xg,xh] at hx ⊢
 have hx:rOk s ⟨p,d,b,ns⟩:=hx;have hs:=Gp hx;dsimp only at hs
 (repeat' first|(with_reducible first|rfl|exact True.intro|apply AJ|apply And.intro|((first|apply Az|apply AH|apply AA|apply AI)<;>intro _))|(apply Av<;>intro _)|apply AG|refine Af () ?_ ?_|((first|apply AO|apply AN|apply AM|apply AL|apply AF|apply AE|apply AD|apply AC|apply AB)<;>try dsimp only)|apply Af|(refine Prod.forall.2 ?_;intro _;try dsimp only)|(intro _;try dsimp only))
 all_goals first
  |rfl
  |exact hx
  |omega
  |(simp [AP,Aw, *];done)
  |((try simp only[AR]);omega)
  |skip)
def EC:Sig:= {X:=ST×Int×Int×Bool×List Nd×List UInt8,args:=fun x=>[srd x.1 (xh x),.str x.2.2.2.2.2],pre:=fun x=>rOk x.1 (xh x),Y:=Unit,post:=fun x y=>True,res:=fun x y=> .bool (isG x.1.sg (xh x) 1 x.2.2.2.2.2),outs:=fun x y=>[srd x.1 (BA x.1.sg (xh x) x.2.2.2.2.2),.top],keep:=true}
theorem Vm:Am G Tryz.prog 139 EC:=
 vcFun_okP [(171,0,DL)] [] false (fun x=>[]) Tryz.func139 rfl (by decide) ⟨Pl,trivial⟩ (fun(x:ST×Int×Int×Bool×List Nd×List UInt8)=>True∧cA DL [srd x.1 (xh x),.int .i64 (1:Int),.str x.2.2.2.2.2] fun x_1 y=>Aa (isG x_1.1.sg (xh x_1) x_1.2.2.2.2.2.1 x_1.2.2.2.2.2.2) (inR IntKind.i64 ((xh x_1).pos+(1:Int))∧rA EC x [.bool true,.box 0 [sgs x_1.1.sg,.int .i64 ((xh x_1).pos+(1:Int)),.bool (xh x_1).bad,.int .i64 (xh x_1).deep,AW (xh x_1).nodes],.top]) (rA EC x [.bool false,srd x_1.1 (xh x_1),.top])) (fun x=>by kernel_rfl) fun(x:ST×Int×Int×Bool×List Nd×List UInt8) (hx:rOk x.1 (xh x))=>(by
 dsimp only[cA,Bn,AW,rA,DL,EC,CO,sgs,srd,Au,Ax,mvL,lnL,mvE,lnE]
 obtain⟨s,p,d,b,ns,m⟩:=x;dsimp only[xg,xh] at hx ⊢
 have hx:rOk s ⟨p,d,b,ns⟩:=hx;have hs:=Gp hx;dsimp only at hs
 (repeat' first|(with_reducible first|rfl|exact True.intro|apply AJ|apply And.intro|((first|apply Az|apply AH|apply AA|apply AI)<;>intro _))|(apply Av<;>intro _)|apply AG|refine Af () ?_ ?_|((first|apply AO|apply AN|apply AM|apply AL|apply AF|apply AE|apply AD|apply AC|apply AB)<;>try dsimp only)|apply Af|(refine Prod.forall.2 ?_;intro _;try dsimp only)|(intro _;try dsimp only))
 all_goals first
  |rfl
  |exact hx
  |omega
  |(simp [BA,Aw, *];done)
  |((try simp only[AR]);omega)
  |skip)
def BI:Sig:= {X:=ST×Int×Int×Bool×List Nd×List UInt8,args:=fun x=>[srd x.1 (xh x),.str x.2.2.2.2.2],pre:=fun x=>rOk x.1 (xh x),Y:=Unit,post:=fun x y=>True,res:=fun x y=> .tup [],outs:=fun x y=>[srd x.1 (AK x.1.sg (xh x) x.2.2.2.2.2),.top],keep:=true}
theorem HI:Am G Tryz.prog 141 BI:=
 vcFun_okP [(142,0,BU)] [] false (fun x=>[]) Tryz.func141 rfl (by decide) ⟨Hd,trivial⟩ (fun(x:ST×Int×Int×Bool×List Nd×List UInt8)=>True∧cA BU [srd x.1 (xh x),.str x.2.2.2.2.2] fun x_1 y=>Aa (!isG x_1.1.sg (xh x_1) (4:Int) x_1.2.2.2.2.2) (rA BI x [.tup [],.box 0 [sgs x_1.1.sg,.int .i64 (AP x_1.1.sg (xh x_1) x_1.2.2.2.2.2).pos,.bool true,.int .i64 (AP x_1.1.sg (xh x_1) x_1.2.2.2.2.2).deep,AW (AP x_1.1.sg (xh x_1) x_1.2.2.2.2.2).nodes],.top]) (rA BI x [.tup [],srd x_1.1 (AP x_1.1.sg (xh x_1) x_1.2.2.2.2.2),.top])) (fun x=>by kernel_rfl) fun(x:ST×Int×Int×Bool×List Nd×List UInt8) (hx:rOk x.1 (xh x))=>(by
 dsimp only[cA,Bn,AW,rA,BU,BI,CO,sgs,srd,Au,Ax,mvL,lnL,mvE,lnE]
 obtain⟨s,p,d,b,ns,m⟩:=x;dsimp only[xg,xh] at hx ⊢
 have hx:rOk s ⟨p,d,b,ns⟩:=hx;have hs:=Gp hx;dsimp only at hs
 (repeat' first|(with_reducible first|rfl|exact True.intro|apply AJ|apply And.intro|((first|apply Az|apply AH|apply AA|apply AI)<;>intro _))|(apply Av<;>intro _)|apply AG|refine Af () ?_ ?_|((first|apply AO|apply AN|apply AM|apply AL|apply AF|apply AE|apply AD|apply AC|apply AB)<;>try dsimp only)|apply Af|(refine Prod.forall.2 ?_;intro _;try dsimp only)|(intro _;try dsimp only))
 all_goals first
  |rfl
  |exact hx
  |(simp [AK,AP,Aw,Bv, *];done)
  |((try simp only[AR]);omega)
  |skip)
def DM:Sig:= {X:=ST×Int×Int×Bool×List Nd×Int,args:=fun x=>[srd x.1 (xh x),.int .i64 x.2.2.2.2.2],pre:=fun x=>rOk x.1 (xh x)∧x.2.2.2.2.2≠0,Y:=Unit,post:=fun x y=>True,res:=fun x y=> .bool (kdG x.1.sg (xh x) x.2.2.2.2.2),outs:=fun x y=>[srd x.1 (xh x),.top],keep:=true}
theorem RE:Am G Tryz.prog 137 DM:=
 vcFun_okP [(125,0,FG)] [] false (fun x=>[]) Tryz.func137 rfl (by decide) ⟨Us,trivial⟩ (fun(x:ST×Int×Int×Bool×List Nd×Int)=>True∧true=true∧true=true∧Aa (!(xh x).bad) (Aa (decide ((xh x).pos<(↑(List.length x.1.sg):Int))) (((0:Int)≤(xh x).pos∧(xh x).pos<(↑(List.length x.1.sg):Int))∧∀(e:Sg),x.1.sg[Int.toNat (xh x).pos]? =some e→Aa (e.kind==x.2.2.2.2.2) (Aa (x.2.2.2.2.2 != (1:Int)) (rA DM x [.bool true,srd x.1 (xh x),.top]) (((0:Int)≤(xh x).pos∧(xh x).pos<(↑(List.length x.1.sg):Int))∧∀(e:Sg),x.1.sg[Int.toNat (xh x).pos]? =some e→∃(x_1:List UInt8),True∧e.text=x_1∧∃(y0:Unit),(∀(y:Unit),True→AV.bool (kw x_1)=AV.bool (kw x_1))∧true=true∧rA DM x [.bool !kw x_1,srd x.1 (xh x),.top])) (rA DM x [.bool false,srd x.1 (xh x),.top])) (rA DM x [.bool false,srd x.1 (xh x),.top])) (rA DM x [.bool false,srd x.1 (xh x),.top])) (fun x=>by kernel_rfl) fun(x:ST×Int×Int×Bool×List Nd×Int) (hx:rOk x.1 (xh x)∧x.2.2.2.2.2≠0)=>(by
 dsimp only[Bn,AW,rA,DM,CO,sgs,srd,Au,Ax]
 obtain⟨s,p,d,b,ns,k⟩:=x;dsimp only[xg,xh] at hx ⊢
 obtain⟨h1,h2⟩:=hx;have hs:=Gp h1;dsimp only at hs
 (repeat' first|(with_reducible first|rfl|exact True.intro|apply AJ|apply And.intro|((first|apply Az|apply AH|apply AA|apply AI)<;>intro _))|(apply Av<;>intro _)|apply AG|refine Af () ?_ ?_|((first|apply AO|apply AN|apply AM|apply AL|apply AF|apply AE|apply AD|apply AC|apply AB)<;>try dsimp only)|apply Af|(refine Prod.forall.2 ?_;intro _;try dsimp only)|(intro _;try dsimp only))
 all_goals(try(repeat(rename s.sg[_]? =some _=>hq;revert hq;rename s.sg[_]? =some _=>hr;intro hq;rw[hr] at hq;cases hq)))
 all_goals first
  |rfl
  |exact(MQ h2 (.inl ‹_›)).symm
  |exact(MQ h2 (.inr (by simp only;omega))).symm
  |(rw[a2m ‹_› ‹_› (by simp only;omega)];simp [*];done)
  |((try simp only[AR]);omega)
  |skip)
def Cp:Sig:= {X:=ST×Int×Int×Bool×List Nd×Int,args:=fun x=>[srd x.1 (xh x),.int .i64 x.2.2.2.2.2],pre:=fun x=>rOk x.1 (xh x)∧x.2.2.2.2.2≠0,Y:=Unit,post:=fun x y=>True,res:=fun x y=> .str (Bx x.1.sg (xh x) x.2.2.2.2.2),outs:=fun x y=>[srd x.1 (Bi x.1.sg (xh x) x.2.2.2.2.2),.top],keep:=true}
theorem JZ:Am G Tryz.prog 138 Cp:=
 vcFun_okP [(137,0,DM)] [] false (fun x=>[]) Tryz.func138 rfl (by decide) ⟨RE,trivial⟩ (fun(x:ST×Int×Int×Bool×List Nd×Int)=>True∧cA DM [srd x.1 (xh x),.int .i64 x.2.2.2.2.2] fun x_1 y=>Aa (!kdG x_1.1.sg (xh x_1) x_1.2.2.2.2.2) (rA Cp x [.str #[].toList,.box 0 [sgs x_1.1.sg,.int .i64 (xh x_1).pos,.bool true,.int .i64 (xh x_1).deep,AW (xh x_1).nodes],.top]) (inR IntKind.i64 ((xh x_1).pos+(1:Int))∧true=true∧true=true∧inR IntKind.i64 ((xh x_1).pos+(1:Int)-(1:Int))∧((0:Int)≤(xh x_1).pos+(1:Int)-(1:Int)∧(xh x_1).pos+(1:Int)-(1:Int)<(↑(List.length x_1.1.sg):Int))∧∀(e:Sg),x_1.1.sg[Int.toNat ((xh x_1).pos+(1:Int)-(1:Int))]? =some e→rA Cp x [.str e.text,.box 0 [sgs x_1.1.sg,.int .i64 ((xh x_1).pos+(1:Int)),.bool (xh x_1).bad,.int .i64 (xh x_1).deep,AW (xh x_1).nodes],.top])) (fun x=>by kernel_rfl) fun(x:ST×Int×Int×Bool×List Nd×Int) (hx:rOk x.1 (xh x)∧x.2.2.2.2.2≠0)=>(by
 dsimp only[cA,Bn,AW,rA,DM,Cp,CO,sgs,srd,Au,Ax,mvL,lnL,mvE,lnE]
 obtain⟨s,p,d,b,ns,k⟩:=x;dsimp only[xg,xh] at hx ⊢
 obtain⟨h1,h2⟩:=hx;have hs:=Gp h1;dsimp only at hs
 (repeat' first|(with_reducible first|rfl|exact True.intro|apply AJ|apply And.intro|((first|apply Az|apply AH|apply AA|apply AI)<;>intro _))|(apply Av<;>intro _)|apply AG|refine Af () ?_ ?_|((first|apply AO|apply AN|apply AM|apply AL|apply AF|apply AE|apply AD|apply AC|apply AB)<;>try dsimp only)|apply Af|(refine Prod.forall.2 ?_;intro _;try dsimp only)|(intro _;try dsimp only))
 all_goals first
  |rfl
  |exact h1
  |exact h2
  |(simp [Bi,Bx,Aw,Bv, *];done)
  |exact b3u ‹_› h2 ‹_›
  |(have hl:=RD h2 (show kdG _ _ _=true by assumption);dsimp only at hl;(try simp only[AR]);omega)
  |((try simp only[AR]);omega)
  |skip)
def Br:Sig:= {X:=ST×Int×Int×Bool×List Nd×Int×List UInt8×List Int,args:=fun x=>[srd x.1 (xh x),.int .i64 x.2.2.2.2.2.1,.str x.2.2.2.2.2.2.1,Ab x.2.2.2.2.2.2.2],pre:=fun x=>rOk x.1 (xh x),Y:=Unit,post:=fun x y=>True,res:=fun x y=> .int .i64 (AX (xh x)),outs:=fun x y=>[srd x.1 (As (xh x) ⟨x.2.2.2.2.2.1,x.2.2.2.2.2.2.1,x.2.2.2.2.2.2.2,false⟩),.top,.top,.top],keep:=true}
theorem He:Am G Tryz.prog 117 Br:=
 vcFun_okP [] [(24,⟨Nd,ndA true⟩)] false (fun x=>[]) Tryz.func117 rfl (by decide) trivial (fun(x:ST×Int×Int×Bool×List Nd×Int×List UInt8×List Int)=>True∧Aa (xh x).bad (rA Br x [.int .i64 (0:Int),.box 0 [sgs x.1.sg,.int .i64 (xh x).pos,.bool true,.int .i64 (xh x).deep,AW (xh x).nodes],.top,.top,.top]) (Aa (decide ((↑(List.length (xh x).nodes):Int)≥(300:Int))) (rA Br x [.int .i64 (0:Int),.box 0 [sgs x.1.sg,.int .i64 (xh x).pos,.bool true,.int .i64 (xh x).deep,AW (xh x).nodes],.top,.top,.top]) (∃(x_1:Nd),x.2.2.2.2.2.1=x_1.kind∧x.2.2.2.2.2.2.1=x_1.text∧Ab x.2.2.2.2.2.2.2=Ab x_1.kids∧false=x_1.blank∧∃(zs:List Nd),AW [x_1]=AW zs∧BF (ndA true)∧Ba (List.length (xh x).nodes+List.length zs) (56:Nat)∧inR IntKind.i64 ((↑(List.length ((xh x).nodes++zs)):Int)-(1:Int))∧∃(y:Unit),True∧(↑(List.length ((xh x).nodes++zs)):Int)-(1:Int)=AX (xh x)∧sgs x.1.sg=sgs x.1.sg∧(xh x).pos=(As (xh x) {kind:=x.2.2.2.2.2.1,text:=x.2.2.2.2.2.2.1,kids:=x.2.2.2.2.2.2.2,blank:=false}).pos∧(xh x).bad=(As (xh x) {kind:=x.2.2.2.2.2.1,text:=x.2.2.2.2.2.2.1,kids:=x.2.2.2.2.2.2.2,blank:=false}).bad∧(xh x).deep=(As (xh x) {kind:=x.2.2.2.2.2.1,text:=x.2.2.2.2.2.2.1,kids:=x.2.2.2.2.2.2.2,blank:=false}).deep∧AW ((xh x).nodes++zs)=AW (As (xh x) {kind:=x.2.2.2.2.2.1,text:=x.2.2.2.2.2.2.1,kids:=x.2.2.2.2.2.2.2,blank:=false}).nodes∧True))) (fun x=>by kernel_rfl) fun(x:ST×Int×Int×Bool×List Nd×Int×List UInt8×List Int) (hx:rOk x.1 (xh x))=>(by
 dsimp only[Bn,Ab,AW,rA,Br,CO,sgs,srd,Au,Ax]
 obtain⟨s,p,d,b,ns,k,t,ks⟩:=x;dsimp only[xg,xh] at hx ⊢
 have hx:rOk s ⟨p,d,b,ns⟩:=hx;have hs:=Gp hx;dsimp only at hs
 (repeat' first|refine b0J ?_|(with_reducible first|rfl|exact True.intro|apply AJ|apply And.intro|((first|apply Az|apply AH|apply AA|apply AI)<;>intro _))|(apply Av<;>intro _)|apply AG|refine Af () ?_ ?_|((first|apply AO|apply AN|apply AM|apply AL|apply AF|apply AE|apply AD|apply AC|apply AB)<;>try dsimp only)|apply Af|(refine Prod.forall.2 ?_;intro _;try dsimp only)|(intro _;try dsimp only))
 all_goals first
  |rfl
  |(simp [As,AX,Dr,Bv, *];done)
  |(have hn:ns.length=300:=by omega
    simp [As,AX,Dr,Bv, *];done)
  |(have hn:ns.length≠300:=by omega
    simp [As,AX,Dr,Bv, *];done)
  |((try simp only[AR,Ba,List.length_append,List.length_cons,List.length_nil]);omega)
  |skip)
def Fv:Sig:= {X:=ST×Int×Int×Bool×List Nd,args:=fun x=>[srd x.1 (xg x)],pre:=fun x=>rOk x.1 (xg x),Y:=Unit,post:=fun x y=>True,res:=fun x y=> .bool (blG x.1.sg (xg x)),outs:=fun x y=>[srd x.1 (xg x)],keep:=true}
theorem RF:Am G Tryz.prog 114 Fv:=
 vcFun_okP [] [] false (fun x=>[]) Tryz.func114 rfl (by decide) trivial (fun(x:ST×Int×Int×Bool×List Nd)=>True∧true=true∧true=true∧Aa (decide ((xg x).pos<(↑(List.length x.1.sg):Int))) (((0:Int)≤(xg x).pos∧(xg x).pos<(↑(List.length x.1.sg):Int))∧∀(e:Sg),x.1.sg[Int.toNat (xg x).pos]? =some e→rA Fv x [.bool e.blank,srd x.1 (xg x)]) (rA Fv x [.bool false,srd x.1 (xg x)])) (fun x=>by kernel_rfl) fun(x:ST×Int×Int×Bool×List Nd) (hx:rOk x.1 (xg x))=>(by
 dsimp only[Bn,AW,rA,Fv,CO,sgs,srd,Au,Ax]
 obtain⟨s,p,d,b,ns⟩:=x;dsimp only[xg,xh] at hx ⊢
 have hx:rOk s ⟨p,d,b,ns⟩:=hx;have hs:=Gp hx;dsimp only at hs
 (repeat' first|(with_reducible first|rfl|exact True.intro|apply AJ|apply And.intro|((first|apply Az|apply AH|apply AA|apply AI)<;>intro _))|(apply Av<;>intro _)|apply AG|refine Af () ?_ ?_|((first|apply AO|apply AN|apply AM|apply AL|apply AF|apply AE|apply AD|apply AC|apply AB)<;>try dsimp only)|apply Af|(refine Prod.forall.2 ?_;intro _;try dsimp only)|(intro _;try dsimp only))
 all_goals first
  |rfl
  |(simp [blG,IZ (show s.sg[_]? =some _ by assumption), *];done)
  |(simp [blG, *];done)
  |((try simp only[AR]);omega)
  |skip)
def DX:Sig:= {X:=ST×Int×Int×Bool×List Nd×Int×Bool,args:=fun x=>[srd x.1 (xh x),.int .i64 x.2.2.2.2.2.1,.bool x.2.2.2.2.2.2],pre:=fun x=>rOk x.1 (xh x)∧((xh x).bad=false→0≤x.2.2.2.2.2.1),Y:=Unit,post:=fun x y=>True,res:=fun x y=> .tup [],outs:=fun x y=>[srd x.1 (gBl (xh x) x.2.2.2.2.2.1 x.2.2.2.2.2.2),.top,.top],keep:=true}
theorem RG:Am G Tryz.prog 116 DX:=
 vcFun_okP [] [(24,⟨Nd,ndA true⟩)] false (fun x=>[]) Tryz.func116 rfl (by decide) trivial (fun(x:ST×Int×Int×Bool×List Nd×Int×Bool)=>True∧Aa (!(xh x).bad) (Aa (decide (x.2.2.2.2.2.1<(↑(List.length (xh x).nodes):Int))) (((0:Int)≤x.2.2.2.2.2.1∧x.2.2.2.2.2.1<(↑(List.length (xh x).nodes):Int))∧Int.toNat x.2.2.2.2.2.1<List.length (xh x).nodes∧∀(x_1:Nd),(xh x).nodes[Int.toNat x.2.2.2.2.2.1]? =some x_1→∃(x':Nd),([AV.int .i64 x'.kind,.str x'.text,Ab x'.kids]=[.int .i64 x_1.kind,.str x_1.text,Ab x_1.kids]∧(@List.nil AV)=[])∧x.2.2.2.2.2.2=x'.blank∧rA DX x [.tup [],.box 0 [sgs x.1.sg,.int .i64 (xh x).pos,.bool (xh x).bad,.int .i64 (xh x).deep,AW (List.set (xh x).nodes (Int.toNat x.2.2.2.2.2.1) x')],.top,.top]) (rA DX x [.tup [],srd x.1 (xh x),.top,.top])) (rA DX x [.tup [],srd x.1 (xh x),.top,.top])) (fun x=>by kernel_rfl) fun(x:ST×Int×Int×Bool×List Nd×Int×Bool) (hx:rOk x.1 (xh x)∧((xh x).bad=false→0≤x.2.2.2.2.2.1))=>(by
 dsimp only[Bn,Ab,AW,rA,DX,CO,sgs,srd,Au,Ax]
 obtain⟨s,p,d,b,ns,k,bl⟩:=x;dsimp only[xg,xh] at hx ⊢
 obtain⟨hx,hk⟩:=hx
 have hx:rOk s ⟨p,d,b,ns⟩:=hx;have hs:=Gp hx;dsimp only at hs
 (repeat' first|refine b3s ?_|(with_reducible first|rfl|exact True.intro|apply AJ|apply And.intro|((first|apply Az|apply AH|apply AA|apply AI)<;>intro _))|(apply Av<;>intro _)|apply AG|refine Af () ?_ ?_|((first|apply AO|apply AN|apply AM|apply AL|apply AF|apply AE|apply AD|apply AC|apply AB)<;>try dsimp only)|apply Af|(refine Prod.forall.2 ?_;intro _;try dsimp only)|(intro _;try dsimp only))
 all_goals first
  |rfl
  |(simp [gBl, *];done)
  |exact b3t (g:=⟨p,d,b,ns⟩) ‹_› ‹_› ‹_›
  |(have hk2:=hk ‹_›;(try simp only[AR]);omega)
  |((try simp only[AR]);omega)
  |skip)
end Go.My
end
