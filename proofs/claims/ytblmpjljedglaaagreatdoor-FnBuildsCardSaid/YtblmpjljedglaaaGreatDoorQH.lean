/- joined -/
import Derived.Test.YtblmpjljedglaaaGreatDoorQG
set_option linter.unusedSimpArgs false
set_option linter.unusedVariables false
section
namespace Go.My
open Go.Eng
variable {N l n:Nat}{a k:Int}{g x y:Gs}{m:List UInt8}{s:Ps}{sg:List Sg}{z:Int×Gs}
def chF(sg:List Sg)(n l N:Nat)(t:List UInt8)(ks:List Int):Ps→PR:=Gr sg l (pE sg n (.chain (l+1))) N t ks
def chO(sg:List Sg)(n l:Nat)(x y:Gs)(k:Int)(N:Nat):Prop:=
 restP sg x (pE sg (n+1) (.chain l)) y (chF sg n l N [] [k]) 0∧2*((sg.length:Int)-y.pos)+3≤N∧(y.bad=false→x.pos<y.pos)
def chN(sg:List Sg)(n l:Nat)(m:List UInt8)(x y:Gs)(ks:List Int)(N:Nat):Prop:=
 restP sg x (pE sg (n+1) (.chain l)) y (chF sg n l N m ks) 0∧(2*((sg.length:Int)-y.pos)+4≤N∨(isG sg y 4 m=true∧2*((sg.length:Int)-y.pos)+3≤N))∧(ks.length:Int)≤y.pos+1∧(y.bad=false→x.pos<y.pos)
theorem b5H(h1:Ah sg x (pE sg n .fin) z):Ah sg x (pE sg (n+1) (.chain 6)) z:=h1
theorem b5I(h:gsOk sg x)(hl:l≠6)(h1:Ah sg x (pE sg n (.chain (l+1))) z):chO sg n l x z.2 z.1 (2*sg.length+4):=by
 have k1:=Ey (DA (f:=pE sg (n+1) (.chain l)) h) (g':=fun s=>(pE sg n (.chain (l+1)) s).bind fun p=>Gr sg l (pE sg n (.chain (l+1))) (2*sg.length+4) [] [p.1] p.2) (fun s _=>by rw[b5u,if_neg hl])
 have k2:=BR (k:=fun k s=>chF sg n l (2*sg.length+4) [] [k] s) k1 h1.1 (fun _ _=>rfl)
 have:=k2.1.1
 exact⟨k2,by omega,h1.2⟩
def DB(sg:List Sg)(l:Nat)(g:Gs):List UInt8:=((BN l).find? fun m=>isG sg g 4 m).getD []
theorem KY(hs:pur g=some s):IB sg l s=DB sg l g:=by
 unfold IB DB
 congr 2
 funext m
 exact(Tj hs).symm
theorem chMG_t(hb:g.bad=true):DB sg l g=[]:=by
 unfold DB
 rw[List.find?_eq_none.2 (by intro m _;rw[a4I (Ev hb) (by omega)];simp)];rfl
theorem b5J(h:m∈BN l):m≠[]:=by
 unfold BN at h
 split at h<;>simp at h<;>(first|(subst h;simp)|(rcases h with rfl|rfl<;>simp))
theorem KZ(h:DB sg l g≠[]):isG sg g 4 (DB sg l g)=true∧DB sg l g∈BN l:=by
 unfold DB at h ⊢
 cases hf:(BN l).find? fun m=>isG sg g 4 m with
 |none=>rw[hf] at h;exact(h rfl).elim
 |some m=>exact⟨by simpa using List.find?_some hf,by simpa using List.mem_of_find?_eq_some hf⟩
theorem b5K{m':List UInt8}(h:isG sg g 4 m=true)(h':isG sg g 4 m'=true):m=m':=by
 simp [isG] at h h';rw[←h.2,h'.2]
theorem b5L(hm:m∈BN l)(h:isG sg g 4 m=true):DB sg l g=m:=by
 unfold DB
 cases hf:(BN l).find? fun m=>isG sg g 4 m with
 |none=>exact(List.find?_eq_none.1 hf m hm (by simpa using h)).elim
 |some m'=>exact(b5K (by simpa using List.find?_some hf) h)
def enI(sg:List Sg)(n:Nat)(x y:Gs)(k:Int)(N:Nat):Prop:=
 restP sg x (pE sg (n+1) .fin) y (FU sg (pE sg n .value) N k) 0∧(y.bad=false→(sg.length:Int)-y.pos<N)∧(y.bad=false→x.pos<y.pos)
theorem b5M(h:gsOk sg x)(h1:Ah sg x (pE sg n .base) z):enI sg n x z.2 z.1 (sg.length+1):=by
 have k1:=BR (k:=fun k s=>FU sg (pE sg n .value) (sg.length+1) k s) (DA (f:=pE sg (n+1) .fin) h) h1.1 (fun _ _=>rfl)
 have:=k1.1.1
 exact⟨k1,fun _=>by omega,h1.2⟩
theorem QF(h:enI sg n x y k N)(hb:y.bad=false):∃M,N=M+1:=by
 have h1:=h.1.1.1;have h2:=h.2.1 hb
 match N with
 |0=>omega
 |M+1=>exact⟨M,rfl⟩
theorem b5N(h:enI sg n x y k N)(hb:y.bad=true):Ah sg x (pE sg (n+1) .fin) (a,y):=
 ⟨QD h.1 hb,fun hb2=>by simp only at hb2;rw[hb] at hb2;cases hb2⟩
theorem b5O{w:Int×Gs}(h:enI sg n x y k N)(hq:isG sg y 4 [40]=true)(hw:Ah sg y (Dq sg (pE sg n .value) k) w):
 ∃M,N=M+1∧enI sg n x w.2 w.1 M:=by
 have hl:=Dy hq (by omega)
 obtain⟨M,rfl⟩:=QF h hl.1
 obtain⟨h1,hN,hb⟩:=h
 have k1:=Ey h1 (g':=fun s=>(Dq sg (pE sg n .value) k s).bind fun p=>FU sg (pE sg n .value) M p.1 p.2) (fun s hs=>by rw[FU,if_pos (JT hs hq)])
 have k2:=BR (k:=fun k s=>FU sg (pE sg n .value) M k s) k1 hw.1 (fun _ _=>rfl)
 have e:=Dh hw
 have hN2:=hN hl.1;have hb2:=hb hl.1
 exact⟨M,rfl,k2,fun hwb=>by have:=e.2.2.2 hwb;omega,fun hwb=>by have:=e.2.2.2 hwb;omega⟩
theorem b5P(hs:sgB sg)(h:enI sg n x y k N)(hp:isG sg y 4 [40]=false)(hq:isG sg y 4 [46]=true)(hn:nmG sg (Aw y) 0=true):
 ∃M,N=M+1∧enI sg n x (Dz (Ax (Aw y) ⟨6,(pkG sg (Aw y) 0).text,[k],false⟩)) (AY (Aw y)) M:=by
 have hl:=Dy hq (by omega)
 obtain⟨M,rfl⟩:=QF h hl.1
 obtain⟨h1,hN,hb⟩:=h
 have hw:Dw ⟨6,(pkG sg (Aw y) 0).text,[k],false⟩:=⟨QB hs,by simp⟩
 have hn2:=Tk hn
 have k1:=Hf (g':=fun s=>(Gq (Bd ⟨6,(pkG sg (Aw y) 0).text,[k],false⟩ s)).bind fun p=>FU sg (pE sg n .value) M p.1 p.2) h1 (by omega) hq (fun s hs ht=>by
  obtain⟨hb0,rfl⟩:=Fm.1 hs
  rw[FU,if_neg (by simp [Fo hs hp]),if_pos (show isM sg _ [46]=true from ht)]
  have e1:DY sg (y.pos+1)=true:=by
   have:=Mz (sg:=sg) (n:=0) (g:=Aw y) (Dx hn2.1)
   rw[hn] at this;simpa [Aw] using this.symm
  have e2:(pkG sg (Aw y) 0)=sgO sg (y.pos+1):=by rw[JR hn2.1];simp [Aw]
  rw[if_pos e1,e2])
 have hg:=Yz k1.1 hw (fun _=>by omega)
 have k2:=BR (k:=fun k s=>FU sg (pE sg n .value) M k s) k1 hg.1 (fun _ _=>rfl)
 have e:=Dh hg
 have hN2:=hN hl.1;have hb2:=hb hl.1
 simp only[Aw] at e
 exact⟨M,rfl,k2,fun hwb=>by have:=e.2.2.2 hwb;simp only[Aw] at*;omega,fun hwb=>by have:=e.2.2.2 hwb;simp only[Aw] at*;omega⟩
theorem b5Q(h:enI sg n x y k N)(hp:isG sg y 4 [40]=false)(hq:isG sg y 4 [46]=true)(hn:nmG sg (Aw y) 0=false):
 Ah sg x (pE sg (n+1) .fin) (a,Bu (Aw y)):=by
 have hl:=Dy hq (by omega)
 obtain⟨M,rfl⟩:=QF h hl.1
 obtain⟨h1,hN,hb⟩:=h
 have k1:=Hf (g':=fun _=>none) h1 (by omega) hq (fun s hs ht=>by
  obtain⟨hb0,rfl⟩:=Fm.1 hs
  rw[FU,if_neg (by simp [Fo hs hp]),if_pos (show isM sg _ [46]=true from ht)]
  have e1:DY sg (y.pos+1)=false:=by
   have:=Mz (sg:=sg) (n:=0) (g:=Aw y) (Dx (by simpa [Aw] using hb0))
   rw[hn] at this;simpa [Aw] using this.symm
  rw[if_neg (by simp [e1])])
 exact⟨a4N k1 (fun _ _=>rfl),fun hb2=>by simp [Bu] at hb2⟩
theorem b5R(h:enI sg n x y k N)(hb:y.bad=false)(hp:isG sg y 4 [40]=false)(hq:isG sg y 4 [46]=false):Ah sg x (pE sg (n+1) .fin) (k,y):=by
 obtain⟨M,rfl⟩:=QF h hb
 exact⟨He (Ey h.1 (g':=fun s=>some (k,s)) (fun s hs=>by rw[FU,if_neg (by simp [Fo hs hp]),if_neg (by simp [Fo hs hq])])),h.2.2⟩
theorem Tt(hs:pur g=some s):(pkG sg g 0).kind=(sgO sg s.pos).kind:=by
 obtain⟨h,rfl⟩:=Fm.1 hs
 rw[JR h];simp
theorem Tu(h:(pkG sg g 0).kind≠0):g.bad=false∧g.pos<sg.length:=by
 unfold pkG at h
 split at h
 ·simp [EQ] at h
 ·rename_i hh;simp only[Int.add_zero] at hh;exact⟨by cases hb:g.bad<;>simp_all,by omega⟩
theorem a4X(hs:sgB sg)(h:gsOk sg x)(hk:(pkG sg x 0).kind=1):Ah sg x (pE sg (n+1) .base) (EI sg x,Ew sg x):=by
 obtain⟨a,b⟩:=To hs h
 have e:(pur x).bind (pE sg (n+1) .base)=(pur x).bind (BQ sg):=by
  cases hp:pur x with
  |none=>rfl
  |some s=>simp only[Option.bind_some];rw[pE,if_pos (by rw[←Tt hp];exact hk)]
 obtain⟨a1,a2,a3,a4,a5⟩:=a
 exact⟨⟨a1,a2,a3,by rw[e];exact a4,by rw[e];exact a5⟩,b⟩
theorem b5S(hs:sgB sg)(h:gsOk sg x)(hk:(pkG sg x 0).kind=k)(hk2:k=2∨k=3):Ah sg x (pE sg (n+1) .base) (AY x,ER sg x k false):=by
 have hl:=Tu (sg:=sg) (g:=x) (by rw[hk];omega)
 obtain⟨a,b⟩:=QC (k:=k) (b:=false) hs h (fun _=>hl.2)
 have e:(pur x).bind (pE sg (n+1) .base)=(pur x).bind (FT sg k false):=by
  cases hp:pur x with
  |none=>rfl
  |some s=>
   simp only[Option.bind_some]
   have:=Tt (sg:=sg) hp
   rcases hk2 with rfl|rfl
   ·rw[pE,if_neg (by omega),if_pos (by omega)]
   ·rw[pE,if_neg (by omega),if_neg (by omega),if_pos (by omega)]
 obtain⟨a1,a2,a3,a4,a5⟩:=a
 exact⟨⟨a1,a2,a3,by rw[e];exact a4,by rw[e];exact a5⟩,b⟩
theorem QG(hs:pur x=some s)(h1:(pkG sg x 0).kind≠1)(h2:(pkG sg x 0).kind≠2)(h3:(pkG sg x 0).kind≠3):pE sg (n+1) .base s=
 if isM sg s [91] then(Bw sg (pE sg n .value) [93] (sg.length+1) [] (adv s)).bind fun p=>Bq sg [93] ⟨4,[],p.1,false⟩ p.2
 else if isM sg s [40]&&KV sg s then(Bw sg (BQ sg) [41] (sg.length+1) [] (adv s)).bind fun p=>(BE sg [41] p.2).bind fun s1=>(BE sg [61,62] s1).bind fun s2=>(pE sg n .pick s2).bind fun q=>Bd ⟨9,[],p.1++[q.1],false⟩ q.2
 else if isM sg s [40] then(pE sg n .value (adv s)).bind fun p=>Bq sg [41] ⟨11,[],[p.1],false⟩ p.2
 else none:=by
 have:=Tt (sg:=sg) hs
 rw[pE,if_neg (by omega),if_neg (by omega),if_neg (by omega)]
theorem b5T{l:List Int×Gs}(h:gsOk sg x)(h1:(pkG sg x 0).kind≠1)(h2:(pkG sg x 0).kind≠2)(h3:(pkG sg x 0).kind≠3)(hq:isG sg x 4 [91]=true)
 (hl:BF sg (Aw x) (Bw sg (pE sg n .value) [93] (sg.length+1) []) l) (hll:l.1.length≤3001):
 Ah sg x (pE sg (n+1) .base) (Da sg l.2 [93],CZ sg l.2 [93] ⟨4,[],l.1,false⟩):=by
 have k1:=Hf (g':=fun s=>(Bw sg (pE sg n .value) [93] (sg.length+1) [] s).bind fun p=>Bq sg [93] ⟨4,[],p.1,false⟩ p.2) (DA (f:=pE sg (n+1) .base) h) (by omega) hq
  (fun s hs ht=>by rw[QG hs h1 h2 h3,if_pos (show isM sg s [91]=true from ht)])
 have k2:=BR (k:=fun ks s=>Bq sg [93] ⟨4,[],ks,false⟩ s) k1 hl (fun _ _=>rfl)
 have hw:Dw ⟨4,[],l.1,false⟩:=⟨by simp,by simp only;omega⟩
 refine⟨Ts k2 hw,fun hb=> ?_⟩
 have:=(Oi (m:=[93]) hl.1 hw).2 hb
 have e1:=hl.2.2.1
 simp only[Aw] at this e1 ⊢
 omega
theorem b5U(h:gsOk sg x)(h1:(pkG sg x 0).kind≠1)(h2:(pkG sg x 0).kind≠2)(h3:(pkG sg x 0).kind≠3)(hn:isG sg x 4 [91]=false)(hq:isG sg x 4 [40]=true)
 (ha:∀s,pur x=some s→KV sg s=false) (hz:Ah sg (Aw x) (pE sg n .value) z):
 Ah sg x (pE sg (n+1) .base) (Da sg z.2 [41],CZ sg z.2 [41] ⟨11,[],[z.1],false⟩):=by
 have k1:=Hf (g':=fun s=>(pE sg n .value s).bind fun p=>Bq sg [41] ⟨11,[],[p.1],false⟩ p.2) (DA (f:=pE sg (n+1) .base) h) (by omega) hq
  (fun s hs ht=>by rw[QG hs h1 h2 h3,if_neg (by simp [Fo hs hn]),if_neg (by simp [ha s hs]),if_pos (show isM sg s [40]=true from ht)])
 have k2:=BR (k:=fun k s=>Bq sg [41] ⟨11,[],[k],false⟩ s) k1 hz.1 (fun _ _=>rfl)
 have hw:Dw ⟨11,[],[z.1],false⟩:=⟨by simp,by simp⟩
 refine⟨Ts k2 hw,fun hb=> ?_⟩
 have:=(Oi (m:=[41]) hz.1.1 hw).2 hb
 have e1:=hz.1.2.2.1
 simp only[Aw] at this e1 ⊢
 omega
theorem b5V(h:gsOk sg x)(h1:(pkG sg x 0).kind≠1)(h2:(pkG sg x 0).kind≠2)(h3:(pkG sg x 0).kind≠3)(hn:isG sg x 4 [91]=false)(hq:isG sg x 4 [40]=false):
 Ah sg x (pE sg (n+1) .base) (a,Bu x):=
 ⟨a4N (DA h) (fun s hs=>by rw[QG hs h1 h2 h3,if_neg (by simp [Fo hs hn]),if_neg (by simp [Fo hs hq]),if_neg (by simp [Fo hs hq])]),fun hb=>by simp [Bu] at hb⟩
def fnR(sg:List Sg)(n:Nat)(s:Ps):PR:=(BE sg [40] s).bind fun s0=>(Bw sg (BQ sg) [41] (sg.length+1) [] s0).bind fun p=>(BE sg [41] p.2).bind fun s1=>(BE sg [61,62] s1).bind fun s2=>(pE sg n .pick s2).bind fun q=>Bd ⟨9,[],p.1++[q.1],false⟩ q.2
theorem b5W{l:List Int×Gs}(h:gsOk sg x)(hl:BF sg (AP sg x [40]) (Bw sg (BQ sg) [41] (sg.length+1) []) l)(hll:l.1.length≤3001)
 (hz:Ah sg (AP sg (AP sg l.2 [41]) [61,62]) (pE sg n .pick) z):Ah sg x (fnR sg n) (AY z.2,Ax z.2 ⟨9,[],l.1++[z.1],false⟩):=by
 have k1:=HS (g':=fun s0=>(Bw sg (BQ sg) [41] (sg.length+1) [] s0).bind fun p=>(BE sg [41] p.2).bind fun s1=>(BE sg [61,62] s1).bind fun s2=>(pE sg n .pick s2).bind fun q=>Bd ⟨9,[],p.1++[q.1],false⟩ q.2) (DA (f:=fnR sg n) h) (fun _ _=>rfl)
 have k2:=BR (k:=fun ks s=>(BE sg [41] s).bind fun s1=>(BE sg [61,62] s1).bind fun s2=>(pE sg n .pick s2).bind fun q=>Bd ⟨9,[],ks++[q.1],false⟩ q.2) k1 hl (fun _ _=>rfl)
 have k3:=HS (g':=fun s1=>(BE sg [61,62] s1).bind fun s2=>(pE sg n .pick s2).bind fun q=>Bd ⟨9,[],l.1++[q.1],false⟩ q.2) k2 (fun _ _=>rfl)
 have k4:=HS (g':=fun s2=>(pE sg n .pick s2).bind fun q=>Bd ⟨9,[],l.1++[q.1],false⟩ q.2) k3 (fun _ _=>rfl)
 have k5:=BR (k:=fun k s=>Bd ⟨9,[],l.1++[k],false⟩ s) k4 hz.1 (fun _ _=>rfl)
 have hw:Dw ⟨9,[],l.1++[z.1],false⟩:=⟨by simp,by simp;omega⟩
 refine⟨Tr k5 hw,fun hb=> ?_⟩
 obtain⟨d1,d2,d3⟩:= @JV z.2 ⟨9,[],l.1++[z.1],false⟩
 have e1:=Dh hz
 have e2:=k4.2.2.1
 have:=e1.2.2.2 (d3 hb)
 simp only[d2];omega
end Go.My
end
section
namespace Go.My
open Go.Eng Go.Proofs
variable {G:GInv}
variable {N:Nat}{ks:List Int}{m:List UInt8}{one:Ps→PR}{s:ST}{sg:List Sg}{x y:Gs}
abbrev iG {α:Type} (i:Int×Int×Bool×List Nd×α×Nat):Gs:=⟨i.1,i.2.1,i.2.2.1,i.2.2.2.1⟩
def vP(r n:Nat)(s:ST)(g:Gs):Prop:=(rOk s g∧g.deep≤20)∧12*((s.sg.length:Int)-g.pos)+r≤n
def wP(r n:Nat)(s:ST)(g:Gs):Prop:=(rOk s g∧(g.bad=false→g.deep≤20))∧12*((s.sg.length:Int)-g.pos)+r≤n
theorem Om{I:Nat→Prop}(h:∃M,N=M+1∧I M):I (N-1)∧N-1<N:=by
 obtain⟨M,rfl,h⟩:=h
 exact⟨by simpa using h,by omega⟩
theorem Ea{g:Gs}(h:isG sg g 4 m=false):AS sg g m=g:=by simp [AS,h]
theorem EV{g:Gs}(h:isG sg g 4 m=true):AS sg g m=Aw g:=by simp [AS,h]
theorem b5X{α:Type}{f:Ps→Option (α×Ps)}{y:α×Gs}(h:Ah sg x f y)(hb:y.2.bad=false):x.bad=false:=((Dh h).2.2.2 hb).1
abbrev On (sg:List Sg) (one:Ps→PR) (m:List UInt8) (x y:Gs) (ks:List Int) (N:Nat):Prop:=Jn sg one m x y ks N∧(y.bad=false→x.bad=false)
theorem b5Y{z:Int×Gs}(h:On sg one m x y ks N)(hz:Ah sg y one z)(hq:isG sg y 4 m=false)(hc:isG sg z.2 4 [44]=false):
 BF sg x (Bw sg one m (sg.length+1) []) (ks++[z.1],AS sg z.2 [44]):=by rw[Ea hc];exact b5E h.1 hq hz hc
theorem b5Z{z:Int×Gs}(h:On sg one m x y ks N)(hz:Ah sg y one z)(hq:isG sg y 4 m=false)(hc:isG sg z.2 4 [44]=true):
 On sg one m x (AS sg z.2 [44]) (ks++[z.1]) (N-1)∧N-1<N:=by
 rw[EV hc]
 obtain⟨a,b⟩:=Om (b5F h.1 hq hz hc)
 exact⟨⟨a,fun hb=>h.2 (b5X hz hb)⟩,b⟩
theorem GG(g:Gs):(⟨g.pos,g.deep,g.bad,g.nodes⟩:Gs)=g:=rfl
theorem b6a(hr:sgB s.sg)(h:On s.sg one m x y ks N):ks.length≤3000:=by
 have h1:=h.1.2.2;have h2:=h.1.1.1.1.2;have h3:=hr.1;omega
theorem b6b{n:Nat}(hr:sgB s.sg)(h:On s.sg one m x y ks N)(hb:y.bad=false)(hd:x.bad=false→x.deep≤20)(hn:12*((s.sg.length:Int)-x.pos)+11≤n):vP 11 n s y:=by
 have h1:=h.1.1;have h2:=hd (h.2 hb);have h3:=h1.2.1;have h4:=h1.2.2.1
 exact⟨⟨⟨hr,h1.1⟩,by omega⟩,by omega⟩
theorem b6c(hr:sgB s.sg)(h:On s.sg one m x y ks N):rOk s y:=⟨hr,h.1.1.1⟩
theorem b6d{k:Int}{l:List Int×Gs}(hx:gsOk sg x)(h:BF sg (AP sg x [40]) (Bw sg one [41] (sg.length+1) []) l∧l.1.length≤3001):
 Ah sg x (Dq sg one k) (Da sg l.2 [41],CZ sg l.2 [41] ⟨5,[],[k]++l.1,false⟩):=b5G hx h.1 h.2
attribute [local irreducible] pE Bw Dq fnR Ah BF gsOk AP CZ Ax Dz ER AS Ew EI AY Da pkG isG nmG
end Go.My
end
section
namespace Go.My
open Go.Eng Go.Proofs
variable {G:GInv}
variable {x:Gs}
theorem QH{sg:List Sg}{f:Ps→PR}{y:Int×Gs}(h:Ah sg x f y)(hb:x.bad=false→x.deep≤20):y.2.bad=false→y.2.deep≤20:=fun hy=>by
 have:=Dh h;have h2:=hb (this.2.2.2 hy).1;omega
theorem HT{sg:List Sg}{m:List UInt8}(h:gsOk sg x):gsOk sg (AP sg x m)∧(AP sg x m).deep=x.deep∧x.pos≤(AP sg x m).pos∧((AP sg x m).bad=false→x.bad=false):=by
 obtain⟨a1,a2,a3,a4⟩:=(Qz (m:=m) h).1
 refine⟨a1,a2,a3,fun hb=> ?_⟩
 cases hx:x.bad with
 |false=>rfl
 |true=>rw[Ev hx,Dx hb] at a4;cases a4
theorem b6e{s:ST}{n:Nat}{one:Ps→PR}{l:List Int×Gs}(h:rOk s x)(hd:x.deep≤20)(hq:isG s.sg x 4 [40]=true)(hn:12*((s.sg.length:Int)-x.pos)≤n+2)(hl:BF s.sg (AP s.sg x [40]) (Bw s.sg one [41] (s.sg.length+1) []) l∧l.1.length≤3001):
 vP 10 n s (AP s.sg (AP s.sg l.2 [41]) [61,62]):=by
 have a:=HT (m:=[40]) h.2;have b:=HT (m:=[41]) hl.1.1;have c:=HT (m:=[61,62]) b.1
 have e1:=hl.1.2.1;have e2:=hl.1.2.2.1
 have e3:(AP s.sg x [40]).pos=x.pos+1:=by rw[AP,if_pos hq];rfl
 exact⟨⟨⟨h.1,c.1⟩,by omega⟩,by omega⟩
theorem FG{s:ST}{y:Gs}{f:Ps→PR}{z:Int×Gs}(h:rOk s x)(hz:Ah s.sg y f z):rOk s z.2:=⟨h.1,Gt hz⟩
theorem b6f{l:Nat}:(BN l).length≤2:=by
 unfold BN;split<;>simp
attribute [local irreducible] pE Bw Dq fnR Ah BF gsOk AP CZ Ax Dz ER AS Ew EI AY Da pkG isG nmG
end Go.My
end
section
namespace Go.My
open Go.Eng Go.Proofs
variable {G:GInv}
variable {n:Nat}{s:ST}{x:Gs}
theorem a4Y{r:Nat}{k:Int}{m:List UInt8}(hq:isG s.sg x k m=true)(hk:k≠0)(h1:rOk s x)(h2:x.bad=false→x.deep≤20)(h3:12*((s.sg.length:Int)-x.pos)+1≤(n+1:Nat))(hr:r≤12):wP r n s (Aw x)∧vP r n s (Aw x):=by
 have hl:=Dy hq hk
 have ha:=GF h1.2 hl.2
 have hd:=h2 hl.1
 have e:(Aw x).pos=x.pos+1:=rfl
 have e2:(Aw x).deep=x.deep:=rfl
 have a:12*((s.sg.length:Int)-(Aw x).pos)+r≤n:=by omega
 exact⟨⟨⟨⟨h1.1,ha⟩,fun _=>by omega⟩,a⟩,⟨⟨⟨h1.1,ha⟩,by omega⟩,a⟩⟩
abbrev enJ (sg:List Sg) (n:Nat) (x y:Gs) (k:Int) (N:Nat):Prop:=enI sg n x y k N∧(y.bad=false→y.deep≤20)
theorem b6g{z:Int×Gs}(h1:rOk s x)(h2:x.bad=false→x.deep≤20)(hz:Ah s.sg x (pE s.sg n .base) z):enJ s.sg n x z.2 z.1 (s.sg.length+1):=⟨b5M h1.2 hz,QH hz h2⟩
theorem b6h{sg:List Sg}{y:Gs}{k:Int}{N:Nat}{w:Int×Gs}(h:enJ sg n x y k N)(hw:Ah sg y (Dq sg (pE sg n .value) k) w)(hq:isG sg y 4 [40]=true):enJ sg n x w.2 w.1 (N-1)∧N-1<N:=by
 obtain⟨a,b⟩:=Om (b5O h.1 hq hw)
 exact⟨⟨a,QH hw h.2⟩,b⟩
theorem b6i(h1:rOk s x)(h2:x.bad=false→x.deep≤20)(h3:12*((s.sg.length:Int)-x.pos)+2≤(n+1:Nat)):wP 1 n s x:=⟨⟨h1,h2⟩,by omega⟩
attribute [local irreducible] pE Bw Dq fnR Ah BF gsOk AP CZ Ax Dz ER AS Ew EI AY Da pkG isG nmG
end Go.My
end
section
namespace Go.My
open Go.Eng Go.Proofs
variable {G:GInv}
variable {N n:Nat}{ks:List Int}{s:ST}{x y:Gs}{z:Int×Gs}
def b6j(sg:List Sg)(n l:Nat)(m:List UInt8)(x y:Gs)(ks:List Int)(N M:Nat):Prop:=(chN sg n l m x y ks N∧N≤M)∧(y.bad=false→y.deep≤20)
theorem b6k{l:Int}(hl:l=6)(h:Ah s.sg x (pE s.sg n .fin) z):Ah s.sg x (pE s.sg (n+1) (.chain l.toNat)) z:=by subst hl;exact b5H h
theorem ch_ks{l:Nat}{m:List UInt8}{M:Nat}(hs:sgB s.sg)(h:b6j s.sg n l m x y ks N M):ks.length≤3001:=by
 have:=h.1.1.2.2.1;have:=h.1.1.1.1.1.2;have:=hs.1;omega
abbrev pkX (x:Gs):Gs:=gDp (if x.deep=20 then Bu x else x) 1
theorem a4Z(h1:rOk s x)(h2:x.deep≤20)(h3:12*((s.sg.length:Int)-x.pos)+10≤(n+1:Nat)):wP (9-(0:Int).toNat) n s (pkX x)∧rOk s (pkX x):=by
 obtain⟨p1,p2,p3⟩:= @QE x
 have hok:gsOk s.sg (pkX x):=by
  unfold pkX;split
  ·exact⟨h1.2.1,by simp only[gDp,Bu];have:=h1.2.2.1;omega,h1.2.2.2⟩
  ·exact⟨h1.2.1,by simp only[gDp];have:=h1.2.2.1;omega,h1.2.2.2⟩
 exact⟨⟨⟨⟨h1.1,hok⟩,fun hb=>by have:=p3 hb;simp only[pkX] at*;omega⟩,by simp only[pkX] at*;simp;omega⟩,h1.1,hok⟩
theorem a5a(h1:rOk s x)(h2:x.deep≤20)(h3:12*((s.sg.length:Int)-x.pos)+10≤(n+1:Nat))(hz:Ah s.sg (pkX x) (pE s.sg n (.chain 0)) z)(hq:isG s.sg z.2 4 [63]=true):vP 10 n s (AS s.sg z.2 [63]):=by
 rw[EV hq]
 have hl:=Dy hq (by omega)
 have e:=Dh hz
 obtain⟨p1,p2,p3⟩:= @QE x
 have e1:(Aw z.2).pos=z.2.pos+1:=rfl
 have e2:(Aw z.2).deep=z.2.deep:=rfl
 have e3:=p3 (e.2.2.2 hl.1).1
 simp only[pkX] at*
 exact⟨⟨⟨h1.1,GF (Gt hz) hl.2⟩,by omega⟩,by omega⟩
theorem b6l{a:Int×Gs}(h1:rOk s x)(h2:x.deep≤20)(h3:12*((s.sg.length:Int)-x.pos)+10≤(n+1:Nat))(hz:Ah s.sg (pkX x) (pE s.sg n (.chain 0)) z)(hq:isG s.sg z.2 4 [63]=true)
 (ha:Ah s.sg (AS s.sg z.2 [63]) (pE s.sg n .pick) a):vP 10 n s (AP s.sg a.2 [58]):=by
 have hv:=a5a h1 h2 h3 hz hq
 have e:=Dh ha
 have t:=HT (m:=[58]) (Gt ha)
 have:=hv.2;have:=hv.1.2
 exact⟨⟨⟨h1.1,t.1⟩,by omega⟩,by omega⟩
theorem b6m{a b:Int×Gs}(h1:rOk s x)(h2:x.deep≤20)(hz:Ah s.sg (pkX x) (pE s.sg n (.chain 0)) z)(hq:isG s.sg z.2 4 [63]=true)
 (ha:Ah s.sg (AS s.sg z.2 [63]) (pE s.sg n .pick) a) (hb:Ah s.sg (AP s.sg a.2 [58]) (pE s.sg n .pick) b):
 Ah s.sg x (pE s.sg (n+1) .pick) (AY b.2,gDp (Ax b.2 ⟨8,[],[z.1,a.1,b.1],false⟩) (-1)):=by
 rw[EV hq] at ha
 exact b5x h1.2 h2 hz hq ha hb
theorem b6n(h1:rOk s x)(h2:x.deep≤20)(hz:Ah s.sg (pkX x) (pE s.sg n (.chain 0)) z)(hq:isG s.sg z.2 4 [63]=false):Ah s.sg x (pE s.sg (n+1) .pick) (z.1,gDp (AS s.sg z.2 [63]) (-1)):=by
 rw[Ea hq];exact b5w h1.2 h2 hz hq
theorem b6o(h1:rOk s x)(hz:Ah s.sg (pkX x) (pE s.sg n (.chain 0)) z)(hq:isG s.sg z.2 4 [63]=false):0≤(AS s.sg z.2 [63]).deep∧(AS s.sg z.2 [63]).deep≤21:=by
 rw[Ea hq];exact(Gt hz).2.1
theorem YC{g:Gs}{x:Nd}:(Ax g x).deep=g.deep:=JV.1
theorem b6p{α:Type}{sg:List Sg}{f:Ps→Option (α×Ps)}{y:α×Gs}(h:Ah sg x f y):0≤y.2.deep∧y.2.deep≤21:=(Gt h).2.1
theorem b6q(h1:rOk s x)(h2:x.deep≤20)(h3:12*((s.sg.length:Int)-x.pos)+11≤(n+1:Nat)):vP 10 n s x:=⟨⟨h1,h2⟩,by omega⟩
def vaJ(sg:List Sg)(n:Nat)(x y:Gs)(ks:List Int)(N:Nat):Prop:=KX sg n x y ks N∧y.deep≤20
theorem a5b{sg:List Sg}(h:KX sg n x y ks N∧y.deep≤20):vaJ sg n x y ks N:=h
theorem b6r(h1:rOk s x)(hz:Ah s.sg x (pE s.sg n .pick) z)(hq:isG s.sg z.2 4 [46,46]=false):Ah s.sg x (pE s.sg (n+1) .value) z:=b5y h1.2 hz hq
theorem b6s(h1:rOk s x)(h2:x.deep≤20)(hz:Ah s.sg x (pE s.sg n .pick) z)(hq:isG s.sg z.2 4 [46,46]=true):vaJ s.sg n x z.2 [z.1] (s.sg.length+1):=a5b ⟨b5z h1.2 hz hq,by have:=(Dh hz).1;omega⟩
theorem YD(h1:rOk s x)(h:vaJ s.sg n x y ks N):rOk s y:=⟨h1.1,h.1.1.1⟩
theorem b6t(hs:sgB s.sg)(h:vaJ s.sg n x y ks N):ks.length≤3001:=by
 have:=h.1.2.2.1;have:=h.1.1.1.1.2;have:=hs.1;omega
theorem b6u(h1:rOk s x)(h:vaJ s.sg n x y ks N)(hq:isG s.sg y 4 [46,46]=false):Ah s.sg x (pE s.sg (n+1) .value) (AY (AS s.sg y [46,46]),Ax (AS s.sg y [46,46]) ⟨10,[],ks,false⟩):=by
 rw[Ea hq];exact b5A h.1 hq h1.1
theorem b6v(h1:rOk s x)(h:vaJ s.sg n x y ks N)(hq:isG s.sg y 4 [46,46]=false):rOk s (AS s.sg y [46,46]):=by
 rw[Ea hq];exact YD h1 h
attribute [local irreducible] pE Bw Dq fnR Ah BF gsOk AP CZ Ax Dz ER AS Ew EI AY Da pkG isG nmG
end Go.My
end
section
namespace Go.My
open Go.Eng
variable {N n:Nat}{b:Bool}{c q z:Int×Gs}{ks:List Int}{m:List UInt8}{ms:List (Int×Int)}{one:Bool→Ps→PR}{s:Ps}{sg:List Sg}{x y:Gs}
theorem Fp{k:Int}{t:List UInt8}(ht:t.length≤3000)(hk:ks.length≤4000):Dw ⟨k,t,ks,b⟩:=⟨ht,hk⟩
theorem La{α:Type}{f g:Ps→Option (α×Ps)}{y:α×Gs}(h:Ah sg x g y)(e:∀s,pur x=some s→f s=g s):Ah sg x f y:=by
 have e2:(pur x).bind f=(pur x).bind g:=by
  cases hp:pur x with
  |none=>rfl
  |some s=>exact e s hp
 obtain⟨⟨a1,a2,a3,a4,a5⟩,b⟩:=h
 exact⟨⟨a1,a2,a3,by rw[e2];exact a4,by rw[e2];exact a5⟩,b⟩
theorem MC{α:Type}{k:Int}{f g:Ps→Option (α×Ps)}{y:α×Gs}(hx:gsOk sg x)(hk:k≠0)(hm:isG sg x k m=true)(h:BF sg (Aw x) g y)
 (e:∀s,pur x=some s→isT sg s k m=true→f s=g (adv s)):Ah sg x f y:=by
 have k1:=Hf (g':=g) (DA (f:=f) hx) hk hm e
 have k2:=BR (k:=fun a s=>some (a,s)) k1 h (fun s _=>by cases g s<;>rfl)
 refine⟨He k2,fun _=> ?_⟩
 have:=h.2.2.1
 simp only[Aw] at this;omega
theorem MD{f:Ps→PR}{w:Nd}(h:restP sg x f y (Bq sg m w) 0)(hw:Dw w):Ah sg x f (Da sg y m,CZ sg y m w):=by
 refine⟨Ts h hw,fun hb=> ?_⟩
 have:=(Oi (m:=m) h.1 hw).2 hb
 have:=h.2.2.1
 simp only at*;omega
theorem Tv{f:Ps→PR}{w:Nd}(h:restP sg x f y (Bd w) 0)(hw:Dw w)(hp:y.bad=false→x.pos<y.pos):Ah sg x f (AY y,Ax y w):=by
 obtain⟨d1,d2,d3⟩:= @JV y w
 exact⟨Tr h hw,fun hb=>by simp only[d2];exact hp (d3 hb)⟩
theorem a5c(h:gsOk sg x):restP sg x (DN sg b) (De sg x) (fun s=>if isM sg s [61] then(Cl sg (adv s)).bind fun q=>Bq sg [59] ⟨12,Dr sg x,[q.1],b⟩ q.2 else Bq sg [59] ⟨12,Dr sg x,[],b⟩ s) 0:=
 BR (k:=fun t s=>if isM sg s [61] then(Cl sg (adv s)).bind fun q=>Bq sg [59] ⟨12,t,[q.1],b⟩ q.2 else Bq sg [59] ⟨12,t,[],b⟩ s) (DA h) (Oj h).1 (fun _ _=>rfl)
theorem JW(hs:sgB sg):(Dr sg x).length≤3000:=by
 unfold Dr;split
 ·exact QB hs
 ·simp
theorem b6w(hs:sgB sg)(h:gsOk sg x)(hq:isG sg (De sg x) 4 [61]=false):
 Ah sg x (DN sg b) (Da sg (De sg x) [59],CZ sg (De sg x) [59] ⟨12,Dr sg x,[],b⟩):=
 MD (Ey (a5c h) (fun s hs=>by rw[if_neg (by simp [Fo hs hq])])) (Fp (JW hs) (by simp))
theorem b6x(hs:sgB sg)(h:gsOk sg x)(hq:isG sg (De sg x) 4 [61]=true)(hz:Ah sg (Aw (De sg x)) (Cl sg) z):
 Ah sg x (DN sg b) (Da sg z.2 [59],CZ sg z.2 [59] ⟨12,Dr sg x,[z.1],b⟩):=by
 have k1:=Hf (g':=fun s=>(Cl sg s).bind fun q=>Bq sg [59] ⟨12,Dr sg x,[q.1],b⟩ q.2) (a5c h) (by omega) hq (fun s hs ht=>by rw[if_pos (show isM sg s [61]=true from ht)])
 have k2:=BR (k:=fun k s=>Bq sg [59] ⟨12,Dr sg x,[k],b⟩ s) k1 hz.1 (fun _ _=>rfl)
 exact MD k2 (Fp (JW hs) (by simp))
def Hg(sg:List Sg)(b:Bool)(s:Ps):PR:=if isM sg s [59] then Bq sg [59] ⟨15,[],[],b⟩ s else(Cl sg s).bind fun p=>Bq sg [59] ⟨15,[],[p.1],b⟩ p.2
theorem b6y(h:gsOk sg x)(hq:isG sg x 4 [59]=true):Ah sg x (Hg sg b) (Da sg x [59],CZ sg x [59] ⟨15,[],[],b⟩):=
 MD (Ey (DA h) (fun s hs=>by rw[Hg,if_pos (JT hs hq)])) (Fp (by simp) (by simp))
theorem b6z(h:gsOk sg x)(hq:isG sg x 4 [59]=false)(hz:Ah sg x (Cl sg) z):Ah sg x (Hg sg b) (Da sg z.2 [59],CZ sg z.2 [59] ⟨15,[],[z.1],b⟩):=by
 have k1:=Ey (DA (f:=Hg sg b) h) (g':=fun s=>(Cl sg s).bind fun p=>Bq sg [59] ⟨15,[],[p.1],b⟩ p.2) (fun s hs=>by rw[Hg,if_neg (by simp [Fo hs hq])])
 have k2:=BR (k:=fun k s=>Bq sg [59] ⟨15,[],[k],b⟩ s) k1 hz.1 (fun _ _=>rfl)
 exact MD k2 (Fp (by simp) (by simp))
theorem b6A(h:gsOk sg x)(hz:Ah sg (AP sg x [40]) (Cl sg) z):BF sg x (DZ sg) (z.1,AP sg z.2 [41]):=by
 have k1:=HS (g':=fun s1=>(Cl sg s1).bind fun p=>(BE sg [41] p.2).map fun s2=>(p.1,s2)) (DA (f:=DZ sg) h) (fun _ _=>rfl)
 have k2:=BR (k:=fun k s=>(BE sg [41] s).map fun s2=>(k,s2)) k1 hz.1 (fun _ _=>rfl)
 have k3:=HS (g':=fun s=>some (z.1,s)) k2 (fun s _=>by cases BE sg [41] s<;>rfl)
 exact He k3
theorem b6B(h:isM sg s m=true):CY sg one m (N+1) ks s=some (ks,s):=by rw[CY,if_pos h]
theorem b6C(h:isM sg s m=false):CY sg one m (N+1) ks s=(one ((sgO sg s.pos).blank&&decide (0<ks.length)) s).bind fun p=>CY sg one m N (ks++[p.1]) p.2:=by rw[CY,if_neg (by simp [h])]
def Lb(sg:List Sg)(one:Bool→Ps→PR)(m:List UInt8)(x y:Gs)(ks:List Int)(N:Nat):Prop:=
 restP sg x (CY sg one m (sg.length+1) []) y (CY sg one m N ks) 0∧(y.bad=false→(sg.length:Int)-y.pos<N)∧(ks.length:Int)≤y.pos+1∧(y.bad=false→(ks.length:Int)≤y.pos)
theorem a5d(h:gsOk sg x):Lb sg one m x x [] (sg.length+1):=by
 have:=h.1
 exact⟨DA h,fun _=>by omega,by simp;omega,fun _=>by simp;omega⟩
theorem a5e(h:Lb sg one m x y ks N)(hb:y.bad=true):BF sg x (CY sg one m (sg.length+1) []) (ks,y):=QD h.1 hb
theorem a5f(h:Lb sg one m x y ks N)(hb:y.bad=false):∃M,N=M+1:=by
 have h1:=h.1.1.1;have h2:=h.2.1 hb
 match N with
 |0=>omega
 |M+1=>exact⟨M,rfl⟩
theorem a5g(h:Lb sg one m x y ks N)(hq:isG sg y 4 m=true):BF sg x (CY sg one m (sg.length+1) []) (ks,y):=by
 obtain⟨M,rfl⟩:=a5f h (Dy hq (by omega)).1
 exact He (Ey h.1 (g':=fun s=>some (ks,s)) (fun s hs=>b6B (JT hs hq)))
theorem a5h(h:Lb sg one m x y ks N)(hb:y.bad=false)(hq:isG sg y 4 m=false)
 (hz:Ah sg y (one ((pkG sg y 0).blank&&decide (0<ks.length))) z):∃M,N=M+1∧Lb sg one m x z.2 (ks++[z.1]) M:=by
 obtain⟨M,rfl⟩:=a5f h hb
 obtain⟨h1,h2,h3,h4⟩:=h
 have k1:=Ey h1 (g':=fun s=>(one ((pkG sg y 0).blank&&decide (0<ks.length)) s).bind fun p=>CY sg one m M (ks++[p.1]) p.2) (fun s hs=>by
  rw[b6C (Fo hs hq)]
  obtain⟨_,rfl⟩:=Fm.1 hs
  rw[JR hb];simp)
 have k2:=BR (k:=fun k s=>CY sg one m M (ks++[k]) s) k1 hz.1 (fun _ _=>rfl)
 have e:=Dh hz
 have:=h2 hb;have:=h4 hb
 exact⟨M,rfl,k2,fun hw=>by have:=e.2.2.2 hw;omega,by simp;omega,fun hw=>by have:=e.2.2.2 hw;simp;omega⟩
theorem b6D(h:gsOk sg x)(hd:x.deep≤20):restP sg x (BO sg one) (AP sg (gDp (if x.deep=20 then Bu x else x) 1) [123])
 (fun s1=>(CY sg one [125] (sg.length+1) [] s1).bind fun p=>(Bq sg [125] ⟨18,[],p.1,false⟩ p.2).map fun q=>(q.1,dp q.2 (-1))) 1:=by
 have k0:restP sg x (BO sg one) (gDp (if x.deep=20 then Bu x else x) 1) (fun s=>(BE sg [123] s).bind fun s1=>(CY sg one [125] (sg.length+1) [] s1).bind fun p=>(Bq sg [125] ⟨18,[],p.1,false⟩ p.2).map fun q=>(q.1,dp q.2 (-1))) 1:=by
  split
  ·rename_i h20
   have h2:=a4O (d:=0) (g':=BO sg one) (DA (f:=BO sg one) h) (fun s hs=>by
    obtain⟨_,rfl⟩:=Fm.1 hs
    rw[BO,if_pos (by simp only;omega)])
   refine MB (d:=0) h2 ⟨by simp only[Bu];omega,by simp only[Bu];omega⟩ (fun s hs=> ?_)
   rw[JS] at hs;cases hs
  ·rename_i h20
   refine MB (d:=0) (DA h) ⟨by have:=h.2.1.1;omega,by omega⟩ (fun s hs=> ?_)
   obtain⟨_,rfl⟩:=Fm.1 hs
   rw[BO,if_neg (by simp only;omega)]
 exact HS k0 (fun _ _=>rfl)
def ifR(sg:List Sg)(n:Nat)(b:Bool)(s:Ps):PR:=(DZ sg s).bind fun p=>(BO sg (stR sg n) p.2).bind fun q=>
 if isW sg q.2 [101,108,115,101] then(BO sg (stR sg n) (adv q.2)).bind fun r=>Bd ⟨16,[],[p.1,q.1,r.1],b⟩ r.2 else Bd ⟨16,[],[p.1,q.1],b⟩ q.2
theorem a5i(h:gsOk sg x)(hc:BF sg x (DZ sg) c)(hq:Ah sg c.2 (BO sg (stR sg n)) q):
 restP sg x (ifR sg n b) q.2 (fun s=>if isW sg s [101,108,115,101] then(BO sg (stR sg n) (adv s)).bind fun r=>Bd ⟨16,[],[c.1,q.1,r.1],b⟩ r.2 else Bd ⟨16,[],[c.1,q.1],b⟩ s) 0:=by
 have k1:=BR (k:=fun a s=>(BO sg (stR sg n) s).bind fun q=>if isW sg q.2 [101,108,115,101] then(BO sg (stR sg n) (adv q.2)).bind fun r=>Bd ⟨16,[],[a,q.1,r.1],b⟩ r.2 else Bd ⟨16,[],[a,q.1],b⟩ q.2) (DA (f:=ifR sg n b) h) hc (fun _ _=>rfl)
 exact BR (k:=fun k s=>if isW sg s [101,108,115,101] then(BO sg (stR sg n) (adv s)).bind fun r=>Bd ⟨16,[],[c.1,k,r.1],b⟩ r.2 else Bd ⟨16,[],[c.1,k],b⟩ s) k1 hq.1 (fun _ _=>rfl)
theorem b6E(h:gsOk sg x)(hc:BF sg x (DZ sg) c)(hq:Ah sg c.2 (BO sg (stR sg n)) q)(he:isG sg q.2 1 [101,108,115,101]=false):
 Ah sg x (ifR sg n b) (AY q.2,Ax q.2 ⟨16,[],[c.1,q.1],b⟩):=by
 have k:=Ey (a5i (b:=b) h hc hq) (g':=Bd ⟨16,[],[c.1,q.1],b⟩) (fun s hs=>by rw[if_neg (by simp [ET hs he])])
 refine Tv k (Fp (by simp) (by simp)) (fun hb=> ?_)
 have:=(Dh hq).2.2.2 hb;have:=hc.2.2.1;omega
theorem b6F{r:Int×Gs}(h:gsOk sg x)(hc:BF sg x (DZ sg) c)(hq:Ah sg c.2 (BO sg (stR sg n)) q)(he:isG sg q.2 1 [101,108,115,101]=true)
 (hr:Ah sg (Aw q.2) (BO sg (stR sg n)) r):Ah sg x (ifR sg n b) (AY r.2,Ax r.2 ⟨16,[],[c.1,q.1,r.1],b⟩):=by
 have k:=Hf (a5i (b:=b) h hc hq) (g':=fun s=>(BO sg (stR sg n) s).bind fun r=>Bd ⟨16,[],[c.1,q.1,r.1],b⟩ r.2) (by omega) he (fun s hs ht=>by rw[if_pos (show isW sg s [101,108,115,101]=true from ht)])
 have k2:=BR (k:=fun k s=>Bd ⟨16,[],[c.1,q.1,k],b⟩ s) k hr.1 (fun _ _=>rfl)
 refine Tv k2 (Fp (by simp) (by simp)) (fun hb=> ?_)
 have:=(Dh hr).2.2.2 hb;have:=hc.2.2.1;have:=(Dh hq).2.1
 simp only[Aw] at*;omega
def whR(sg:List Sg)(n:Nat)(b:Bool)(s:Ps):PR:=(DZ sg s).bind fun p=>(BO sg (stR sg n) p.2).bind fun q=>Bd ⟨17,[],[p.1,q.1],b⟩ q.2
theorem b6G(h:gsOk sg x)(hc:BF sg x (DZ sg) c)(hq:Ah sg c.2 (BO sg (stR sg n)) q):
 Ah sg x (whR sg n b) (AY q.2,Ax q.2 ⟨17,[],[c.1,q.1],b⟩):=by
 have k1:=BR (k:=fun a s=>(BO sg (stR sg n) s).bind fun q=>Bd ⟨17,[],[a,q.1],b⟩ q.2) (DA (f:=whR sg n b) h) hc (fun _ _=>rfl)
 have k2:=BR (k:=fun k s=>Bd ⟨17,[],[c.1,k],b⟩ s) k1 hq.1 (fun _ _=>rfl)
 refine Tv k2 (Fp (by simp) (by simp)) (fun hb=> ?_)
 have:=(Dh hq).2.2.2 hb;have:=hc.2.2.1;omega
def setR(sg:List Sg)(b:Bool)(s:Ps):PR:=(FE sg s).bind fun p=>(BE sg [61] p.2).bind fun s1=>(Cl sg s1).bind fun q=>Bq sg [59] ⟨13,p.1,[q.1],b⟩ q.2
theorem b6H(hs:sgB sg)(h:gsOk sg x)(hz:Ah sg (AP sg (De sg x) [61]) (Cl sg) z):
 Ah sg x (setR sg b) (Da sg z.2 [59],CZ sg z.2 [59] ⟨13,Dr sg x,[z.1],b⟩):=by
 have k1:=BR (k:=fun t s=>(BE sg [61] s).bind fun s1=>(Cl sg s1).bind fun q=>Bq sg [59] ⟨13,t,[q.1],b⟩ q.2) (DA (f:=setR sg b) h) (Oj h).1 (fun _ _=>rfl)
 have k2:=HS (g':=fun s1=>(Cl sg s1).bind fun q=>Bq sg [59] ⟨13,Dr sg x,[q.1],b⟩ q.2) k1 (fun _ _=>rfl)
 have k3:=BR (k:=fun k s=>Bq sg [59] ⟨13,Dr sg x,[k],b⟩ s) k2 hz.1 (fun _ _=>rfl)
 exact MD k3 (Fp (JW hs) (by simp))
def doR(sg:List Sg)(b:Bool)(s:Ps):PR:=(Cl sg s).bind fun p=>Bq sg [59] ⟨14,[],[p.1],b⟩ p.2
theorem b6I(h:gsOk sg x)(hz:Ah sg x (Cl sg) z):Ah sg x (doR sg b) (Da sg z.2 [59],CZ sg z.2 [59] ⟨14,[],[z.1],b⟩):=by
 have k3:=BR (k:=fun k s=>Bq sg [59] ⟨14,[],[k],b⟩ s) (DA (f:=doR sg b) h) hz.1 (fun _ _=>rfl)
 exact MD k3 (Fp (by simp) (by simp))
theorem JX:stR sg (n+1) b s=
 if(sgO sg s.pos).kind=5 then FT sg 19 b s
 else if isW sg s [118,97,114] then DN sg b (adv s)
 else if isW sg s [114,101,116,117,114,110] then Hg sg b (adv s)
 else if isW sg s [105,102] then ifR sg n b (adv s)
 else if isW sg s [119,104,105,108,101] then whR sg n b (adv s)
 else if DY sg s.pos&&isM sg (adv s) [61] then(Cl sg (adv (adv s))).bind fun p=>Bq sg [59] ⟨13,(sgO sg s.pos).text,[p.1],b⟩ p.2
 else doR sg b s:=rfl
theorem set_eq(h:(DY sg s.pos&&isM sg (adv s) [61])=true):(Cl sg (adv (adv s))).bind (fun p=>Bq sg [59] ⟨13,(sgO sg s.pos).text,[p.1],b⟩ p.2)=setR sg b s:=by
 simp only[Bool.and_eq_true] at h
 rw[setR,FE,if_pos h.1]
 simp only[Option.bind_some]
 rw[BE,if_pos h.2];rfl
theorem GH(hs:pur x=some s):(sgO sg s.pos).kind=(pkG sg x 0).kind:=(Tt hs).symm
theorem b6J(hs:sgB sg)(h:gsOk sg x)(hk:(pkG sg x 0).kind=5):Ah sg x (stR sg (n+1) b) (AY x,ER sg x 19 b):=
 La (QC hs h (fun _=>(Tu (by omega)).2)) (fun s hp=>by rw[JX,if_pos (by rw[GH hp];exact hk)])
theorem b6K(h:gsOk sg x)(hk:(pkG sg x 0).kind≠5)(hq:isG sg x 1 [118,97,114]=true)(hz:Ah sg (Aw x) (DN sg b) z):Ah sg x (stR sg (n+1) b) z:=
 MC h (by omega) hq hz.1 (fun s hp ht=>by rw[JX,if_neg (by rw[GH hp];exact hk),if_pos (show isW sg s _=true from ht)])
theorem a5j(h:gsOk sg x)(hk:(pkG sg x 0).kind≠5)(h1:isG sg x 1 [118,97,114]=false)(hq:isG sg x 1 [114,101,116,117,114,110]=true)(hz:Ah sg (Aw x) (Hg sg b) z):Ah sg x (stR sg (n+1) b) z:=
 MC h (by omega) hq hz.1 (fun s hp ht=>by rw[JX,if_neg (by rw[GH hp];exact hk),if_neg (by simp [ET hp h1]),if_pos (show isW sg s _=true from ht)])
theorem a5k(h:gsOk sg x)(hk:(pkG sg x 0).kind≠5)(h1:isG sg x 1 [118,97,114]=false)(h2:isG sg x 1 [114,101,116,117,114,110]=false)(hq:isG sg x 1 [105,102]=true)
 (hz:Ah sg (Aw x) (ifR sg n b) z):Ah sg x (stR sg (n+1) b) z:=
 MC h (by omega) hq hz.1 (fun s hp ht=>by rw[JX,if_neg (by rw[GH hp];exact hk),if_neg (by simp [ET hp h1]),if_neg (by simp [ET hp h2]),if_pos (show isW sg s _=true from ht)])
theorem b6L(h:gsOk sg x)(hk:(pkG sg x 0).kind≠5)(h1:isG sg x 1 [118,97,114]=false)(h2:isG sg x 1 [114,101,116,117,114,110]=false)(h3:isG sg x 1 [105,102]=false)(hq:isG sg x 1 [119,104,105,108,101]=true)
 (hz:Ah sg (Aw x) (whR sg n b) z):Ah sg x (stR sg (n+1) b) z:=
 MC h (by omega) hq hz.1 (fun s hp ht=>by rw[JX,if_neg (by rw[GH hp];exact hk),if_neg (by simp [ET hp h1]),if_neg (by simp [ET hp h2]),if_neg (by simp [ET hp h3]),if_pos (show isW sg s _=true from ht)])
def seG(sg:List Sg)(x:Gs):Bool:=nmG sg x 0&&(decide ((pkG sg x 1).kind=4)&&((pkG sg x 1).text==[61]))
theorem YE(hs:pur x=some s):(DY sg s.pos&&isM sg (adv s) [61])=seG sg x:=by
 obtain⟨hb,rfl⟩:=Fm.1 hs
 have:=Mz (sg:=sg) (n:=0) (Dx hb)
 simp only[Int.add_zero] at this
 rw[seG,this,JR hb];rfl
theorem b6M(h:gsOk sg x)(hk:(pkG sg x 0).kind≠5)(h1:isG sg x 1 [118,97,114]=false)(h2:isG sg x 1 [114,101,116,117,114,110]=false)(h3:isG sg x 1 [105,102]=false)(h4:isG sg x 1 [119,104,105,108,101]=false)
 (hq:seG sg x=true) (hz:Ah sg x (setR sg b) z):Ah sg x (stR sg (n+1) b) z:=
 La hz (fun s hp=>by rw[JX,if_neg (by rw[GH hp];exact hk),if_neg (by simp [ET hp h1]),if_neg (by simp [ET hp h2]),if_neg (by simp [ET hp h3]),if_neg (by simp [ET hp h4]),if_pos (by rw[YE hp];exact hq),set_eq (by rw[YE hp];exact hq)])
theorem b6N(h:gsOk sg x)(hk:(pkG sg x 0).kind≠5)(h1:isG sg x 1 [118,97,114]=false)(h2:isG sg x 1 [114,101,116,117,114,110]=false)(h3:isG sg x 1 [105,102]=false)(h4:isG sg x 1 [119,104,105,108,101]=false)
 (hq:seG sg x=false) (hz:Ah sg x (doR sg b) z):Ah sg x (stR sg (n+1) b) z:=
 La hz (fun s hp=>by rw[JX,if_neg (by rw[GH hp];exact hk),if_neg (by simp [ET hp h1]),if_neg (by simp [ET hp h2]),if_neg (by simp [ET hp h3]),if_neg (by simp [ET hp h4]),if_neg (by rw[YE hp];simp [hq])])
theorem b6O{l:List Int×Gs}(hs:sgB sg)(h:gsOk sg x)(hl:BF sg (AP sg (De sg x) [40]) (Bw sg (BQ sg) [41] (sg.length+1) []) l)(hll:l.1.length≤3001)
 (hq:Ah sg (AP sg l.2 [41]) (FV sg) q):Ah sg x (GE sg b) (AY q.2,Ax q.2 ⟨20,Dr sg x,l.1++[q.1],b⟩):=by
 have k1:=BR (k:=fun t s=>(BE sg [40] s).bind fun s1=>(Bw sg (BQ sg) [41] (sg.length+1) [] s1).bind fun q=>(BE sg [41] q.2).bind fun s2=>(FV sg s2).bind fun r=>Bd ⟨20,t,q.1++[r.1],b⟩ r.2) (DA (f:=GE sg b) h) (Oj h).1 (fun _ _=>rfl)
 have k2:=HS (g':=fun s1=>(Bw sg (BQ sg) [41] (sg.length+1) [] s1).bind fun q=>(BE sg [41] q.2).bind fun s2=>(FV sg s2).bind fun r=>Bd ⟨20,Dr sg x,q.1++[r.1],b⟩ r.2) k1 (fun _ _=>rfl)
 have k3:=BR (k:=fun ks s=>(BE sg [41] s).bind fun s2=>(FV sg s2).bind fun r=>Bd ⟨20,Dr sg x,ks++[r.1],b⟩ r.2) k2 hl (fun _ _=>rfl)
 have k4:=HS (g':=fun s2=>(FV sg s2).bind fun r=>Bd ⟨20,Dr sg x,l.1++[r.1],b⟩ r.2) k3 (fun _ _=>rfl)
 have k5:=BR (k:=fun k s=>Bd ⟨20,Dr sg x,l.1++[k],b⟩ s) k4 hq.1 (fun _ _=>rfl)
 refine Tv k5 (Fp (JW hs) (by simp;omega)) (fun hb=> ?_)
 have:=(Dh hq).2.2.2 hb;have:=k4.2.2.1;omega
theorem b6P{l:List Int×Gs}(hs:sgB sg)(h:gsOk sg x)(hl:BF sg (AP sg (De sg x) [123]) (CY sg (Dv sg) [125] (sg.length+1) []) l)(hll:l.1.length≤3001):
 Ah sg x (Hc sg b) (Da sg l.2 [125],CZ sg l.2 [125] ⟨21,Dr sg x,l.1,b⟩):=by
 have k1:=BR (k:=fun t s=>(BE sg [123] s).bind fun s1=>(CY sg (Dv sg) [125] (sg.length+1) [] s1).bind fun q=>Bq sg [125] ⟨21,t,q.1,b⟩ q.2) (DA (f:=Hc sg b) h) (Oj h).1 (fun _ _=>rfl)
 have k2:=HS (g':=fun s1=>(CY sg (Dv sg) [125] (sg.length+1) [] s1).bind fun q=>Bq sg [125] ⟨21,Dr sg x,q.1,b⟩ q.2) k1 (fun _ _=>rfl)
 have k3:=BR (k:=fun ks s=>Bq sg [125] ⟨21,Dr sg x,ks,b⟩ s) k2 hl (fun _ _=>rfl)
 exact MD k3 (Fp (JW hs) (by omega))
theorem b6Q(hs:sgB sg)(h:gsOk sg x)(hk:(pkG sg x 0).kind=5):Ah sg x (Dv sg b) (AY x,ER sg x 19 b):=
 La (QC hs h (fun _=>(Tu (by omega)).2)) (fun s hp=>by rw[Dv,if_pos (by rw[GH hp];exact hk)])
theorem b6R(h:gsOk sg x)(hk:(pkG sg x 0).kind≠5)(hq:isG sg x 1 [118,97,114]=true)(hz:Ah sg (Aw x) (DN sg b) z):Ah sg x (Dv sg b) z:=
 MC h (by omega) hq hz.1 (fun s hp ht=>by rw[Dv,if_neg (by rw[GH hp];exact hk),if_pos (show isW sg s _=true from ht)])
theorem b6S(h:gsOk sg x)(hk:(pkG sg x 0).kind≠5)(hq:isG sg x 1 [118,97,114]=false)(hz:Ah sg x (GE sg b) z):Ah sg x (Dv sg b) z:=
 La hz (fun s hp=>by rw[Dv,if_neg (by rw[GH hp];exact hk),if_neg (by simp [ET hp hq])])
theorem b6T(hs:sgB sg)(h:gsOk sg x)(hk:(pkG sg x 0).kind=5):Ah sg x (DG sg b) (AY x,ER sg x 19 b):=
 La (QC hs h (fun _=>(Tu (by omega)).2)) (fun s hp=>by rw[DG,if_pos (by rw[GH hp];exact hk)])
theorem b6U(h:gsOk sg x)(hk:(pkG sg x 0).kind≠5)(hq:isG sg x 1 [118,97,114]=true)(hz:Ah sg (Aw x) (DN sg b) z):Ah sg x (DG sg b) z:=
 MC h (by omega) hq hz.1 (fun s hp ht=>by rw[DG,if_neg (by rw[GH hp];exact hk),if_pos (show isW sg s _=true from ht)])
theorem b6V(h:gsOk sg x)(hk:(pkG sg x 0).kind≠5)(h1:isG sg x 1 [118,97,114]=false)(hq:isG sg x 1 [99,108,97,115,115]=true)(hz:Ah sg (Aw x) (Hc sg b) z):Ah sg x (DG sg b) z:=
 MC h (by omega) hq hz.1 (fun s hp ht=>by rw[DG,if_neg (by rw[GH hp];exact hk),if_neg (by simp [ET hp h1]),if_pos (show isW sg s _=true from ht)])
theorem b6W(h:gsOk sg x)(hk:(pkG sg x 0).kind≠5)(h1:isG sg x 1 [118,97,114]=false)(hq:isG sg x 1 [99,108,97,115,115]=false)(hz:Ah sg x (GE sg b) z):Ah sg x (DG sg b) z:=
 La hz (fun s hp=>by rw[DG,if_neg (by rw[GH hp];exact hk),if_neg (by simp [ET hp h1]),if_neg (by simp [ET hp hq])])
def FX(sg:List Sg)(y:Gs)(ks:List Int)(ms:List (Int×Int))(N:Nat):Prop:=
 gsOk sg y∧y.deep=0∧(pur y).bind (JO sg N ks ms)=JO sg (sg.length+1) [] [] ps0∧(y.bad=false→(sg.length:Int)-y.pos<N)∧(ks.length:Int)≤y.pos+1∧(y.bad=false→(ks.length:Int)≤y.pos)∧ms.length=ks.length
def gs0:Gs:=⟨0,0,false,[]⟩
theorem b6X:gsOk sg gs0:=⟨by simp [gs0],by simp [gs0],by simp [gs0],by simp [gs0]⟩
theorem b6Y:FX sg gs0 [] [] (sg.length+1):=⟨b6X,rfl,rfl,fun _=>by simp only[gs0];omega,by simp [gs0],fun _=>by simp [gs0],rfl⟩
theorem b6Z(h:FX sg y ks ms N)(hb:y.bad=false)(hl:y.pos<sg.length)(hz:Ah sg y (DG sg ((pkG sg y 0).blank&&decide (0<ks.length))) z):
 ∃M,N=M+1∧FX sg z.2 (ks++[z.1]) (ms++[(y.pos,z.2.pos)]) M:=by
 obtain⟨h0,hd,h1,h2,h3,h4,h5⟩:=h
 have h2:=h2 hb;have h4:=h4 hb
 match N with
 |0=>omega
 |M+1=>
  have e:=Dh hz
  obtain⟨⟨a1,a2,a3,a4,a5⟩,b⟩:=hz
  refine⟨M,rfl,a1,by omega,?_,fun hw=>by have:=e.2.2.2 hw;omega,by simp;omega,fun hw=>by have:=e.2.2.2 hw;simp;omega,by simp [h5]⟩
  rw[←h1,Dx hb,Option.bind_some,JO,if_pos hl]
  rw[Dx hb] at a4 a5
  have eb:(sgO sg y.pos).blank=(pkG sg y 0).blank:=by rw[JR hb];simp
  simp only[Option.bind_some] at a4 a5
  rw[eb,a4]
  cases hp:DG sg ((pkG sg y 0).blank&&decide (0<ks.length)) ⟨y.pos,y.deep,y.nodes⟩ with
  |none=>rfl
  |some p=>
   simp only[Option.map_some,Option.bind_some]
   have:=a5 p hp
   have hpos:z.2.pos=p.2.pos:=by
    rw[hp] at a4
    simp only[Option.map_some] at a4
    obtain⟨_,e2⟩:=Fm.1 a4
    rw[e2]
   rw[this,hpos]
def FH(sg:List Sg)(y:Gs)(ks:List Int):Gs:=Ax y ⟨22,[],ks,false⟩
theorem b7a(h:FX sg y ks ms N)(hb:(FH sg y ks).bad=true)(he:y.bad=true∨¬y.pos<sg.length):JP sg=none:=by
 obtain⟨h0,hd,h1,h2,h3,h4,h5⟩:=h
 rw[JP,←h1]
 cases hy:y.bad with
 |true=>rw[Ev hy];rfl
 |false=>
  have h2:=h2 hy
  have he:¬y.pos<sg.length:=by rcases he with he|he
                               ·rw[hy] at he;cases he
                               ·exact he
  match N with
  |0=>have:=h0.1;omega
  |N+1=>
   rw[Dx hy,Option.bind_some,JO,if_neg he,Option.bind_some]
   unfold FH Ax at hb
   split at hb
   ·rename_i hf
    have h3:y.nodes.length=300:=by simpa [Ef,hy] using hf
    rw[Bd,if_pos (by simp only;omega)];rfl
   ·simp only at hb;rw[hy] at hb;cases hb
theorem b7b(h:FX sg y ks ms N)(hb:(FH sg y ks).bad=false)(he:y.bad=true∨¬y.pos<sg.length):
 JP sg=if Dl (FH sg y ks).nodes then some (ms,(FH sg y ks).nodes) else none:=by
 obtain⟨h0,hd,h1,h2,h3,h4,h5⟩:=h
 have hy:=(@JV y ⟨22,[],ks,false⟩).2.2 hb
 have h2:=h2 hy
 have he:¬y.pos<sg.length:=by rcases he with he|he
                              ·rw[hy] at he;cases he
                              ·exact he
 rw[JP,←h1]
 match N with
 |0=>have:=h0.1;omega
 |N+1=>
  rw[Dx hy,Option.bind_some,JO,if_neg he,Option.bind_some]
  unfold FH Ax at hb ⊢
  split at hb
  ·simp [Bu] at hb
  ·rename_i hf
   rw[if_neg hf]
   have hf2:=Tm (by simpa using hf)
   have:=h0.2.2.1
   rw[Bd,if_neg (by simp only;omega)]
   simp only[Option.bind_some]
end Go.My
end
section
namespace Go.My
open Go.Eng Go.Proofs
variable {G:GInv}
variable {b:Bool}{g x:Gs}{s:ST}
theorem ME{P:Program}{f:FuncId}{S:Sig}{fn:Func}{c:Code}(hfn:P.funcs[f]? =some fn)(hb:fn.body=some c)(hn:(fn.name== "runtime.NumGoroutine")=false)(hp:∀x,¬S.pre x):Ai G P f S:=
 ⟨⟨⟨fn,hfn,hn,by simp [hb]⟩,fun x y hx _=>(hp x hx).elim⟩,fun x hx=>(hp x hx).elim⟩
theorem b7c{r:Nat}(hr:1≤r)(h:wP r 0 s g):False:=by
 have h1:=h.1.1.2.1.2;have h2:=h.2;omega
theorem b7d{r:Nat}(hr:1≤r)(h:vP r 0 s g):False:=by
 have h1:=h.1.1.2.1.2;have h2:=h.2;omega
theorem b7e(h:rOk s g∧g.deep≤20):vP 11 peN s g:=by
 have h1:=h.1.2.1;have h2:=h.1.1.1
 exact⟨h,by unfold peN;omega⟩
def okD(s:ST)(x:Gs):Prop:=rOk s x∧x.deep≤20
def okN(s:ST)(x:Gs):Prop:=okD s x∧x.bad=false∧x.pos<s.sg.length
theorem a5l(h:okN s x):rOk s (Aw x)∧(Aw x).deep≤20:=⟨⟨h.1.1.1,GF h.1.1.2 h.2.2⟩,h.1.2⟩
theorem a5m(h:rOk s x):rOk s (De s.sg x):=⟨h.1,(Oj h.2).1.1⟩
theorem b7f(h:rOk s x):(De s.sg x).deep=x.deep∧x.pos≤(De s.sg x).pos:=by
 have:=Dh (Oj h.2);exact⟨this.1,this.2.1⟩
theorem Hh{m:List UInt8}(h:rOk s x):rOk s (AP s.sg x m)∧(AP s.sg x m).deep=x.deep:=⟨⟨h.1,(HT h.2).1⟩,(HT h.2).2.1⟩
theorem Lc{a:Bool}{k:Int}(h:a=true):decide (k>0)=(a&&decide (0<k)):=by simp [h]
theorem Ld{a:Bool}{k:Int}(h:a=false):false=(a&&decide (0<k)):=by simp [h]
theorem b7g(h:rOk s x)(hd:x.deep≤20)(hq:isG s.sg (De s.sg x) 4 [61]=true):rOk s (AS s.sg (De s.sg x) [61])∧(AS s.sg (De s.sg x) [61]).deep≤20:=by
 rw[EV hq]
 have a:=a5m h;have b:=b7f h
 refine⟨⟨h.1,GF a.2 (Dy hq (by omega)).2⟩,?_⟩
 have e:(Aw (De s.sg x)).deep=(De s.sg x).deep:=rfl
 omega
theorem b7h{z:Int×Gs}(h:rOk s x)(hq:isG s.sg (De s.sg x) 4 [61]=true)(hz:Ah s.sg (AS s.sg (De s.sg x) [61]) (Cl s.sg) z):
 Ah s.sg x (DN s.sg b) (Da s.sg z.2 [59],CZ s.sg z.2 [59] ⟨12,Dr s.sg x,[z.1],b⟩):=by
 rw[EV hq] at hz;exact b6x h.1 h.2 hq hz
theorem b7i(h:rOk s x)(hq:isG s.sg (De s.sg x) 4 [61]=false):rOk s (AS s.sg (De s.sg x) [61]):=by
 rw[Ea hq];exact a5m h
theorem b7j(h:rOk s x)(hq:isG s.sg (De s.sg x) 4 [61]=false):
 Ah s.sg x (DN s.sg b) (Da s.sg (AS s.sg (De s.sg x) [61]) [59],CZ s.sg (AS s.sg (De s.sg x) [61]) [59] ⟨12,Dr s.sg x,[],b⟩):=by
 rw[Ea hq];exact b6w h.1 h.2 hq
theorem a5n{α:Type}{f:Ps→Option (α×Ps)}{y:α×Gs}(h:okD s x)(hy:BF s.sg x f y):okD s y.2:=⟨⟨h.1.1,hy.1⟩,by have:=hy.2.1;have:=h.2;omega⟩
theorem a5o{w:List UInt8}(h:okD s x)(hq:isG s.sg x 1 w=true):okN s x:=⟨h,(Dy hq (by omega)).1,(Dy hq (by omega)).2⟩
theorem a5p{m:List UInt8}(h:okD s x)(hq:isG s.sg x 1 m=true):okD s (Aw x):=⟨(a5l (a5o h hq)).1,(a5l (a5o h hq)).2⟩
theorem b7k{n:Nat}{c q:Int×Gs}(h:okD s x)(hk:(pkG s.sg x 0).kind≠5)(h1:isG s.sg x 1 [118,97,114]=false)(h2:isG s.sg x 1 [114,101,116,117,114,110]=false)(h3:isG s.sg x 1 [105,102]=false)(hq:isG s.sg x 1 [119,104,105,108,101]=true)
 (hc:BF s.sg (Aw x) (DZ s.sg) c) (hz:Ah s.sg c.2 (BO s.sg (stR s.sg n)) q):Ah s.sg x (stR s.sg (n+1) b) (AY q.2,Ax q.2 ⟨17,[],[c.1,q.1],b⟩):=
 b6L h.1.2 hk h1 h2 h3 hq (b6G (a5p h hq).1.2 hc hz)
theorem b7l{α:Type}{n:Nat}{f:Ps→Option (α×Ps)}{y:α×Gs}(h:20-x.deep≤(n:Int))(hy:BF s.sg x f y):20-y.2.deep≤(n:Int):=by have:=hy.2.1;omega
theorem b7m{α:Type}{n:Nat}{f:Ps→Option (α×Ps)}{y:α×Gs}(h:20-x.deep≤(n:Int))(hy:Ah s.sg x f y):20-y.2.deep≤(n:Int):=b7l h hy.1
attribute [local irreducible] pE Bw Dq fnR Ah BF gsOk AP CZ Ax Dz ER AS Ew EI AY Da pkG isG nmG De Dr DN Hg DZ Cl BO stR CY
end Go.My
end
section
namespace Go.My
open Go.Eng Go.Proofs
variable {G:GInv}
attribute [local irreducible] pE Bw Dq fnR Ah BF gsOk AP CZ Ax Dz ER AS Ew EI AY Da pkG isG nmG De Dr DN Hg DZ Cl BO stR CY FV GE Dv DG Hc BQ
end Go.My
end
section
namespace Go.My
open Go.Eng
variable {br i:Int}{c:UInt8}{l:List Sg}{n:Nat}{t:List UInt8}
def IC(t:List UInt8)(i br:Int)(l:List Sg)(n:Nat):Prop:=
 (0≤i∧i≤t.length)∧(0≤br∧br≤i)∧(l.length:Int)≤i∧(t.length:Int)-i<n∧Fl t (t.length+1) 0 0=(Fl t n i br).map (l++ ·)
theorem b7n:IC t 0 0 [] (t.length+1):=by
 refine⟨by omega,by omega,by simp,by simp;omega,?_⟩
 cases Fl t (t.length+1) 0 0<;>simp
theorem Tw(hc:t[i.toNat]? =some c):Fl t (n+1) i br=if c.toNat=32 then Fl t n (i+1) br
 else if c.toNat=10 then Fl t n (i+1) (br+1)
 else if(Bg (t.drop i.toNat)).ok then(Fl t n (i+(Bg (t.drop i.toNat)).size) 0).map (⟨(Bg (t.drop i.toNat)).kind,(Bg (t.drop i.toNat)).text,i,decide (br>1)⟩:: ·)
 else none:=by rw[Fl,hc]
theorem Tx(h:IC t i br l n)(hi:i<t.length):∃m,n=m+1:=by
 obtain⟨h1,h2,h3,h4,h5⟩:=h
 match n with
 |0=>omega
 |m+1=>exact⟨m,rfl⟩
theorem b7o(hc:t[i.toNat]? =some c)(h:IC t i br l (n+1))(hi:i<t.length)(h32:c.toNat=32):IC t (i+1) br l n:=by
 obtain⟨h1,h2,h3,h4,h5⟩:=h
 refine⟨by omega,by omega,by omega,by omega,?_⟩
 rw[h5,Tw hc,if_pos h32]
theorem b7p(hc:t[i.toNat]? =some c)(h:IC t i br l (n+1))(hi:i<t.length)(h32:c.toNat=10):IC t (i+1) (br+1) l n:=by
 obtain⟨h1,h2,h3,h4,h5⟩:=h
 refine⟨by omega,by omega,by omega,by omega,?_⟩
 rw[h5,Tw hc,if_neg (by omega),if_pos h32]
theorem b7q(hc:t[i.toNat]? =some c)(h:IC t i br l (n+1))(hi:i<t.length)(h32:c.toNat≠32)(h10:c.toNat≠10)
 (hok:(Bg (t.drop i.toNat)).ok=true) (hz:1≤(Bg (t.drop i.toNat)).size∧(Bg (t.drop i.toNat)).size≤t.length-i):
 IC t (i+(Bg (t.drop i.toNat)).size) 0 (l++[⟨(Bg (t.drop i.toNat)).kind,(Bg (t.drop i.toNat)).text,i,decide (br>1)⟩]) n:=by
 obtain⟨h1,h2,h3,h4,h5⟩:=h
 refine⟨by omega,by omega,by simp;omega,by omega,?_⟩
 rw[h5,Tw hc,if_neg h32,if_neg h10,if_pos hok]
 cases Fl t n (i+(Bg (t.drop i.toNat)).size) 0<;>simp
theorem b7r(hc:t[i.toNat]? =some c)(h:IC t i br l (n+1))(hi:i<t.length)(h32:c.toNat≠32)(h10:c.toNat≠10)
 (hok:(Bg (t.drop i.toNat)).ok=false) (hl:¬3000<t.length):CT t=none:=by
 rw[CT,if_neg hl,h.2.2.2.2,Tw hc,if_neg h32,if_neg h10,if_neg (by simp [hok])];rfl
theorem b7s(h:IC t i br l n)(hi:¬i<t.length)(hl:¬3000<t.length):CT t=some l:=by
 obtain⟨h1,h2,h3,h4,h5⟩:=h
 rw[CT,if_neg hl,h5]
 match n with
 |0=>omega
 |n+1=>rw[Fl,List.getElem?_eq_none (by omega)];simp
theorem b7t(h:3000<t.length):CT t=none:=if_pos h
end Go.My
end
section
namespace Go.My
open Go.Eng Go.Proofs
variable {G:GInv}
variable {N n:Nat}{br i:Int}{c:UInt8}{ks:List Int}{l sg:List Sg}{ms:List (Int×Int)}{s t:List UInt8}{y:Gs}
theorem YF{p:UInt8→Bool}{b:UInt8}(h:p b=true):1≤((b::s).takeWhile p).length:=by
 rw[List.takeWhile_cons,if_pos h];simp
theorem Ty{p:UInt8→Bool}:(s.takeWhile p).length≤s.length:=(List.takeWhile_prefix p).length_le
theorem b7u{s:List UInt8}:(CQ s).length≤s.length:=by
 unfold CQ
 have:=(List.dropWhile_suffix (fun c:UInt8=>decide (c.toNat=32)) (l:=s.reverse)).length_le
 simpa using this
theorem YG(h:(Bg s).ok=true):1≤(Bg s).size∧(Bg s).size≤s.length∧(Bg s).text.length≤s.length:=by
 match s with
 |[]=>cases h
 |b::s=>
  unfold Bg at h ⊢
  simp only at h ⊢
  split
  ·rename_i hb
   have:=YF (s:=s) (p:=BM) (b:=b) (by simp [BM,hb]);have:=Ty (p:=BM) (s:=b::s);simp only;omega
  ·rename_i hb
   rw[if_neg hb] at h
   split
   ·rename_i hb2
    have:=YF (s:=s) (p:=Bn) (b:=b) hb2;have:=Ty (p:=Bn) (s:=b::s);simp only;omega
   ·rename_i hb2
    rw[if_neg hb2] at h
    split
    ·rename_i hb3
     rw[if_pos hb3] at h
     simp only at h ⊢
     unfold DK at h ⊢
     split at h
     ·cases h
     ·simp only[List.length_take,List.length_cons] at*;omega
    ·rename_i hb3
     rw[if_neg hb3] at h
     split
     ·rename_i hb4
      have hb5:b=47:=by
       cases s with
       |nil=>simp at hb4
       |cons c s=>simp at hb4;exact hb4.1
      have h1:=YF (s:=s) (p:=Cj) (b:=b) (by subst hb5;rfl);have h2:=Ty (p:=Cj) (s:=b::s);have h3:= @b7u ((b::s).takeWhile Cj)
      simp only;omega
     ·rename_i hb4
      rw[if_neg hb4] at h
      split
      ·simp only[List.length_take,List.length_cons];omega
      ·rename_i hb5
       rw[if_neg hb5] at h
       split
       ·simp only[List.length_take,List.length_cons];omega
       ·rename_i hb6
        rw[if_neg hb6] at h
        cases h
def sgJ(t:List UInt8)(i br:Int)(l:List Sg)(n:Nat):Prop:=(IC t i br l n∧¬3000<t.length)∧∀e∈l,e.text.length≤3000
theorem b7v(h:¬(t.length:Int)>3000):sgJ t 0 0 [] (t.length+1):=⟨⟨b7n,by omega⟩,by simp⟩
theorem Oo(h:sgJ t i br l n):((0≤i∧i≤t.length)∧(0≤br∧br≤i)∧(l.length:Int)≤i)∧t.length≤3000:=by
 have:=h.1.1;have:=h.1.2;exact⟨⟨h.1.1.1,h.1.1.2.1,h.1.1.2.2.1⟩,by omega⟩
theorem a5q(hc:t[i.toNat]? =some c)(h:sgJ t i br l n)(hi:i<t.length)(h32:c.toNat=32):sgJ t (i+1) br l (n-1)∧n-1<n:=by
 obtain⟨m,rfl⟩:=Tx h.1.1 hi
 exact⟨⟨⟨b7o hc h.1.1 hi h32,h.1.2⟩,h.2⟩,by omega⟩
theorem a5r(hc:t[i.toNat]? =some c)(h:sgJ t i br l n)(hi:i<t.length)(h32:c.toNat=10):sgJ t (i+1) (br+1) l (n-1)∧n-1<n:=by
 obtain⟨m,rfl⟩:=Tx h.1.1 hi
 exact⟨⟨⟨b7p hc h.1.1 hi h32,h.1.2⟩,h.2⟩,by omega⟩
theorem a5s(h:sgJ t i br l n)(hok:(Bg (t.drop i.toNat)).ok=true):1≤(Bg (t.drop i.toNat)).size∧(Bg (t.drop i.toNat)).size≤t.length-i∧(Bg (t.drop i.toNat)).text.length≤3000:=by
 have a:=YG hok
 have b:=(Oo h)
 simp only[List.length_drop] at a
 omega
theorem b7w(hc:t[i.toNat]? =some c)(h:sgJ t i br l n)(hi:i<t.length)(h32:c.toNat≠32)(h10:c.toNat≠10)
 (hok:(Bg (t.drop i.toNat)).ok=true):
 sgJ t (i+(Bg (t.drop i.toNat)).size) 0 (l++[⟨(Bg (t.drop i.toNat)).kind,(Bg (t.drop i.toNat)).text,i,decide (br>1)⟩]) (n-1)∧n-1<n:=by
 obtain⟨m,rfl⟩:=Tx h.1.1 hi
 have hz:=a5s h hok
 refine⟨⟨⟨b7q hc h.1.1 hi h32 h10 hok ⟨hz.1,hz.2.1⟩,h.1.2⟩,?_⟩,by omega⟩
 intro e he
 rcases List.mem_append.1 he with he|he
 ·exact h.2 e he
 ·simp at he;subst he;exact hz.2.2
theorem b7x(hc:t[i.toNat]? =some c)(h:sgJ t i br l n)(hi:i<t.length)(h32:c.toNat≠32)(h10:c.toNat≠10)
 (hok:(Bg (t.drop i.toNat)).ok=false):CT t=none:=by
 obtain⟨m,rfl⟩:=Tx h.1.1 hi
 exact b7r hc h.1.1 hi h32 h10 hok h.1.2
def sgQ(t:List UInt8)(l:List Sg):Prop:=(CT t=some l∧sgB l)∨(CT t=none∧l=[])
theorem a5t(h:sgJ t i br l n)(hi:¬i<t.length):(CT t).isSome=true∧sgQ t l:=by
 have a:=b7s h.1.1 hi h.1.2
 have b:=Oo h
 exact⟨by rw[a];rfl,.inl ⟨a,by omega,h.2⟩⟩
theorem Tz(h:CT t=none):(CT t).isSome=false∧sgQ t []:=⟨by rw[h];rfl,.inr ⟨h,rfl⟩⟩
theorem a5u(h:(t.length:Int)>3000):CT t=none:=b7t (by omega)
abbrev iF {α β:Type} (i:Int×Int×Bool×List Nd×α×β):Gs:=⟨i.1,i.2.1,i.2.2.1,i.2.2.2.1⟩
theorem b7y:FX sg ⟨0,0,false,[]⟩ [] [] (sg.length+1):=b6Y
theorem b7z{b:Bool}{z:Int×Gs}(h:FX sg y ks ms N)(hb:y.bad=false)(hl:y.pos<sg.length)(hz:Ah sg y (DG sg b) z)(e:b=((pkG sg y 0).blank&&decide (0<(ks.length:Int)))):
 FX sg z.2 (ks++[z.1]) (ms++[(y.pos,z.2.pos)]) (N-1)∧N-1<N:=by
 subst e
 exact Om (b6Z h hb hl (z:=z) (by
  have:decide (0<ks.length)=decide (0<(ks.length:Int)):=by simp
  rw[this];exact hz))
theorem b7A{s:ST}(hs:sgB s.sg)(h:FX s.sg y ks ms N):okD s y:=⟨⟨hs,h.1⟩,by have:=h.2.1;omega⟩
theorem a5v(hs:sgB sg)(h:FX sg y ks ms N):ks.length≤3001∧ms.length=ks.length∧0≤y.pos∧y.pos≤sg.length:=by
 have h1:=h.1.1;have h2:=hs.1;have h3:=h.2.2.2.2.1;have h4:=h.2.2.2.2.2.2
 omega
attribute [local irreducible] pE Bw Dq fnR Ah BF gsOk AP CZ Ax Dz ER AS Ew EI AY Da pkG isG nmG De Dr DN Hg DZ Cl BO stR CY FV GE Dv DG Hc BQ FX sgJ
end Go.My
end
section
namespace Go.My
open Go.Eng Go.Proofs
variable {G:GInv}
variable {N:Nat}{g y:Gs}{ks:List Int}{l:List Sg}{ms:List (Int×Int)}{t:List UInt8}
def rsQ(t:List UInt8)(sg:List Sg)(ms:List (Int×Int))(g:Gs):Prop:=(g.bad=true∧DH t=none)∨((g.bad=false∧sgB sg∧CT t=some sg)∧JP sg=some (ms,g.nodes)∧BH g.nodes)
theorem a5w{sg:List Sg}(h:gsOk sg g):BH g.nodes∧g.nodes.length≤300:=by
 refine⟨⟨by have:=h.2.2.1;omega,fun x hx=> ?_⟩,h.2.2.1⟩
 have:=h.2.2.2 x hx
 exact⟨by have:=this.1;omega,by have:=this.2;omega⟩
theorem Oq(h:sgQ t l)(hn:(CT t).isSome=true):CT t=some l∧sgB l:=by
 rcases h with h|h
 ·exact h
 ·rw[h.1] at hn;cases hn
theorem b7B(h:sgQ t l)(hn:(CT t).isSome=true)(hf:FX l y ks ms N∧(y.bad=true∨¬y.pos<l.length))(hb:(FH l y ks).bad=true):rsQ t l ms (FH l y ks):=by
 refine .inl ⟨hb,?_⟩
 rw[DH,(Oq h hn).1]
 simp only[Option.bind_some,b7a hf.1 hb hf.2];rfl
theorem a5x(hs:sgB l)(h:FX l y ks ms N):Dw ⟨22,[],ks,false⟩:=⟨by simp,by have:=(a5v hs h).1;simp only;omega⟩
theorem b7C(h:sgQ t l)(hn:(CT t).isSome=true)(hf:FX l y ks ms N∧(y.bad=true∨¬y.pos<l.length))(hb:(FH l y ks).bad=false):
 rsQ t l ms ⟨(FH l y ks).pos,(FH l y ks).deep,!Dl (FH l y ks).nodes,(FH l y ks).nodes⟩:=by
 have hk:=a5x (Oq h hn).2 hf.1
 have e:=b7b hf.1 hb hf.2
 cases htr:Dl (FH l y ks).nodes with
 |false=>
  rw[htr] at e
  refine .inl ⟨rfl,?_⟩
  rw[DH,(Oq h hn).1]
  simp only[Option.bind_some,e];rfl
 |true=>
  rw[htr] at e
  exact .inr ⟨⟨rfl,(Oq h hn).2,(Oq h hn).1⟩,e,(a5w (QA hf.1.1 hk)).1⟩
theorem a5y(h:rsQ t l ms g)(hb:g.bad=true):DH t=none:=by
 rcases h with h|h
 ·exact h.2
 ·rw[h.1.1] at hb;cases hb
theorem b7D(h:rsQ t l ms g)(hb:g.bad=false):DH t=some g.nodes∧BH g.nodes:=by
 rcases h with h|h
 ·rw[h.1] at hb;cases hb
 ·refine⟨?_,h.2.2⟩
  rw[DH,h.1.2.2];simp only[Option.bind_some,h.2.1];rfl
attribute [local irreducible] gsOk FX FH DH JP CT Dl
end Go.My
end
section
namespace Go.My
open Go.Eng Go.Proofs
variable {G:GInv}
variable {c:UInt8}{i:Int}{m s:List UInt8}{p:UInt8→Bool}{x:List UInt8×Int}
def QI:List (List UInt8):=[[38,38],[124,124],[61,61],[61,62],[46,46]]
def MF:List (List UInt8):=[[40],[41],[123],[125],[91],[93],[59],[44],[46],[61],[43],[45],[42],[60],[63],[58]]
def mks:List (List UInt8):=[[38,38],[124,124],[61,61],[61,62],[46,46],[40],[41],[123],[125],[91],[93],[59],[44],[46],[61],[43],[45],[42],[60],[63],[58]]
def Gu(s:List UInt8):List UInt8:=(mks.find? fun m=>s.take m.length==m).getD []
theorem YH{s:List UInt8}{k:Nat}:∀ {l:List (List UInt8)},(∀m∈l,m.length=k)→l.find? (fun m=>s.take m.length==m)=if l.elem (s.take k) then some (s.take k) else none
 |[],_=>rfl
 |m::l,h=>by
  have hm:=h m (by simp)
  rw[List.find?_cons,List.elem_cons,hm]
  cases he:(s.take k==m) with
  |true=>
   have:s.take k=m:=by simpa using he
   simp [this]
  |false=>
   rw[YH (l:=l) (fun m hm=>h m (by simp [hm]))]
theorem a5z:Gu s=if QI.elem (s.take 2) then s.take 2 else if MF.elem (s.take 1) then s.take 1 else []:=by
 have e:mks=QI++MF:=rfl
 rw[Gu,e,List.find?_append,YH (k:=2) (l:=QI) (by decide),YH (k:=1) (l:=MF) (by decide)]
 split
 ·rfl
 ·split<;>rfl
theorem b7E:QI.elem s=mk2 s:=by
 rw[Bool.eq_iff_iff];simp [QI,mk2]
theorem b7F:MF.elem [c]=mk1.elem c:=by
 simp [MF,mk1,List.elem_cons,List.elem_nil]
theorem a5A{c:UInt8}:Gu (c::s)=if CP ((c::s).take 2) then(c::s).take 2 else if CP ((c::s).take 1) then(c::s).take 1 else []:=by
 rw[a5z,b7E]
 have h1:MF.elem ((c::s).take 1)=CP ((c::s).take 1):=by
  show MF.elem [c]=CP [c]
  rw[b7F]
  simp [CP,mk2]
 rw[h1]
 cases s with
 |nil=>
  show(if mk2 [c]=true then [c] else if CP [c]=true then [c] else [])=if CP [c]=true then [c] else if CP [c]=true then [c] else []
  have:mk2 [c]=false:=by simp [mk2]
  rw[this];simp
 |cons d r=>
  have:CP ((c::d::r).take 2)=mk2 ((c::d::r).take 2):=by
   show CP [c,d]=mk2 [c,d]
   simp [CP]
  rw[this]
def IE(x:List UInt8×Int)(i:Int):Prop:=(0≤i∧i≤21)∧Gu (x.1.drop x.2.toNat)=((mks.drop i.toNat).find? fun m=>(x.1.drop x.2.toNat).take m.length==m).getD []
theorem b7G:IE x 0:=⟨by omega,rfl⟩
theorem a5B(h:IE x i)(ha:mks[i.toNat]? =some m)(hg:((x.1.drop x.2.toNat).take m.length==m)=false):IE x (i+1):=by
 have hlt:=(List.getElem?_eq_some_iff.1 ha).1
 have h21:mks.length=21:=rfl
 obtain⟨h1,h2⟩:=h
 refine⟨by omega,?_⟩
 rw[h2,List.drop_eq_getElem_cons hlt,(List.getElem?_eq_some_iff.1 ha).2,List.find?_cons_of_neg (by simpa using hg),show(i+1).toNat=i.toNat+1 by omega]
theorem b7H(h:IE x i)(ha:mks[i.toNat]? =some m)(hg:((x.1.drop x.2.toNat).take m.length==m)=true):m=Gu (x.1.drop x.2.toNat):=by
 have hlt:=(List.getElem?_eq_some_iff.1 ha).1
 rw[h.2,List.drop_eq_getElem_cons hlt,(List.getElem?_eq_some_iff.1 ha).2,List.find?_cons_of_pos (by simpa using hg)];rfl
theorem b7I(h:IE x i)(hi:¬i<21):[]=Gu (x.1.drop x.2.toNat):=by
 have e:mks.drop i.toNat=[]:=List.drop_eq_nil_of_le (by have h21:mks.length=21:=rfl;rw[h21];omega)
 rw[h.2,e];rfl
theorem TA{t:List UInt8}{a n:Int}(h0:0≤a)(hn:0≤n):List.drop a.toNat (List.take (a+n).toNat t)=(t.drop a.toNat).take n.toNat:=by
 rw[List.drop_take,show(a+n).toNat-a.toNat=n.toNat by omega]
theorem b7J(h0:0≤x.2)(h2:x.2≤x.1.length)(hl:¬x.2+(m.length:Int)≤x.1.length):((x.1.drop x.2.toNat).take m.length==m)=false:=by
 have:((x.1.drop x.2.toNat).take m.length)≠m:=by
  intro e
  have:=congrArg List.length e
  simp at this;omega
 simpa using this
theorem b7K(h0:0≤x.2)(h:List.drop (Int.toNat x.2) (List.take (Int.toNat (x.2+(m.length:Int))) x.1)=m):((x.1.drop x.2.toNat).take m.length==m)=true:=by
 rw[TA h0 (by omega)] at h;simpa using h
theorem b7L(h0:0≤x.2)(h:List.drop (Int.toNat x.2) (List.take (Int.toNat (x.2+(m.length:Int))) x.1)≠m):((x.1.drop x.2.toNat).take m.length==m)=false:=by
 rw[TA h0 (by omega)] at h;simpa using h
theorem b7M(ha:mks[i.toNat]? =some m):m.length≤2:=by
 have:∀m∈mks,m.length≤2:=by decide
 exact this m (List.mem_of_getElem? ha)
theorem a5C(h:IE x i):0≤i∧i≤21:=h.1
attribute [local irreducible] IE Gu
def Ot:Sig:= {X:=Unit,args:=fun x=>[],pre:=fun x=>True,Y:=Unit,post:=fun x y=>True,res:=fun x y=> .sl false 0 1 (List UInt8) Be mks,outs:=fun x y=>[],keep:=true}
theorem b7N:Ai G Tryz.prog 199 Ot:=
 vcFun_okP [] [(42,⟨List UInt8,Be⟩)] false (fun x=>[]) Tryz.func199 rfl (by decide) trivial (fun(x:Unit)=>True∧∃(x_1:List UInt8),#[(38:UInt8),38].toList=x_1∧∃(x_2:List UInt8),#[(124:UInt8),124].toList=x_2∧∃(x_3:List UInt8),#[(61:UInt8),61].toList=x_3∧∃(x_4:List UInt8),#[(61:UInt8),62].toList=x_4∧∃(x_5:List UInt8),#[(46:UInt8),46].toList=x_5∧∃(x_6:List UInt8),#[(40:UInt8)].toList=x_6∧∃(x_7:List UInt8),#[(41:UInt8)].toList=x_7∧∃(x_8:List UInt8),#[(123:UInt8)].toList=x_8∧∃(x_9:List UInt8),#[(125:UInt8)].toList=x_9∧∃(x_10:List UInt8),#[(91:UInt8)].toList=x_10∧∃(x_11:List UInt8),#[(93:UInt8)].toList=x_11∧∃(x_12:List UInt8),#[(59:UInt8)].toList=x_12∧∃(x_13:List UInt8),#[(44:UInt8)].toList=x_13∧∃(x_14:List UInt8),#[(46:UInt8)].toList=x_14∧∃(x_15:List UInt8),#[(61:UInt8)].toList=x_15∧∃(x_16:List UInt8),#[(43:UInt8)].toList=x_16∧∃(x_17:List UInt8),#[(45:UInt8)].toList=x_17∧∃(x_18:List UInt8),#[(42:UInt8)].toList=x_18∧∃(x_19:List UInt8),#[(60:UInt8)].toList=x_19∧∃(x_20:List UInt8),#[(63:UInt8)].toList=x_20∧∃(x_21:List UInt8),#[(58:UInt8)].toList=x_21∧rA Ot x [AV.sl true 0 1 (List UInt8) Be [x_1,x_2,x_3,x_4,x_5,x_6,x_7,x_8,x_9,x_10,x_11,x_12,x_13,x_14,x_15,x_16,x_17,x_18,x_19,x_20,x_21]]) (fun x=>by kernel_rfl) fun(x:Unit) (hx:True)=>(by
 dsimp only[rA,Ot,As,Az]
 (repeat' first|(with_reducible first|rfl|exact True.intro|apply AK|apply And.intro|((first|apply AA|apply AI|apply AB|apply AJ)<;>intro _))|(apply Av<;>intro _)|apply AH|refine Ae () ?_ ?_|((first|apply AO|apply AN|apply AM|apply AL|apply AG|apply AF|apply AE|apply AD|apply AC)<;>try dsimp only)|apply Ae|(refine Prod.forall.2 ?_;intro _;try dsimp only)|(intro _;try dsimp only))
 all_goals first
  |rfl
  |(simp [Bb];done)
  |skip)
def MG:Sig:= {X:=List UInt8×Int,args:=fun x=>[.str x.1,.q x.2],pre:=fun x=>0≤x.2∧x.2≤x.1.length∧x.1.length<2^62,Y:=Unit,post:=fun x y=>True,res:=fun x y=> .str (Gu (x.1.drop x.2.toNat)),outs:=fun x y=>[.top,.top],keep:=false}
def QJ(x:List UInt8×Int):LS:= {ι:=Int,inv:=fun i=>IE x i,regs:=fun i=>[(0,.str x.1),(1,.q x.2),(5,.sl false 0 1 (List UInt8) Be mks),(6,.q i)],als:=[],meas:=fun i=>21-i.toNat}
theorem b7O:Ai G Tryz.prog 174 MG:=
 vcFun_okP [(199,0,Ot)] [(42,⟨List UInt8,Be⟩)] false (fun x=>[(3,QJ x)]) Tryz.func174 rfl (by decide) ⟨b7N,trivial⟩ (fun(x:List UInt8×Int)=>(∀(y:Unit),True→True∧True∧True∧True)∧cA Ot [] fun x_1 y=>eA (QJ x) [.str x.1,.q x.2,AV.sl false 0 1 (List UInt8) Be mks,.q 0]∧∀(i:Int),IE x i→Aa (decide (i<(↑(21:Nat):Int))) ((0≤i∧i<(↑(21:Nat):Int))∧∀(e:List UInt8),mks[Int.toNat i]? =some e→true=true∧true=true∧inR .i64 (x.2+(e.length:Int))∧Aa (decide (x.2+(e.length:Int)≤(x.1.length:Int))) (inR .i64 (x.2+(e.length:Int))∧(0≤x.2∧x.2≤x.2+(e.length:Int)∧x.2+(e.length:Int)≤(x.1.length:Int))∧(0≤i∧i<(↑(21:Nat):Int))∧∀(e_1:List UInt8),mks[Int.toNat i]? =some e_1→Aa (List.drop (Int.toNat x.2) (List.take (Int.toNat (x.2+(e.length:Int))) x.1)==e_1) ((0≤i∧i<(↑(21:Nat):Int))∧∀(e:List UInt8),mks[Int.toNat i]? =some e→rA MG x [.str e,.top,.top]) (inR .i64 (i+1)∧eN (QJ x) i [.str x.1,.q x.2,AV.sl false 0 1 (List UInt8) Be mks,.q (i+1)])) (inR .i64 (i+1)∧eN (QJ x) i [.str x.1,.q x.2,AV.sl false 0 1 (List UInt8) Be mks,.q (i+1)])) (rA MG x [.str #[].toList,.top,.top])) (fun x=>by kernel_rfl) fun(x:List UInt8×Int) (hx:0≤x.2∧x.2≤x.1.length∧x.1.length<2^62)=>(by
 dsimp only[cA,eA,eN,QJ,rA,MG,Ot,As,Az,mvL,lnL,mvE,lnE,Bl,AV.q]
 obtain⟨h1,h2,h3⟩:=hx
 (repeat' first|(with_reducible first|rfl|exact True.intro|apply AK|apply And.intro|((first|apply AA|apply AI|apply AB|apply AJ)<;>intro _))|(apply Av<;>intro _)|apply AH|refine Ae () ?_ ?_|((first|apply AO|apply AN|apply AM|apply AL|apply AG|apply AF|apply AE|apply AD|apply AC)<;>try dsimp only)|apply Ae|(refine Prod.forall.2 ?_;intro _;try dsimp only)|(intro _;try dsimp only))
 all_goals(try(repeat(rename mks[_]? =some _=>hq;revert hq;rename mks[_]? =some _=>hr;intro hq;rw[hr] at hq;cases hq)))
 all_goals first
  |rfl
  |exact b7G
  |exact a5B ‹_› ‹_› (b7J h1 h2 ‹_›)
  |exact a5B ‹_› ‹_› (b7L h1 ‹_›)
  |exact b7H ‹_› ‹_› (b7K h1 ‹_›)
  |exact b7I ‹_› (by omega)
  |(have hq:=a5C ‹IE _ _›;(try simp only[An]);omega)
  |(have hq:=a5C ‹IE _ _›;have hm:=b7M ‹_›;(try simp only[An]);omega)
  |skip)
def rwI(p:UInt8→Bool)(x:List UInt8×Int)(i:Int):Prop:=(x.2≤i∧i≤x.1.length)∧∀e∈(x.1.drop x.2.toNat).take (i-x.2).toNat,p e=true
theorem b7P(h:x.2≤x.1.length):rwI p x x.2:=by
 refine⟨⟨by omega,h⟩,fun e he=> ?_⟩
 rw[show(x.2-x.2).toNat=0 by omega] at he;simp at he
theorem YI(h0:0≤x.2)(h:rwI p x i)(hi:i<x.1.length)(hc:x.1[i.toNat]? =some c)(hp:p c=true):rwI p x (i+1):=by
 obtain⟨⟨a,b⟩,h2⟩:=h
 exact⟨by omega,SG h2 (by rw[Qp h0 a];exact hc) hp (by omega)⟩
theorem a5D(h0:0≤x.2)(h:rwI p x i)(he:¬i<x.1.length∨∃c,x.1[i.toNat]? =some c∧p c=false):((x.1.drop x.2.toNat).takeWhile p)=List.drop (Int.toNat x.2) (List.take (Int.toNat i) x.1)∧((((x.1.drop x.2.toNat).takeWhile p).length:Nat):Int)=i-x.2:=by
 obtain⟨⟨a,b⟩,h2⟩:=h
 have e:=JH h2 (by
  rcases he with he|⟨c,hc,hp⟩
  ·left;simp;omega
  ·right;exact⟨c,by rw[Qp h0 a];exact hc,hp⟩)
 rw[←e,List.drop_take]
 refine⟨by congr 1;omega,?_⟩
 simp;omega
theorem b7Q(h:rwI p x i):x.2≤i∧i≤x.1.length:=h.1
def sgR(x:List UInt8×Int)(k:Int)(t:List UInt8)(p:Int)(b:Bool)(n:Int):Prop:=
 ((Bg (x.1.drop x.2.toNat)).ok=true∧(k=(Bg (x.1.drop x.2.toNat)).kind∧t=(Bg (x.1.drop x.2.toNat)).text∧p=x.2∧b=false)∧n=(Bg (x.1.drop x.2.toNat)).size)∨((Bg (x.1.drop x.2.toNat)).ok=false∧n=0)
theorem TB(hc:x.1[x.2.toNat]? =some c):x.1.drop x.2.toNat=c::x.1.drop (x.2.toNat+1):=by
 have hlt:=(List.getElem?_eq_some_iff.1 hc).1
 rw[List.drop_eq_getElem_cons hlt,(List.getElem?_eq_some_iff.1 hc).2]
theorem b7R(h0:0≤x.2)(h:(Cy (x.1.drop x.2.toNat):Int)>0):sgR x 5 (CQ (List.drop (Int.toNat x.2) (List.take (Int.toNat (x.2+(Cy (x.1.drop x.2.toNat):Int))) x.1))) x.2 false (Cy (x.1.drop x.2.toNat)):=by
 rw[TA h0 (by omega)]
 unfold sgR
 generalize x.1.drop x.2.toNat=s at*
 unfold Cy at h ⊢
 split at h
 ·rename_i h2
  split at h
  ·rename_i hp
   rw[if_pos h2,if_pos hp]
   match s with
   |[]=>simp at h2
   |[_]=>simp at h2
   |b::c::r=>
    simp at h2
    obtain⟨rfl,rfl⟩:=h2
    left
    simp only[Bg,show Ck 47=false by decide,show Bn 47=false by decide,Bool.false_eq_true,if_false,show(47:UInt8).toNat≠39 by decide,List.take_succ_cons,List.take_zero,if_true]
    refine⟨hp,⟨trivial,?_,trivial,trivial⟩,trivial⟩
    congr 1
    have:=List.takeWhile_prefix Cj (l:=47::47::r)
    rw[Int.toNat_natCast]
    exact(List.prefix_iff_eq_take.1 this).symm
  ·simp at h
 ·simp at h
theorem b7S{c:UInt8}(h:¬(Cy (c::s):Int)>0)(h2:(c::s).take 2=[47,47]):((c::s).takeWhile Cj).all BJ=false:=by
 cases hp:((c::s).takeWhile Cj).all BJ with
 |false=>rfl
 |true=>
  exfalso
  apply h
  rw[Cy,if_pos h2,if_pos hp]
  match s with
  |[]=>simp at h2
  |d::r=>
   simp at h2
   obtain⟨rfl,rfl⟩:=h2
   have:Cj 47=true:=by decide
   simp [List.takeWhile_cons,this];omega
theorem TC{c:UInt8}(h0:0≤x.2)(hc:x.1[x.2.toNat]? =some c)(hf:Ck c=true)(h:rwI BM x i)(he:¬i<x.1.length∨∃c,x.1[i.toNat]? =some c∧BM c=false):
 (i-x.2>30→sgR x 0 [] 0 false 0)∧(¬i-x.2>30→sgR x 1 (List.drop (Int.toNat x.2) (List.take (Int.toNat i) x.1)) x.2 false (i-x.2)):=by
 obtain⟨e1,e2⟩:=a5D h0 h he
 have e:=TB hc
 have es:Bg (x.1.drop x.2.toNat)=⟨1,(x.1.drop x.2.toNat).takeWhile BM,((x.1.drop x.2.toNat).takeWhile BM).length,decide (((x.1.drop x.2.toNat).takeWhile BM).length≤30)⟩:=by
  rw[e];simp only[Bg,hf,if_true]
 unfold sgR
 rw[es]
 refine⟨fun h3=> .inr ⟨by simp;omega,rfl⟩,fun h3=> .inl ⟨by simp;omega,⟨rfl,e1.symm,rfl,rfl⟩,by simp only;omega⟩⟩
theorem QK{c:UInt8}(h0:0≤x.2)(hc:x.1[x.2.toNat]? =some c)(hf:Ck c=false)(hg:Bn c=true)(h:rwI Bn x i)(he:¬i<x.1.length∨∃c,x.1[i.toNat]? =some c∧Bn c=false):
 (i-x.2>12→sgR x 0 [] 0 false 0)∧(¬i-x.2>12→sgR x 2 (List.drop (Int.toNat x.2) (List.take (Int.toNat i) x.1)) x.2 false (i-x.2)):=by
 obtain⟨e1,e2⟩:=a5D h0 h he
 have e:=TB hc
 have es:Bg (x.1.drop x.2.toNat)=⟨2,(x.1.drop x.2.toNat).takeWhile Bn,((x.1.drop x.2.toNat).takeWhile Bn).length,decide (((x.1.drop x.2.toNat).takeWhile Bn).length≤12)⟩:=by
  rw[e];simp only[Bg,hf,hg,Bool.false_eq_true,if_false,if_true]
 unfold sgR
 rw[es]
 refine⟨fun h3=> .inr ⟨by simp;omega,rfl⟩,fun h3=> .inl ⟨by simp;omega,⟨rfl,e1.symm,rfl,rfl⟩,by simp only;omega⟩⟩
theorem b7T(h0:0≤x.2)(hc:x.1[x.2.toNat]? =some c)(hf:Ck c=false)(hg:Bn c=false)(hq:(c.toNat:Int)=39):
 sgR x 3 (List.drop (Int.toNat x.2) (List.take (Int.toNat (x.2+(CK (x.1.drop x.2.toNat):Int))) x.1)) x.2 false (CK (x.1.drop x.2.toNat)):=by
 rw[TA h0 (by omega)]
 have e:=TB hc
 have hq2:isQ c=true:=by simp [isQ];omega
 unfold sgR
 rw[e]
 have es:Bg (c::x.1.drop (x.2.toNat+1))=⟨3,(DK (c::x.1.drop (x.2.toNat+1))).1,(DK (c::x.1.drop (x.2.toNat+1))).1.length,(DK (c::x.1.drop (x.2.toNat+1))).2⟩:=by
  simp only[Bg,hf,hg,Bool.false_eq_true,if_false,show c.toNat=39 by omega,if_true]
 rw[es]
 by_cases hz:CK (c::x.1.drop (x.2.toNat+1))=0
 ·right
  refine⟨?_,by rw[hz];rfl⟩
  cases hb:(DK (c::x.1.drop (x.2.toNat+1))).2 with
  |false=>rfl
  |true=>exact((SE hq2).1 hb hz).elim
 ·left
  obtain⟨l1,l2⟩:=a3H hq2 hz
  refine⟨(SE hq2).2 hz,⟨rfl,?_,rfl,rfl⟩,?_⟩
  ·simp only[l1,Int.toNat_natCast]
  ·simp only[l1,List.length_take];omega
theorem b7U(h0:0≤x.2)(hc:x.1[x.2.toNat]? =some c)(hn:¬(Cy (x.1.drop x.2.toNat):Int)>0)(hf:Ck c=false)(hg:Bn c=false)(hq:(c.toNat:Int)≠39):
 sgR x 4 (Gu (x.1.drop x.2.toNat)) x.2 false (Gu (x.1.drop x.2.toNat)).length:=by
 have e:=TB hc
 unfold sgR
 rw[e] at hn ⊢
 generalize x.1.drop (x.2.toNat+1)=s at*
 by_cases h2:(c::s).take 2=[47,47]
 ·right
  have e0:Gu (c::s)=[]:=by
   rw[a5A,h2,if_neg (by decide)]
   have:(c::s).take 1=[47]:=by
    have:=congrArg (List.take 1) h2
    simpa using this
   rw[this,if_neg (by decide)]
  have hp:=b7S hn h2
  refine⟨?_,by rw[e0];rfl⟩
  simp only[Bg,hf,hg,Bool.false_eq_true,if_false,if_neg (show¬c.toNat=39 by omega),h2,if_true]
  exact hp
 ·have es:Bg (c::s)=if CP ((c::s).take 2) then⟨4,(c::s).take 2,((c::s).take 2).length,true⟩ else if CP ((c::s).take 1) then⟨4,(c::s).take 1,1,true⟩ else⟨0,[],0,false⟩:=by
   simp only[Bg,hf,hg,Bool.false_eq_true,if_false,if_neg (show¬c.toNat=39 by omega),if_neg h2]
  rw[es,a5A]
  split
  ·left;exact⟨rfl,⟨rfl,rfl,rfl,rfl⟩,rfl⟩
  ·split
   ·left;exact⟨rfl,⟨rfl,rfl,rfl,rfl⟩,by simp⟩
   ·right;exact⟨rfl,rfl⟩
end Go.My
end
section
namespace Go.My
open Go.Eng Go.Proofs
variable {G:GInv}
variable {e:Sg}{g:Gs}{k:Int}{sg:List Sg}
def srd(s:ST)(g:Gs):AV:= .box 0 [sgs s.sg,.int .i64 g.pos,.bool g.bad,.int .i64 g.deep,Bj g.nodes]
theorem a5E(h:g.bad=true∨(sg.length:Int)≤g.pos):pkG sg g 0=EQ:=b5o (by simpa using h)
theorem YJ(he:sg[g.pos.toNat]? =some e)(hb:g.bad=false)(hl:g.pos<sg.length):pkG sg g 0=e:=b5p (by simpa using he) hb (by omega)
theorem a5F{t:List UInt8}(hk:k≠0)(h:g.bad=true∨(sg.length:Int)≤g.pos):isG sg g k t=false:=by
 simp [isG,a5E h,EQ,Ne.symm hk]
theorem b7V{t:List UInt8}(he:sg[g.pos.toNat]? =some e)(hb:g.bad=false)(hl:g.pos<sg.length):isG sg g k t=(decide (e.kind=k)&&(e.text==t)):=by
 rw[isG,YJ he hb hl]
def kdG(sg:List Sg)(g:Gs)(k:Int):Bool:=decide ((pkG sg g 0).kind=k)&&(decide (k≠1)|| !kw (pkG sg g 0).text)
theorem Ou(hk:k≠0)(h:g.bad=true∨(sg.length:Int)≤g.pos):kdG sg g k=false:=by
 simp [kdG,a5E h,EQ,Ne.symm hk]
theorem a5G(he:sg[g.pos.toNat]? =some e)(hb:g.bad=false)(hl:g.pos<sg.length):kdG sg g k=(decide (e.kind=k)&&(decide (k≠1)|| !kw e.text)):=by
 rw[kdG,YJ he hb hl]
theorem Jo:kdG sg g 1=nmG sg g 0:=by simp [kdG,nmG]
theorem TD(hk:k≠0)(h:kdG sg g k=true):g.bad=false∧g.pos<sg.length:=by
 cases hb:g.bad with
 |true=>rw[Ou hk (.inl hb)] at h;cases h
 |false=>
  refine⟨rfl,?_⟩
  rcases Int.lt_or_le g.pos sg.length with hh|hh
  ·exact hh
  ·rw[Ou hk (.inr hh)] at h;cases h
theorem b7W{e:Nd}{b:Bool}{q:Nd→Prop}(h:q ⟨e.kind,e.text,e.kids,b⟩):
 ∃x':Nd,([AV.int IntKind.i64 x'.kind,AV.str x'.text,AV.sl true 0 1 Int Bx x'.kids]=[AV.int IntKind.i64 e.kind,AV.str e.text,AV.sl true 0 1 Int Bx e.kids]∧(@List.nil AV)=[])∧b=x'.blank∧q x':=
 ⟨⟨e.kind,e.text,e.kids,b⟩,⟨rfl,rfl⟩,rfl,h⟩
def BK(sg:List Sg)(g:Gs)(m:List UInt8):Gs:=if isG sg g 1 m then Aw g else g
def Bh(sg:List Sg)(g:Gs)(k:Int):Gs:=if kdG sg g k then Aw g else Bu g
def Bz(sg:List Sg)(g:Gs)(k:Int):List UInt8:=if kdG sg g k then(pkG sg g 0).text else []
def gBl(g:Gs)(k:Int)(b:Bool):Gs:=if g.bad=false∧k<g.nodes.length then⟨g.pos,g.deep,g.bad,g.nodes.set k.toNat ⟨(Ab g.nodes k).kind,(Ab g.nodes k).text,(Ab g.nodes k).kids,b⟩⟩ else g
theorem b7X{b:Bool}{e:Nd}(he:g.nodes[k.toNat]? =some e)(hb:g.bad=false)(hk:k<g.nodes.length):g.nodes.set k.toNat ⟨e.kind,e.text,e.kids,b⟩=(gBl g k b).nodes:=by
 rw[gBl,if_pos ⟨hb,hk⟩,BA he]
def blG(sg:List Sg)(g:Gs):Bool:=decide (g.pos<sg.length)&&(sgO sg g.pos).blank
theorem b7Y(he:sg[(g.pos+1-1).toNat]? =some e)(hk:k≠0)(h:kdG sg g k=true):e.text=Bz sg g k:=by
 obtain⟨hb,hl⟩:=TD hk h
 rw[Bz,if_pos h,YJ (by rw[show g.pos=g.pos+1-1 by omega];exact he) hb hl]
def Ez:Sig:= {X:=ST×Int×Int×Bool×List Nd×Int×List UInt8,args:=fun x=>[srd x.1 (xh x),.q x.2.2.2.2.2.1,.str x.2.2.2.2.2.2],pre:=fun x=>rOk x.1 (xh x)∧x.2.2.2.2.2.1≠0,Y:=Unit,post:=fun x y=>True,res:=fun x y=> .bool (isG x.1.sg (xh x) x.2.2.2.2.2.1 x.2.2.2.2.2.2),outs:=fun x y=>[srd x.1 (xh x),.top,.top],keep:=true}
theorem QL:Ai G Tryz.prog 176 Ez:=
 vcFun_okP [] [] false (fun x=>[]) Tryz.func176 rfl (by decide) trivial (fun(x:ST×Int×Int×Bool×List Nd×Int×List UInt8)=>True∧true=true∧true=true∧Aa (!(xh x).bad) (Aa (decide ((xh x).pos<(x.1.sg.length:Int))) ((0≤(xh x).pos∧(xh x).pos<(x.1.sg.length:Int))∧∀(e:Sg),x.1.sg[Int.toNat (xh x).pos]? =some e→Aa (e.kind==x.2.2.2.2.2.1) ((0≤(xh x).pos∧(xh x).pos<(x.1.sg.length:Int))∧∀(e:Sg),x.1.sg[Int.toNat (xh x).pos]? =some e→rA Ez x [.bool (e.text==x.2.2.2.2.2.2),srd x.1 (xh x),.top,.top]) (rA Ez x [.bool false,srd x.1 (xh x),.top,.top])) (rA Ez x [.bool false,srd x.1 (xh x),.top,.top])) (rA Ez x [.bool false,srd x.1 (xh x),.top,.top])) (fun x=>by kernel_rfl) fun(x:ST×Int×Int×Bool×List Nd×Int×List UInt8) (hx:rOk x.1 (xh x)∧x.2.2.2.2.2.1≠0)=>(by
 dsimp only[Br,Bj,rA,Ez,Du,sgs,srd,As,Az,AV.q]
 obtain⟨s,p,d,b,ns,k,m⟩:=x;dsimp only[xg,xh] at hx ⊢
 obtain⟨h1,h2⟩:=hx;have hs:=Hd h1;dsimp only at hs
 (repeat' first|(with_reducible first|rfl|exact True.intro|apply AK|apply And.intro|((first|apply AA|apply AI|apply AB|apply AJ)<;>intro _))|(apply Av<;>intro _)|apply AH|refine Ae () ?_ ?_|((first|apply AO|apply AN|apply AM|apply AL|apply AG|apply AF|apply AE|apply AD|apply AC)<;>try dsimp only)|apply Ae|(refine Prod.forall.2 ?_;intro _;try dsimp only)|(intro _;try dsimp only))
 all_goals(try(repeat(rename s.sg[_]? =some _=>hq;revert hq;rename s.sg[_]? =some _=>hr;intro hq;rw[hr] at hq;cases hq)))
 all_goals first
  |rfl
  |exact(a5F h2 (.inl ‹_›)).symm
  |exact(a5F h2 (.inr (by simp only;omega))).symm
  |(rw[b7V ‹_› ‹_› (by simp only;omega)];simp [*];done)
  |((try simp only[An]);omega)
  |skip)
def Cb:Sig:= {X:=ST×Int×Int×Bool×List Nd×List UInt8,args:=fun x=>[srd x.1 (xh x),.str x.2.2.2.2.2],pre:=fun x=>rOk x.1 (xh x),Y:=Unit,post:=fun x y=>True,res:=fun x y=> .bool (isG x.1.sg (xh x) 4 x.2.2.2.2.2),outs:=fun x y=>[srd x.1 (AS x.1.sg (xh x) x.2.2.2.2.2),.top],keep:=true}
theorem HU:Ai G Tryz.prog 135 Cb:=
 vcFun_okP [(176,0,Ez)] [] false (fun x=>[]) Tryz.func135 rfl (by decide) ⟨QL,trivial⟩ (fun(x:ST×Int×Int×Bool×List Nd×List UInt8)=>True∧cA Ez [srd x.1 (xh x),.q 4,.str x.2.2.2.2.2] fun x_1 y=>Aa (isG x_1.1.sg (xh x_1) x_1.2.2.2.2.2.1 x_1.2.2.2.2.2.2) (inR .i64 ((xh x_1).pos+1)∧rA Cb x [.bool true,.box 0 [sgs x_1.1.sg,.q ((xh x_1).pos+1),.bool (xh x_1).bad,.q (xh x_1).deep,Bj (xh x_1).nodes],.top]) (rA Cb x [.bool false,srd x_1.1 (xh x_1),.top])) (fun x=>by kernel_rfl) fun(x:ST×Int×Int×Bool×List Nd×List UInt8) (hx:rOk x.1 (xh x))=>(by
 dsimp only[cA,Br,Bj,rA,Ez,Cb,Du,sgs,srd,As,Az,mvL,lnL,mvE,lnE,AV.q]
 obtain⟨s,p,d,b,ns,m⟩:=x;dsimp only[xg,xh] at hx ⊢
 have hx:rOk s ⟨p,d,b,ns⟩:=hx;have hs:=Hd hx;dsimp only at hs
 (repeat' first|(with_reducible first|rfl|exact True.intro|apply AK|apply And.intro|((first|apply AA|apply AI|apply AB|apply AJ)<;>intro _))|(apply Av<;>intro _)|apply AH|refine Ae () ?_ ?_|((first|apply AO|apply AN|apply AM|apply AL|apply AG|apply AF|apply AE|apply AD|apply AC)<;>try dsimp only)|apply Ae|(refine Prod.forall.2 ?_;intro _;try dsimp only)|(intro _;try dsimp only))
 all_goals first
  |rfl
  |exact hx
  |omega
  |(simp [AS,Aw, *];done)
  |((try simp only[An]);omega)
  |skip)
def EW:Sig:= {X:=ST×Int×Int×Bool×List Nd×List UInt8,args:=fun x=>[srd x.1 (xh x),.str x.2.2.2.2.2],pre:=fun x=>rOk x.1 (xh x),Y:=Unit,post:=fun x y=>True,res:=fun x y=> .bool (isG x.1.sg (xh x) 1 x.2.2.2.2.2),outs:=fun x y=>[srd x.1 (BK x.1.sg (xh x) x.2.2.2.2.2),.top],keep:=true}
theorem YK:Ai G Tryz.prog 132 EW:=
 vcFun_okP [(176,0,Ez)] [] false (fun x=>[]) Tryz.func132 rfl (by decide) ⟨QL,trivial⟩ (fun(x:ST×Int×Int×Bool×List Nd×List UInt8)=>True∧cA Ez [srd x.1 (xh x),.q 1,.str x.2.2.2.2.2] fun x_1 y=>Aa (isG x_1.1.sg (xh x_1) x_1.2.2.2.2.2.1 x_1.2.2.2.2.2.2) (inR .i64 ((xh x_1).pos+1)∧rA EW x [.bool true,.box 0 [sgs x_1.1.sg,.q ((xh x_1).pos+1),.bool (xh x_1).bad,.q (xh x_1).deep,Bj (xh x_1).nodes],.top]) (rA EW x [.bool false,srd x_1.1 (xh x_1),.top])) (fun x=>by kernel_rfl) fun(x:ST×Int×Int×Bool×List Nd×List UInt8) (hx:rOk x.1 (xh x))=>(by
 dsimp only[cA,Br,Bj,rA,Ez,EW,Du,sgs,srd,As,Az,mvL,lnL,mvE,lnE,AV.q]
 obtain⟨s,p,d,b,ns,m⟩:=x;dsimp only[xg,xh] at hx ⊢
 have hx:rOk s ⟨p,d,b,ns⟩:=hx;have hs:=Hd hx;dsimp only at hs
 (repeat' first|(with_reducible first|rfl|exact True.intro|apply AK|apply And.intro|((first|apply AA|apply AI|apply AB|apply AJ)<;>intro _))|(apply Av<;>intro _)|apply AH|refine Ae () ?_ ?_|((first|apply AO|apply AN|apply AM|apply AL|apply AG|apply AF|apply AE|apply AD|apply AC)<;>try dsimp only)|apply Ae|(refine Prod.forall.2 ?_;intro _;try dsimp only)|(intro _;try dsimp only))
 all_goals first
  |rfl
  |exact hx
  |omega
  |(simp [BK,Aw, *];done)
  |((try simp only[An]);omega)
  |skip)
def BZ:Sig:= {X:=ST×Int×Int×Bool×List Nd×List UInt8,args:=fun x=>[srd x.1 (xh x),.str x.2.2.2.2.2],pre:=fun x=>rOk x.1 (xh x),Y:=Unit,post:=fun x y=>True,res:=fun x y=> .tup [],outs:=fun x y=>[srd x.1 (AP x.1.sg (xh x) x.2.2.2.2.2),.top],keep:=true}
theorem IG:Ai G Tryz.prog 134 BZ:=
 vcFun_okP [(135,0,Cb)] [] false (fun x=>[]) Tryz.func134 rfl (by decide) ⟨HU,trivial⟩ (fun(x:ST×Int×Int×Bool×List Nd×List UInt8)=>True∧cA Cb [srd x.1 (xh x),.str x.2.2.2.2.2] fun x_1 y=>Aa (!isG x_1.1.sg (xh x_1) (4:Int) x_1.2.2.2.2.2) (rA BZ x [.tup [],.box 0 [sgs x_1.1.sg,.q (AS x_1.1.sg (xh x_1) x_1.2.2.2.2.2).pos,.bool true,.q (AS x_1.1.sg (xh x_1) x_1.2.2.2.2.2).deep,Bj (AS x_1.1.sg (xh x_1) x_1.2.2.2.2.2).nodes],.top]) (rA BZ x [.tup [],srd x_1.1 (AS x_1.1.sg (xh x_1) x_1.2.2.2.2.2),.top])) (fun x=>by kernel_rfl) fun(x:ST×Int×Int×Bool×List Nd×List UInt8) (hx:rOk x.1 (xh x))=>(by
 dsimp only[cA,Br,Bj,rA,Cb,BZ,Du,sgs,srd,As,Az,mvL,lnL,mvE,lnE,AV.q]
 obtain⟨s,p,d,b,ns,m⟩:=x;dsimp only[xg,xh] at hx ⊢
 have hx:rOk s ⟨p,d,b,ns⟩:=hx;have hs:=Hd hx;dsimp only at hs
 (repeat' first|(with_reducible first|rfl|exact True.intro|apply AK|apply And.intro|((first|apply AA|apply AI|apply AB|apply AJ)<;>intro _))|(apply Av<;>intro _)|apply AH|refine Ae () ?_ ?_|((first|apply AO|apply AN|apply AM|apply AL|apply AG|apply AF|apply AE|apply AD|apply AC)<;>try dsimp only)|apply Ae|(refine Prod.forall.2 ?_;intro _;try dsimp only)|(intro _;try dsimp only))
 all_goals first
  |rfl
  |exact hx
  |(simp [AP,AS,Aw,Bu, *];done)
  |((try simp only[An]);omega)
  |skip)
def EA:Sig:= {X:=ST×Int×Int×Bool×List Nd×Int,args:=fun x=>[srd x.1 (xh x),.q x.2.2.2.2.2],pre:=fun x=>rOk x.1 (xh x)∧x.2.2.2.2.2≠0,Y:=Unit,post:=fun x y=>True,res:=fun x y=> .bool (kdG x.1.sg (xh x) x.2.2.2.2.2),outs:=fun x y=>[srd x.1 (xh x),.top],keep:=true}
theorem TE:Ai G Tryz.prog 130 EA:=
 vcFun_okP [(175,0,GB)] [] false (fun x=>[]) Tryz.func130 rfl (by decide) ⟨Yi,trivial⟩ (fun(x:ST×Int×Int×Bool×List Nd×Int)=>True∧true=true∧true=true∧Aa (!(xh x).bad) (Aa (decide ((xh x).pos<(x.1.sg.length:Int))) ((0≤(xh x).pos∧(xh x).pos<(x.1.sg.length:Int))∧∀(e:Sg),x.1.sg[Int.toNat (xh x).pos]? =some e→Aa (e.kind==x.2.2.2.2.2) (Aa (x.2.2.2.2.2 != (1:Int)) (rA EA x [.bool true,srd x.1 (xh x),.top]) ((0≤(xh x).pos∧(xh x).pos<(x.1.sg.length:Int))∧∀(e:Sg),x.1.sg[Int.toNat (xh x).pos]? =some e→∃(x_1:List UInt8),True∧e.text=x_1∧∃(y0:Unit),(∀(y:Unit),True→AV.bool (kw x_1)=AV.bool (kw x_1))∧true=true∧rA EA x [.bool !kw x_1,srd x.1 (xh x),.top])) (rA EA x [.bool false,srd x.1 (xh x),.top])) (rA EA x [.bool false,srd x.1 (xh x),.top])) (rA EA x [.bool false,srd x.1 (xh x),.top])) (fun x=>by kernel_rfl) fun(x:ST×Int×Int×Bool×List Nd×Int) (hx:rOk x.1 (xh x)∧x.2.2.2.2.2≠0)=>(by
 dsimp only[Br,Bj,rA,EA,Du,sgs,srd,As,Az,AV.q]
 obtain⟨s,p,d,b,ns,k⟩:=x;dsimp only[xg,xh] at hx ⊢
 obtain⟨h1,h2⟩:=hx;have hs:=Hd h1;dsimp only at hs
 (repeat' first|(with_reducible first|rfl|exact True.intro|apply AK|apply And.intro|((first|apply AA|apply AI|apply AB|apply AJ)<;>intro _))|(apply Av<;>intro _)|apply AH|refine Ae () ?_ ?_|((first|apply AO|apply AN|apply AM|apply AL|apply AG|apply AF|apply AE|apply AD|apply AC)<;>try dsimp only)|apply Ae|(refine Prod.forall.2 ?_;intro _;try dsimp only)|(intro _;try dsimp only))
 all_goals(try(repeat(rename s.sg[_]? =some _=>hq;revert hq;rename s.sg[_]? =some _=>hr;intro hq;rw[hr] at hq;cases hq)))
 all_goals first
  |rfl
  |exact(Ou h2 (.inl ‹_›)).symm
  |exact(Ou h2 (.inr (by simp only;omega))).symm
  |(rw[a5G ‹_› ‹_› (by simp only;omega)];simp [*];done)
  |((try simp only[An]);omega)
  |skip)
def CL:Sig:= {X:=ST×Int×Int×Bool×List Nd×Int,args:=fun x=>[srd x.1 (xh x),.q x.2.2.2.2.2],pre:=fun x=>rOk x.1 (xh x)∧x.2.2.2.2.2≠0,Y:=Unit,post:=fun x y=>True,res:=fun x y=> .str (Bz x.1.sg (xh x) x.2.2.2.2.2),outs:=fun x y=>[srd x.1 (Bh x.1.sg (xh x) x.2.2.2.2.2),.top],keep:=true}
theorem Le:Ai G Tryz.prog 131 CL:=
 vcFun_okP [(130,0,EA)] [] false (fun x=>[]) Tryz.func131 rfl (by decide) ⟨TE,trivial⟩ (fun(x:ST×Int×Int×Bool×List Nd×Int)=>True∧cA EA [srd x.1 (xh x),.q x.2.2.2.2.2] fun x_1 y=>Aa (!kdG x_1.1.sg (xh x_1) x_1.2.2.2.2.2) (rA CL x [.str #[].toList,.box 0 [sgs x_1.1.sg,.q (xh x_1).pos,.bool true,.q (xh x_1).deep,Bj (xh x_1).nodes],.top]) (inR .i64 ((xh x_1).pos+1)∧true=true∧true=true∧inR .i64 ((xh x_1).pos+1-(1:Int))∧(0≤(xh x_1).pos+1-(1:Int)∧(xh x_1).pos+1-1<(x_1.1.sg.length:Int))∧∀(e:Sg),x_1.1.sg[Int.toNat ((xh x_1).pos+1-(1:Int))]? =some e→rA CL x [.str e.text,.box 0 [sgs x_1.1.sg,.q ((xh x_1).pos+1),.bool (xh x_1).bad,.q (xh x_1).deep,Bj (xh x_1).nodes],.top])) (fun x=>by kernel_rfl) fun(x:ST×Int×Int×Bool×List Nd×Int) (hx:rOk x.1 (xh x)∧x.2.2.2.2.2≠0)=>(by
 dsimp only[cA,Br,Bj,rA,EA,CL,Du,sgs,srd,As,Az,mvL,lnL,mvE,lnE,AV.q]
 obtain⟨s,p,d,b,ns,k⟩:=x;dsimp only[xg,xh] at hx ⊢
 obtain⟨h1,h2⟩:=hx;have hs:=Hd h1;dsimp only at hs
 (repeat' first|(with_reducible first|rfl|exact True.intro|apply AK|apply And.intro|((first|apply AA|apply AI|apply AB|apply AJ)<;>intro _))|(apply Av<;>intro _)|apply AH|refine Ae () ?_ ?_|((first|apply AO|apply AN|apply AM|apply AL|apply AG|apply AF|apply AE|apply AD|apply AC)<;>try dsimp only)|apply Ae|(refine Prod.forall.2 ?_;intro _;try dsimp only)|(intro _;try dsimp only))
 all_goals first
  |rfl
  |exact h1
  |exact h2
  |(simp [Bh,Bz,Aw,Bu, *];done)
  |exact b7Y ‹_› h2 ‹_›
  |(have hl:=TD h2 ‹kdG _ _ _=true›;dsimp only at hl;(try simp only[An]);omega)
  |((try simp only[An]);omega)
  |skip)
def Bv:Sig:= {X:=ST×Int×Int×Bool×List Nd×Int×List UInt8×List Int,args:=fun x=>[srd x.1 (xh x),.q x.2.2.2.2.2.1,.str x.2.2.2.2.2.2.1,Al x.2.2.2.2.2.2.2],pre:=fun x=>rOk x.1 (xh x),Y:=Unit,post:=fun x y=>True,res:=fun x y=> .q (AY (xh x)),outs:=fun x y=>[srd x.1 (Ax (xh x) ⟨x.2.2.2.2.2.1,x.2.2.2.2.2.2.1,x.2.2.2.2.2.2.2,false⟩),.top,.top,.top],keep:=true}
theorem HV:Ai G Tryz.prog 108 Bv:=
 vcFun_okP [] [(24,⟨Nd,ndA true⟩)] false (fun x=>[]) Tryz.func108 rfl (by decide) trivial (fun(x:ST×Int×Int×Bool×List Nd×Int×List UInt8×List Int)=>True∧Aa (xh x).bad (rA Bv x [.q 0,.box 0 [sgs x.1.sg,.q (xh x).pos,.bool true,.q (xh x).deep,Bj (xh x).nodes],.top,.top,.top]) (Aa (decide ((↑((xh x).nodes.length):Int)≥(300:Int))) (rA Bv x [.q 0,.box 0 [sgs x.1.sg,.q (xh x).pos,.bool true,.q (xh x).deep,Bj (xh x).nodes],.top,.top,.top]) (∃(x_1:Nd),x.2.2.2.2.2.1=x_1.kind∧x.2.2.2.2.2.2.1=x_1.text∧Al x.2.2.2.2.2.2.2=Al x_1.kids∧false=x_1.blank∧∃(zs:List Nd),Bj [x_1]=Bj zs∧BI (ndA true)∧Bb ((xh x).nodes.length+zs.length) (56:Nat)∧inR .i64 ((↑(((xh x).nodes++zs).length):Int)-(1:Int))∧∃(y:Unit),True∧(↑(((xh x).nodes++zs).length):Int)-1=AY (xh x)∧sgs x.1.sg=sgs x.1.sg∧(xh x).pos=(Ax (xh x) {kind:=x.2.2.2.2.2.1,text:=x.2.2.2.2.2.2.1,kids:=x.2.2.2.2.2.2.2,blank:=false}).pos∧(xh x).bad=(Ax (xh x) {kind:=x.2.2.2.2.2.1,text:=x.2.2.2.2.2.2.1,kids:=x.2.2.2.2.2.2.2,blank:=false}).bad∧(xh x).deep=(Ax (xh x) {kind:=x.2.2.2.2.2.1,text:=x.2.2.2.2.2.2.1,kids:=x.2.2.2.2.2.2.2,blank:=false}).deep∧Bj ((xh x).nodes++zs)=Bj (Ax (xh x) {kind:=x.2.2.2.2.2.1,text:=x.2.2.2.2.2.2.1,kids:=x.2.2.2.2.2.2.2,blank:=false}).nodes∧True))) (fun x=>by kernel_rfl) fun(x:ST×Int×Int×Bool×List Nd×Int×List UInt8×List Int) (hx:rOk x.1 (xh x))=>(by
 dsimp only[Br,Al,Bj,rA,Bv,Du,sgs,srd,As,Az,AV.q]
 obtain⟨s,p,d,b,ns,k,t,ks⟩:=x;dsimp only[xg,xh] at hx ⊢
 have hx:rOk s ⟨p,d,b,ns⟩:=hx;have hs:=Hd hx;dsimp only at hs
 (repeat' first|refine b5n ?_|(with_reducible first|rfl|exact True.intro|apply AK|apply And.intro|((first|apply AA|apply AI|apply AB|apply AJ)<;>intro _))|(apply Av<;>intro _)|apply AH|refine Ae () ?_ ?_|((first|apply AO|apply AN|apply AM|apply AL|apply AG|apply AF|apply AE|apply AD|apply AC)<;>try dsimp only)|apply Ae|(refine Prod.forall.2 ?_;intro _;try dsimp only)|(intro _;try dsimp only))
 all_goals first
  |rfl
  |(simp [Ax,AY,Ef,Bu, *];done)
  |(have hn:ns.length=300:=by omega
    simp [Ax,AY,Ef,Bu, *];done)
  |(have hn:ns.length≠300:=by omega
    simp [Ax,AY,Ef,Bu, *];done)
  |((try simp only[An,Bb,List.length_append,List.length_cons,List.length_nil]);omega)
  |skip)
def GI:Sig:= {X:=ST×Int×Int×Bool×List Nd,args:=fun x=>[srd x.1 (xg x)],pre:=fun x=>rOk x.1 (xg x),Y:=Unit,post:=fun x y=>True,res:=fun x y=> .bool (blG x.1.sg (xg x)),outs:=fun x y=>[srd x.1 (xg x)],keep:=true}
theorem TF:Ai G Tryz.prog 105 GI:=
 vcFun_okP [] [] false (fun x=>[]) Tryz.func105 rfl (by decide) trivial (fun(x:ST×Int×Int×Bool×List Nd)=>True∧true=true∧true=true∧Aa (decide ((xg x).pos<(x.1.sg.length:Int))) ((0≤(xg x).pos∧(xg x).pos<(x.1.sg.length:Int))∧∀(e:Sg),x.1.sg[Int.toNat (xg x).pos]? =some e→rA GI x [.bool e.blank,srd x.1 (xg x)]) (rA GI x [.bool false,srd x.1 (xg x)])) (fun x=>by kernel_rfl) fun(x:ST×Int×Int×Bool×List Nd) (hx:rOk x.1 (xg x))=>(by
 dsimp only[Br,Bj,rA,GI,Du,sgs,srd,As,Az]
 obtain⟨s,p,d,b,ns⟩:=x;dsimp only[xg,xh] at hx ⊢
 have hx:rOk s ⟨p,d,b,ns⟩:=hx;have hs:=Hd hx;dsimp only at hs
 (repeat' first|(with_reducible first|rfl|exact True.intro|apply AK|apply And.intro|((first|apply AA|apply AI|apply AB|apply AJ)<;>intro _))|(apply Av<;>intro _)|apply AH|refine Ae () ?_ ?_|((first|apply AO|apply AN|apply AM|apply AL|apply AG|apply AF|apply AE|apply AD|apply AC)<;>try dsimp only)|apply Ae|(refine Prod.forall.2 ?_;intro _;try dsimp only)|(intro _;try dsimp only))
 all_goals first
  |rfl
  |(simp [blG,JQ ‹s.sg[_]? =some _›, *];done)
  |(simp [blG, *];done)
  |((try simp only[An]);omega)
  |skip)
def Fq:Sig:= {X:=ST×Int×Int×Bool×List Nd×Int×Bool,args:=fun x=>[srd x.1 (xh x),.q x.2.2.2.2.2.1,.bool x.2.2.2.2.2.2],pre:=fun x=>rOk x.1 (xh x)∧((xh x).bad=false→0≤x.2.2.2.2.2.1),Y:=Unit,post:=fun x y=>True,res:=fun x y=> .tup [],outs:=fun x y=>[srd x.1 (gBl (xh x) x.2.2.2.2.2.1 x.2.2.2.2.2.2),.top,.top],keep:=true}
theorem TG:Ai G Tryz.prog 107 Fq:=
 vcFun_okP [] [(24,⟨Nd,ndA true⟩)] false (fun x=>[]) Tryz.func107 rfl (by decide) trivial (fun(x:ST×Int×Int×Bool×List Nd×Int×Bool)=>True∧Aa (!(xh x).bad) (Aa (decide (x.2.2.2.2.2.1<(↑((xh x).nodes.length):Int))) ((0≤x.2.2.2.2.2.1∧x.2.2.2.2.2.1<(↑((xh x).nodes.length):Int))∧Int.toNat x.2.2.2.2.2.1<(xh x).nodes.length∧∀(x_1:Nd),(xh x).nodes[Int.toNat x.2.2.2.2.2.1]? =some x_1→∃(x':Nd),([AV.q x'.kind,.str x'.text,Al x'.kids]=[.q x_1.kind,.str x_1.text,Al x_1.kids]∧(@List.nil AV)=[])∧x.2.2.2.2.2.2=x'.blank∧rA Fq x [.tup [],.box 0 [sgs x.1.sg,.q (xh x).pos,.bool (xh x).bad,.q (xh x).deep,Bj (List.set (xh x).nodes (Int.toNat x.2.2.2.2.2.1) x')],.top,.top]) (rA Fq x [.tup [],srd x.1 (xh x),.top,.top])) (rA Fq x [.tup [],srd x.1 (xh x),.top,.top])) (fun x=>by kernel_rfl) fun(x:ST×Int×Int×Bool×List Nd×Int×Bool) (hx:rOk x.1 (xh x)∧((xh x).bad=false→0≤x.2.2.2.2.2.1))=>(by
 dsimp only[Br,Al,Bj,rA,Fq,Du,sgs,srd,As,Az,AV.q]
 obtain⟨s,p,d,b,ns,k,bl⟩:=x;dsimp only[xg,xh] at hx ⊢
 obtain⟨hx,hk⟩:=hx
 have hx:rOk s ⟨p,d,b,ns⟩:=hx;have hs:=Hd hx;dsimp only at hs
 (repeat' first|refine b7W ?_|(with_reducible first|rfl|exact True.intro|apply AK|apply And.intro|((first|apply AA|apply AI|apply AB|apply AJ)<;>intro _))|(apply Av<;>intro _)|apply AH|refine Ae () ?_ ?_|((first|apply AO|apply AN|apply AM|apply AL|apply AG|apply AF|apply AE|apply AD|apply AC)<;>try dsimp only)|apply Ae|(refine Prod.forall.2 ?_;intro _;try dsimp only)|(intro _;try dsimp only))
 all_goals first
  |rfl
  |(simp [gBl, *];done)
  |exact b7X (g:=⟨p,d,b,ns⟩) ‹_› ‹_› ‹_›
  |(have hk2:=hk ‹_›;(try simp only[An]);omega)
  |((try simp only[An]);omega)
  |skip)
end Go.My
end
