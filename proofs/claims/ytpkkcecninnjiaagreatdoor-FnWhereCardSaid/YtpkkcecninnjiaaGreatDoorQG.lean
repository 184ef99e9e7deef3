/- joined -/
import Derived.Test.YtpkkcecninnjiaaGreatDoorQF
set_option linter.unusedSimpArgs false
set_option linter.unusedVariables false
section
namespace Go.My
open Go.Eng
variable {N l n:Nat}{a i k:Int}{g x y:Gs}{ks:Ad}{m:Aa}{one:Ps→PR}{s:Ps}{sg:List Sg}{z:Int×Gs}
def FV(sg:List Sg):Nat→Int→Int
 |0,i=>i
 |n+1,i=>if i+1<sg.length∧(sgO sg i).kind=1 then(if(sgO sg (i+1)).text=[44] then FV sg n (i+2) else i+1) else i
def Gy(sg:List Sg)(i k:Int)(t:Aa):Bool:=decide ((sgO sg i).kind=k)&&((sgO sg i).text==t)
def Hj(sg:List Sg)(i:Int):Bool:=decide (i+1<sg.length)&&(Gy sg i 4 [41]&&Gy sg (i+1) 4 [61,62])
def NH(sg:List Sg)(s:Ps):Bool:=Hj sg (FV sg (sg.length+1) (s.pos+1))
def sgM(sg:List Sg):Prop:=∀e∈sg,(e.text=[41]∨e.text=[61,62]∨e.text=[44])→e.kind=4
theorem a2A(h:(sgO sg i).text≠[]∨(sgO sg i).kind≠0):i.toNat<sg.length∧sgO sg i∈sg:=by
 unfold sgO at h ⊢
 rw[List.getD_eq_getElem?_getD] at h ⊢
 cases hx:sg[i.toNat]? with
 |none=>rw[hx] at h;simp [Gv] at h
 |some e=>exact⟨(DT.1 hx).1,by simpa using Iv hx⟩
theorem Xo(hm:sgM sg)(h:(sgO sg i).text=[41]∨(sgO sg i).text=[61,62]∨(sgO sg i).text=[44]):(sgO sg i).kind=4:=by
 refine hm _ (a2A (.inl ?_)).2 h
 rcases h with h|h|h<;>rw[h]<;>simp
def a9C(sg:List Sg)(i:Int):Bool:=((sgO sg i).text==[41])&&((sgO sg (i+1)).text==[61,62])
theorem a2B(hm:sgM sg)(h0:0≤i):a9C sg i=Hj sg i:=by
 unfold a9C Hj Gy
 cases h1:((sgO sg i).text==[41]) with
 |false=>simp
 |true=>
  have k1:=Xo hm (.inl (by simpa using h1))
  cases h2:((sgO sg (i+1)).text==[61,62]) with
  |false=>simp
  |true=>
   have k2:=Xo hm (.inr (.inl (by simpa using h2)))
   have:=(a2A (sg:=sg) (i:=i+1) (.inl (by simp at h2;rw[h2];simp))).1
   simp [k1,k2];omega
theorem Xp(h:DF sg i=true):(sgO sg i).kind=1:=by
 simp [DF] at h;exact h.1
theorem a9D{sg:List Sg}(hm:sgM sg):∀(n:Nat) (i:Int),0≤i→Hj sg (FB sg n i)=true→Hj sg (FV sg n i)=true
 |0,i,h0,h=>by simpa [FB,FV] using h
 |n+1,i,h0,h=>by
  rw[FB] at h;rw[FV]
  cases hn:DF sg i with
  |false=>
   rw[hn] at h;simp only[Bl,Br] at h
   have h4:(sgO sg i).kind=4:=by
    simp only[Hj,Gy,AY,Bf] at h;exact h.2.1.1
   rw[if_neg (by rw[h4];omega)];exact h
  |true=>
   rw[hn,if_pos rfl] at h
   have hk:=Xp hn
   have hlt:i+1<sg.length:=by
    split at h
    ·rename_i ht
     have:=(a2A (sg:=sg) (i:=i+1) (.inl (by rw[ht];simp))).1;omega
    ·simp only[Hj,AY,Bf] at h;omega
   rw[if_pos ⟨hlt,hk⟩]
   split at h
   ·rename_i ht;rw[if_pos ht];exact a9D hm n (i+2) (by omega) h
   ·rename_i ht;rw[if_neg ht];exact h
theorem a9E{sg:List Sg}(hm:sgM sg):∀(n:Nat) (i:Int),0≤i→Hj sg (FV sg n i)=true→Hj sg (FB sg n i)=false→∀(N:Nat) (ks:Ad) (s:Ps),s.pos=i→BG sg (Cn sg) [41] N ks s=none
 |0,i,h0,h1,h2=>by simp [FB,FV] at h1 h2;rw[h1] at h2;cases h2
 |n+1,i,h0,h1,h2=>by
  intro N ks s hs
  match N with
  |0=>rfl
  |N+1=>
  rw[FV] at h1;rw[FB] at h2
  cases hn:DF sg i with
  |false=>
   rw[hn] at h2;simp only[Bl,Br] at h2
   split at h1
   ·rename_i hh
    have hm4:isM sg s [41]=false:=by simp [isM,isT,hs,hh.2]
    rw[BG,if_neg (by simp [hm4]),Cn,hs,if_neg (by simp [hn])];rfl
   ·rw[h1] at h2;cases h2
  |true=>
   rw[hn,if_pos rfl] at h2
   have hk:=Xp hn
   have hm4:isM sg s [41]=false:=by simp [isM,isT,hs,hk]
   split at h1
   ·split at h1
    ·rename_i ht;rw[if_pos ht] at h2
     have hk2:=Xo hm (.inr (.inr ht))
     rw[BG,if_neg (by simp [hm4]),Cn,hs,if_pos hn,Hh,Hg,Bd]
     split
     ·rfl
     ·simp only[Kj,De,adv]
      have hc:isM sg ⟨s.pos+1,s.deep,s.nodes++[⟨1,(sgO sg s.pos).text,[],false⟩]⟩ [44]=true:=by simp [isM,isT,hs,ht,hk2]
      rw[if_pos hc]
      exact a9E hm n (i+2) (by omega) h1 h2 N _ _ (by simp only;omega)
    ·rename_i ht;rw[if_neg ht] at h2;rw[h1] at h2;cases h2
   ·exfalso
    have:(sgO sg i).kind=4:=by simp only[Hj,Gy,AY,Bf] at h1;exact h1.2.1.1
    omega
theorem RC{sg:List Sg}(hm:sgM sg):∀(n:Nat) (t:NT) (s:Ps),DF sg s.pos=true→(sgO sg (s.pos+1)).text=[44]→0≤s.pos→(pE sg n t s=none∨∃p,pE sg n t s=some p∧p.2.pos=s.pos+1)
 |0,t,s,h1,h2,h0=> .inl (by cases t<;>rfl)
 |n+1,t,s,h1,h2,h0=>by
  have hk:=Xo hm (.inr (.inr h2))
  have tst:∀(q:Ps) (m:Aa),q.pos=s.pos+1→m≠[44]→isM sg q m=false:=by
   intro q m hq hne;simp only[isM,isT,hq,h2]
   simp;intro _;exact fun e=>hne e.symm
  cases t with
  |value=>
   rw[pE]
   rcases RC hm n .pick s h1 h2 h0 with h|⟨p,h,hp⟩
   ·left;rw[h];rfl
   ·right;refine⟨p,?_,hp⟩
    rw[h,De,if_neg (by simp [tst p.2 [46,46] hp (by simp)])]
  |pick=>
   rw[pE]
   split
   ·exact .inl rfl
   ·rcases RC hm n (.chain 0) (dp s 1) h1 h2 h0 with h|⟨p,h,hp⟩
    ·left;rw[h];rfl
    ·right;refine⟨(p.1,dp p.2 (-1)),?_,hp⟩
     rw[h,De,if_neg (by simp [tst p.2 [63] hp (by simp)])]
  |chain l=>
   rw[pE]
   split
   ·exact RC hm n .fin s h1 h2 h0
   ·rcases RC hm n (.chain (l+1)) s h1 h2 h0 with h|⟨p,h,hp⟩
    ·left;rw[h];rfl
    ·right
     have hc:GP sg l p.2=[]:=by
      have:∀m∈Ck l,isM sg p.2 m=false:=by
       intro m hmm
       refine tst p.2 m hp ?_
       intro e;subst e
       unfold Ck at hmm
       split at hmm<;>simp at hmm
      rw[GP,List.find?_eq_none.2 (by intro m hmm;simp [this m hmm])];rfl
     refine⟨(p.1,p.2),?_,hp⟩
     rw[h,De,HH,if_neg (by simp),if_pos hc];rfl
  |fin=>
   rw[pE]
   rcases RC hm n .base s h1 h2 h0 with h|⟨p,h,hp⟩
   ·left;rw[h];rfl
   ·right;refine⟨p,?_,hp⟩
    rw[h,De,GQ,if_neg (by simp [tst p.2 [40] hp (by simp)]),if_neg (by simp [tst p.2 [46] hp (by simp)])]
  |base=>
   rw[pE,if_pos (Xp h1),Cn,if_pos h1,Hh,Hg,Bd]
   split
   ·exact .inl rfl
   ·exact .inr ⟨_,rfl,rfl⟩
theorem RD{sg:List Sg}:∀(n:Nat) (t:NT) (s:Ps),DF sg s.pos=false→(sgO sg s.pos).kind=1→pE sg n t s=none
 |0,t,s,h1,h2=>by cases t<;>rfl
 |n+1,t,s,h1,h2=>by
  cases t with
  |value=>rw[pE,RD n .pick s h1 h2];rfl
  |pick=>rw[pE];split
         ·rfl
         ·rw[RD n (.chain 0) (dp s 1) h1 h2];rfl
  |chain l=>rw[pE];split
            ·exact RD n .fin s h1 h2
            ·rw[RD n (.chain (l+1)) s h1 h2];rfl
  |fin=>rw[pE,RD n .base s h1 h2];rfl
  |base=>rw[pE,if_pos h2,Cn,if_neg (by simp [h1])]
theorem c0s(hm:sgM sg){x:Nd}(h0:0≤s.pos)(h1:NH sg s=true)(h2:NE sg s=false)(k:Int→Nd):
 ((pE sg n .value (adv s)).bind fun p=>Bt sg [41] (k p.1) p.2)=none:=by
 have h2':Hj sg (FB sg (sg.length+1) (s.pos+1))=false:=by
  have hp:∀(n:Nat) (i:Int),0≤i→0≤FB sg n i:=by
   intro n
   induction n with
   |zero=>intro i hi;simpa [FB] using hi
   |succ n ih=>intro i hi;rw[FB];split
               ·split
                ·exact ih _ (by omega)
                ·omega
               ·exact hi
  rw[←a2B hm (hp _ _ (by omega))];exact h2
 unfold NH at h1
 rw[FV] at h1;rw[FB] at h2'
 cases hn:DF sg (s.pos+1) with
 |false=>
  rw[hn] at h2';simp only[Bl,Br] at h2'
  split at h1
  ·rename_i hh
   rw[RD n .value (adv s) hn hh.2];rfl
  ·rw[h1] at h2';cases h2'
 |true=>
  rw[hn,if_pos rfl] at h2'
  split at h1
  ·split at h1
   ·rename_i ht
    rcases RC hm n .value (adv s) hn (by simpa [adv] using ht) (by simp only[adv];omega) with h|⟨p,h,hp⟩
    ·rw[h];rfl
    ·rw[h,De,Bt]
     have:isM sg p.2 [41]=false:=by
      simp only[isM,isT,hp,adv]
      rw[show s.pos+1+1=s.pos+1+1 from rfl,ht];simp
     rw[if_neg (by simp [this])]
   ·rename_i ht;rw[if_neg ht] at h2';rw[h1] at h2';cases h2'
  ·exfalso
   have:(sgO sg (s.pos+1)).kind=4:=by simp only[Hj,Gy,AY,Bf] at h1;exact h1.2.1.1
   have:=Xp hn
   omega
theorem a9F:pE sg (n+1) .pick s=if 20≤s.deep then none else(pE sg n (.chain 0) (dp s 1)).bind fun p=>
 if isM sg p.2 [63] then(pE sg n .pick (adv p.2)).bind fun a=>(BS sg [58] a.2).bind fun s1=>(pE sg n .pick s1).bind fun b=>(Bd ⟨8,[],[p.1,a.1,b.1],false⟩ b.2).map fun q=>(q.1,dp q.2 (-1))
 else some (p.1,dp p.2 (-1)):=rfl
theorem c0t:pE sg (n+1) (.chain l) s=if l=6 then pE sg n .fin s else(pE sg n (.chain (l+1)) s).bind fun p=>HH sg l (pE sg n (.chain (l+1))) (2*sg.length+4) [] [p.1] p.2:=rfl
theorem HJ{α:Type}{f:Ps→Option (α×Ps)}{y:α×Gs}(h:Ag sg x f y):gsOk sg y.2:=h.1.1
theorem DG{α:Type}{f:Ps→Option (α×Ps)}{y:α×Gs}(h:Ag sg x f y):y.2.deep=x.deep∧x.pos≤y.2.pos∧y.2.pos≤sg.length∧(y.2.bad=false→x.bad=false∧x.pos<y.2.pos):=by
 refine⟨h.1.2.1,h.1.2.2.1,h.1.1.1.2,fun hb=>⟨?_,h.2 hb⟩⟩
 cases hx:x.bad with
 |false=>rfl
 |true=>
  have:=h.1.2.2.2.1
  rw[Fp hx,Ef hb] at this;cases this
theorem Mt{g:Gs}{x:Nd}:(Av g x).deep=g.deep∧(Av g x).pos=g.pos∧((Av g x).bad=false→g.bad=false):=by
 unfold Av;split
 ·rename_i h;exact⟨rfl,rfl,fun hb=>by simp [Bw] at hb⟩
 ·exact⟨rfl,rfl,fun hb=>hb⟩
theorem Xq{f:Ps→PR}{w:Nd}(h:restP sg x f y (Bd w) 0)(hw:Ee w):BU sg x f (AQ y,Av y w):=by
 have h2:=Cq (k:=fun a s=>some (a,s)) h (Xm h.1 hw) (fun s _=>by cases Bd w s<;>rfl)
 exact IR h2
theorem Xr{f:Ps→PR}{w:Nd}(h:restP sg x f y (Bt sg m w) 0)(hw:Ee w):BU sg x f (Dr sg y m,Dq sg y m w):=by
 have h2:=Cq (k:=fun a s=>some (a,s)) h (Rz h.1 hw).1 (fun s _=>by cases Bt sg m w s<;>rfl)
 exact IR h2
theorem c0u(h:gsOk sg x)(hd:x.deep≤20):restP sg x (pE sg (n+1) .pick) (gDp (if x.deep=20 then Bw x else x) 1)
 (fun s=>(pE sg n (.chain 0) s).bind fun p=>if isM sg p.2 [63] then(pE sg n .pick (adv p.2)).bind fun a=>(BS sg [58] a.2).bind fun s1=>(pE sg n .pick s1).bind fun b=>(Bd ⟨8,[],[p.1,a.1,b.1],false⟩ b.2).map fun q=>(q.1,dp q.2 (-1)) else some (p.1,dp p.2 (-1))) 1:=by
 split
 ·rename_i h20
  have h2:=a9B (d:=0) (g':=pE sg (n+1) .pick) (Ei (f:=pE sg (n+1) .pick) h) (fun s hs=>by
   obtain⟨_,rfl⟩:=Gw.1 hs
   rw[a9F,if_pos (by simp only;omega)])
  refine Pn (d:=0) h2 ⟨by simp only[Bw];omega,by simp only[Bw];omega⟩ (fun s hs=> ?_)
  rw[Mr] at hs;cases hs
 ·rename_i h20
  refine Pn (d:=0) (Ei h) ⟨by have:=h.2.1.1;omega,by omega⟩ (fun s hs=> ?_)
  obtain⟨_,rfl⟩:=Gw.1 hs
  rw[a9F,if_neg (by simp only;omega)]
theorem a9G(h:gsOk sg x)(hd:x.deep≤20)(h1:Ag sg (gDp (if x.deep=20 then Bw x else x) 1) (pE sg n (.chain 0)) z):
 restP sg x (pE sg (n+1) .pick) z.2 (fun s=>if isM sg s [63] then(pE sg n .pick (adv s)).bind fun a=>(BS sg [58] a.2).bind fun s1=>(pE sg n .pick s1).bind fun b=>(Bd ⟨8,[],[z.1,a.1,b.1],false⟩ b.2).map fun q=>(q.1,dp q.2 (-1)) else some (z.1,dp s (-1))) 1:=
 Cq (k:=fun k s=>if isM sg s [63] then(pE sg n .pick (adv s)).bind fun a=>(BS sg [58] a.2).bind fun s1=>(pE sg n .pick s1).bind fun b=>(Bd ⟨8,[],[k,a.1,b.1],false⟩ b.2).map fun q=>(q.1,dp q.2 (-1)) else some (k,dp s (-1))) (c0u h hd) h1.1 (fun _ _=>rfl)
theorem Uw{x:Gs}:(gDp (if x.deep=20 then Bw x else x) 1).pos=x.pos∧(gDp (if x.deep=20 then Bw x else x) 1).deep=x.deep+1∧((gDp (if x.deep=20 then Bw x else x) 1).bad=false→x.bad=false∧x.deep≠20):=by
 split
 ·exact⟨rfl,rfl,fun h=>by simp [gDp,Bw] at h⟩
 ·rename_i h;exact⟨rfl,rfl,fun h2=>⟨h2,h⟩⟩
theorem c0v(h:gsOk sg x)(hd:x.deep≤20)(h1:Ag sg (gDp (if x.deep=20 then Bw x else x) 1) (pE sg n (.chain 0)) z)(hq:isG sg z.2 4 [63]=false):
 Ag sg x (pE sg (n+1) .pick) (z.1,gDp z.2 (-1)):=by
 have h2:=Fr (a9G h hd h1) (g':=fun s=>some (z.1,dp s (-1))) (fun s hs=>by rw[if_neg (by simp [Gx hs hq])])
 obtain⟨e1,e2,e3,e4⟩:=DG h1
 obtain⟨p1,p2,p3⟩:= @Uw x
 refine⟨IR (Pn (e:= -1) h2 ?_ (fun s hs=>rfl)),fun hb=> ?_⟩
 ·have:=h.2.1;omega
 ·have:=e4 hb;show x.pos<z.2.pos;omega
theorem c0w{a b:Int×Gs}(h:gsOk sg x)(hd:x.deep≤20)(h1:Ag sg (gDp (if x.deep=20 then Bw x else x) 1) (pE sg n (.chain 0)) z)(hq:isG sg z.2 4 [63]=true)
 (h2:Ag sg (Au z.2) (pE sg n .pick) a) (h3:Ag sg (Ax sg a.2 [58]) (pE sg n .pick) b):
 Ag sg x (pE sg (n+1) .pick) (AQ b.2,gDp (Av b.2 ⟨8,[],[z.1,a.1,b.1],false⟩) (-1)):=by
 have k1:=IT (g':=fun s=>(pE sg n .pick s).bind fun a=>(BS sg [58] a.2).bind fun s1=>(pE sg n .pick s1).bind fun b=>(Bd ⟨8,[],[z.1,a.1,b.1],false⟩ b.2).map fun q=>(q.1,dp q.2 (-1)))
  (a9G h hd h1) (by omega) hq (fun s hs ht=>by rw[if_pos (show isM sg s [63]=true from ht)])
 have k2:=Cq (k:=fun a s=>(BS sg [58] s).bind fun s1=>(pE sg n .pick s1).bind fun b=>(Bd ⟨8,[],[z.1,a,b.1],false⟩ b.2).map fun q=>(q.1,dp q.2 (-1))) k1 h2.1 (fun _ _=>rfl)
 have k3:=JN (g':=fun s1=>(pE sg n .pick s1).bind fun b=>(Bd ⟨8,[],[z.1,a.1,b.1],false⟩ b.2).map fun q=>(q.1,dp q.2 (-1))) k2 (fun _ _=>rfl)
 have k4:=Cq (k:=fun b s=>(Bd ⟨8,[],[z.1,a.1,b],false⟩ s).map fun q=>(q.1,dp q.2 (-1))) k3 h3.1 (fun _ _=>rfl)
 have hw:Ee ⟨8,[],[z.1,a.1,b.1],false⟩:=⟨by simp,by simp⟩
 have k5:=Cq (k:=fun k s=>some (k,dp s (-1))) k4 (Xm k4.1 hw) (fun s _=>by cases Bd ⟨8,[],[z.1,a.1,b.1],false⟩ s<;>rfl)
 simp only at k5
 obtain⟨d1,d2,d3⟩:= @Mt b.2 ⟨8,[],[z.1,a.1,b.1],false⟩
 refine⟨IR (Pn (e:= -1) k5 ?_ (fun s hs=>rfl)),fun hb=> ?_⟩
 ·have:=k5.2.1;have:=h.2.1;omega
 ·have hb2:=d3 hb
  obtain⟨p1,p2,p3⟩:= @Uw x
  have e1:=DG h1;have e2:=DG h2;have e3:=DG h3
  have e4:=Ur (m:=[58]) (HJ h2)
  have e5:=(Ur (m:=[58]) (HJ h2)).1.2.2.1
  show x.pos<(Av b.2 ⟨8,[],[z.1,a.1,b.1],false⟩).pos
  have ea:(Au z.2).pos=z.2.pos+1:=rfl
  have:=e3.2.1
  omega
def NI(sg:List Sg)(n:Nat)(x y:Gs)(ks:Ad)(N:Nat):Prop:=
 restP sg x (pE sg (n+1) .value) y (fun s=>(GR sg (pE sg n .value) N ks s).bind fun q=>Bd ⟨10,[],q.1,false⟩ q.2) 0∧(sg.length:Int)-y.pos<N∧(ks.length:Int)≤y.pos+1∧(y.bad=false→x.pos<y.pos)
theorem c0x(h:gsOk sg x)(h1:Ag sg x (pE sg n .pick) z)(hq:isG sg z.2 4 [46,46]=false):Ag sg x (pE sg (n+1) .value) z:=by
 have k1:=Cq (k:=fun k s=>if isM sg s [46,46] then(GR sg (pE sg n .value) (sg.length+1) [k] s).bind fun q=>Bd ⟨10,[],q.1,false⟩ q.2 else some (k,s)) (Ei (f:=pE sg (n+1) .value) h) h1.1 (fun _ _=>rfl)
 have k2:=Fr k1 (g':=fun s=>some (z.1,s)) (fun s hs=>by rw[if_neg (by simp [Gx hs hq])])
 exact⟨IR k2,h1.2⟩
theorem c0y(h:gsOk sg x)(h1:Ag sg x (pE sg n .pick) z)(hq:isG sg z.2 4 [46,46]=true):NI sg n x z.2 [z.1] (sg.length+1):=by
 have k1:=Cq (k:=fun k s=>if isM sg s [46,46] then(GR sg (pE sg n .value) (sg.length+1) [k] s).bind fun q=>Bd ⟨10,[],q.1,false⟩ q.2 else some (k,s)) (Ei (f:=pE sg (n+1) .value) h) h1.1 (fun _ _=>rfl)
 have k2:=Fr k1 (g':=fun s=>(GR sg (pE sg n .value) (sg.length+1) [z.1] s).bind fun q=>Bd ⟨10,[],q.1,false⟩ q.2) (fun s hs=>by rw[if_pos (Ms hs hq)])
 have:=k2.1.1
 exact⟨k2,by omega,by simp;omega,h1.2⟩
theorem val_go{w:Int×Gs}(hs:sgB sg)(h:NI sg n x y ks N)(hq:isG sg y 4 [46,46]=true)
 (h2:Ag sg (Fq sg (Au y)) (DL sg (pE sg n .value) (FD sg (Au y))) w):∃M,N=M+1∧NI sg n x w.2 (ks++[w.1]) M:=by
 obtain⟨h1,hN,hk,hb⟩:=h
 obtain⟨hl1,hl⟩:=Eg hq (by omega)
 match N with
 |0=>omega
 |M+1=>
  refine⟨M,rfl,?_⟩
  have k1:=IT (g':=fun s=>((Cn sg s).bind fun p=>(DL sg (pE sg n .value) p.1 p.2).bind fun q=>GR sg (pE sg n .value) M (ks++[q.1]) q.2).bind fun q=>Bd ⟨10,[],q.1,false⟩ q.2)
   h1 (by omega) hq (fun s hs ht=>by rw[GR,if_pos (show isM sg s [46,46]=true from ht)])
  have k2:=Cq (k:=fun k s=>((DL sg (pE sg n .value) k s).bind fun q=>GR sg (pE sg n .value) M (ks++[q.1]) q.2).bind fun q=>Bd ⟨10,[],q.1,false⟩ q.2) k1 (Xn hs k1.1).1 (fun s _=>by simp only[Option.bind_assoc])
  have k3:=Cq (k:=fun k s=>(GR sg (pE sg n .value) M (ks++[k]) s).bind fun q=>Bd ⟨10,[],q.1,false⟩ q.2) k2 h2.1 (fun s _=>by simp only[Option.bind_assoc])
  have e0:(Au y).pos≤(Fq sg (Au y)).pos:=(Xn hs k1.1).1.2.2.1
  have e1:=DG h2
  have ea:(Au y).pos=y.pos+1:=rfl
  refine⟨k3,by omega,by simp;omega,fun hb2=> ?_⟩
  have:=h1.2.2.1
  omega
theorem c0z(h:NI sg n x y ks N)(hq:isG sg y 4 [46,46]=false)(hs:sgB sg):Ag sg x (pE sg (n+1) .value) (AQ y,Av y ⟨10,[],ks,false⟩):=by
 obtain⟨h1,hN,hk,hb⟩:=h
 have hp:=h1.1.1
 match N with
 |0=>omega
 |M+1=>
  have k1:=Fr h1 (g':=Bd ⟨10,[],ks,false⟩) (fun s hs=>by rw[GR,if_neg (by simp [Gx hs hq])];rfl)
  have:=hs.1
  refine⟨Xq k1 ⟨by simp,by simp only;omega⟩,fun hb2=> ?_⟩
  obtain⟨d1,d2,d3⟩:= @Mt y ⟨10,[],ks,false⟩
  simp only[d2];exact hb (d3 hb2)
theorem a9H{sg:List Sg}{one:Ps→PR}{m:Aa}{a:Ad}:∀(n:Nat) (ks:Ad) (s:Ps),BG sg one m n (a++ks) s=(BG sg one m n ks s).map fun p=>(a++p.1,p.2)
 |0,ks,s=>rfl
 |n+1,ks,s=>by
  rw[BG,BG]
  split
  ·rfl
  ·cases one s with
   |none=>rfl
   |some p=>
    simp only[De]
    split
    ·rw[Bz,a9H n (ks++[p.1])]
    ·simp
def Lr(sg:List Sg)(one:Ps→PR)(m:Aa)(x y:Gs)(ks:Ad)(N:Nat):Prop:=
 restP sg x (BG sg one m (sg.length+1) []) y (BG sg one m N ks) 0∧(sg.length:Int)-y.pos<N∧(ks.length:Int)≤y.pos
theorem c0A(h:gsOk sg x):Lr sg one m x x [] (sg.length+1):=by
 have:=h.1
 exact⟨Ei h,by omega,by simp;omega⟩
theorem c0B(h:Lr sg one m x y ks N)(hb:y.bad=true):BU sg x (BG sg one m (sg.length+1) []) (ks,y):=Uv h.1 hb
theorem c0C(h:Lr sg one m x y ks N)(hq:isG sg y 4 m=true):BU sg x (BG sg one m (sg.length+1) []) (ks,y):=by
 obtain⟨h1,hN,hk⟩:=h
 have:=h1.1.1
 match N with
 |0=>omega
 |M+1=>exact IR (Fr h1 (g':=fun s=>some (ks,s)) (fun s hs=>c0q (Ms hs hq)))
theorem a9I{M:Nat}(h:Lr sg one m x y ks (M+1))(hq:isG sg y 4 m=false)(hz:Ag sg y one z):
 restP sg x (BG sg one m (sg.length+1) []) z.2 (fun s=>if isM sg s [44] then BG sg one m M (ks++[z.1]) (adv s) else some (ks++[z.1],s)) 0:=by
 have k1:=Fr h.1 (g':=fun s=>(one s).bind fun p=>if isM sg p.2 [44] then BG sg one m M (ks++[p.1]) (adv p.2) else some (ks++[p.1],p.2)) (fun s hs=>c0r (Gx hs hq))
 exact Cq (k:=fun k s=>if isM sg s [44] then BG sg one m M (ks++[k]) (adv s) else some (ks++[k],s)) k1 hz.1 (fun _ _=>rfl)
theorem a9J(h:Lr sg one m x y ks N):∃M,N=M+1:=by
 obtain⟨h1,hN,hk⟩:=h
 have:=h1.1.1
 match N with
 |0=>omega
 |M+1=>exact⟨M,rfl⟩
theorem c0D(h:Lr sg one m x y ks N)(hq:isG sg y 4 m=false)(hz:Ag sg y one z)(hc:isG sg z.2 4 [44]=false):
 BU sg x (BG sg one m (sg.length+1) []) (ks++[z.1],z.2):=by
 obtain⟨M,rfl⟩:=a9J h
 exact IR (Fr (a9I h hq hz) (g':=fun s=>some (ks++[z.1],s)) (fun s hs=>by rw[if_neg (by simp [Gx hs hc])]))
theorem c0E(h:Lr sg one m x y ks N)(hq:isG sg y 4 m=false)(hz:Ag sg y one z)(hc:isG sg z.2 4 [44]=true):
 ∃M,N=M+1∧Lr sg one m x (Au z.2) (ks++[z.1]) M:=by
 obtain⟨M,rfl⟩:=a9J h
 have k1:=IT (g':=BG sg one m M (ks++[z.1])) (a9I h hq hz) (by omega) hc (fun s hs ht=>by rw[if_pos (show isM sg s [44]=true from ht)])
 have e:=DG hz
 obtain⟨h1,hN,hk⟩:=h
 refine⟨M,rfl,k1,?_,?_⟩
 ·simp only[Au];omega
 ·simp only[Au,Ba,AE,AX];omega
theorem c0F{val:Ps→PR}{l:Ad×Gs}(hx:gsOk sg x)(hl:BU sg (Ax sg x [40]) (BG sg val [41] (sg.length+1) []) l)(hll:l.1.length≤3001):
 Ag sg x (DL sg val k) (Dr sg l.2 [41],Dq sg l.2 [41] ⟨5,[],k::l.1,false⟩):=by
 have k1:=JN (g':=fun s=>(BG sg val [41] (sg.length+1) [k] s).bind fun p=>Bt sg [41] ⟨5,[],p.1,false⟩ p.2) (Ei (f:=DL sg val k) hx) (fun _ _=>rfl)
 have k2:=Cq (k:=fun ks s=>Bt sg [41] ⟨5,[],k::ks,false⟩ s) k1 hl (fun s _=>by
  rw[show([k]:Ad)=[k]++[] from rfl,a9H]
  cases BG sg val [41] (sg.length+1) [] s<;>rfl)
 have hw:Ee ⟨5,[],k::l.1,false⟩:=⟨by simp,by simp;omega⟩
 refine⟨Xr k2 hw,fun hb=> ?_⟩
 have:=(Rz (m:=[41]) hl.1 hw).2 hb
 have e1:=hl.2.2.1
 have e2:=(Ur (m:=[40]) hx).1.2.2.1
 simp only at this ⊢
 omega
def chF(sg:List Sg)(n l N:Nat)(t:Aa)(ks:Ad):Ps→PR:=HH sg l (pE sg n (.chain (l+1))) N t ks
def chO(sg:List Sg)(n l:Nat)(x y:Gs)(k:Int)(N:Nat):Prop:=
 restP sg x (pE sg (n+1) (.chain l)) y (chF sg n l N [] [k]) 0∧2*((sg.length:Int)-y.pos)+3≤N∧(y.bad=false→x.pos<y.pos)
def chN(sg:List Sg)(n l:Nat)(m:Aa)(x y:Gs)(ks:Ad)(N:Nat):Prop:=
 restP sg x (pE sg (n+1) (.chain l)) y (chF sg n l N m ks) 0∧(2*((sg.length:Int)-y.pos)+4≤N∨(isG sg y 4 m=true∧2*((sg.length:Int)-y.pos)+3≤N))∧(ks.length:Int)≤y.pos+1∧(y.bad=false→x.pos<y.pos)
theorem c0G(h1:Ag sg x (pE sg n .fin) z):Ag sg x (pE sg (n+1) (.chain 6)) z:=h1
theorem c0H(h:gsOk sg x)(hl:l≠6)(h1:Ag sg x (pE sg n (.chain (l+1))) z):chO sg n l x z.2 z.1 (2*sg.length+4):=by
 have k1:=Fr (Ei (f:=pE sg (n+1) (.chain l)) h) (g':=fun s=>(pE sg n (.chain (l+1)) s).bind fun p=>HH sg l (pE sg n (.chain (l+1))) (2*sg.length+4) [] [p.1] p.2) (fun s _=>by rw[c0t,if_neg hl])
 have k2:=Cq (k:=fun k s=>chF sg n l (2*sg.length+4) [] [k] s) k1 h1.1 (fun _ _=>rfl)
 have:=k2.1.1
 exact⟨k2,by omega,h1.2⟩
def Ej(sg:List Sg)(l:Nat)(g:Gs):Aa:=((Ck l).find? fun m=>isG sg g 4 m).getD []
theorem NJ(hs:pur g=some s):GP sg l s=Ej sg l g:=by
 unfold GP Ej
 congr 2
 funext m
 exact(Xi hs).symm
theorem chMG_t(hb:g.bad=true):Ej sg l g=[]:=by
 unfold Ej
 rw[List.find?_eq_none.2 (by intro m _;rw[a9v (Fp hb) (by omega)];simp)];rfl
theorem c0I(h:m∈Ck l):m≠[]:=by
 unfold Ck at h
 split at h<;>simp at h<;>(first|(subst h;simp)|(rcases h with rfl|rfl<;>simp))
theorem NK(h:Ej sg l g≠[]):isG sg g 4 (Ej sg l g)=true∧Ej sg l g∈Ck l:=by
 unfold Ej at h ⊢
 cases hf:(Ck l).find? fun m=>isG sg g 4 m with
 |none=>rw[hf] at h;exact(h rfl).elim
 |some m=>exact⟨by simpa using List.find?_some hf,by simpa using List.mem_of_find?_eq_some hf⟩
theorem c0J{m':Aa}(h:isG sg g 4 m=true)(h':isG sg g 4 m'=true):m=m':=by
 simp [isG] at h h';rw[←h.2,h'.2]
theorem c0K(hm:m∈Ck l)(h:isG sg g 4 m=true):Ej sg l g=m:=by
 unfold Ej
 cases hf:(Ck l).find? fun m=>isG sg g 4 m with
 |none=>exact(List.find?_eq_none.1 hf m hm (by simpa using h)).elim
 |some m'=>exact(c0J (by simpa using List.find?_some hf) h)
def enI(sg:List Sg)(n:Nat)(x y:Gs)(k:Int)(N:Nat):Prop:=
 restP sg x (pE sg (n+1) .fin) y (GQ sg (pE sg n .value) N k) 0∧(y.bad=false→(sg.length:Int)-y.pos<N)∧(y.bad=false→x.pos<y.pos)
theorem c0L(h:gsOk sg x)(h1:Ag sg x (pE sg n .base) z):enI sg n x z.2 z.1 (sg.length+1):=by
 have k1:=Cq (k:=fun k s=>GQ sg (pE sg n .value) (sg.length+1) k s) (Ei (f:=pE sg (n+1) .fin) h) h1.1 (fun _ _=>rfl)
 have:=k1.1.1
 exact⟨k1,fun _=>by omega,h1.2⟩
theorem Ux(h:enI sg n x y k N)(hb:y.bad=false):∃M,N=M+1:=by
 have h1:=h.1.1.1;have h2:=h.2.1 hb
 match N with
 |0=>omega
 |M+1=>exact⟨M,rfl⟩
theorem c0M(h:enI sg n x y k N)(hb:y.bad=true):Ag sg x (pE sg (n+1) .fin) (a,y):=
 ⟨Uv h.1 hb,fun hb2=>by simp only at hb2;rw[hb] at hb2;cases hb2⟩
theorem c0N{w:Int×Gs}(h:enI sg n x y k N)(hq:isG sg y 4 [40]=true)(hw:Ag sg y (DL sg (pE sg n .value) k) w):
 ∃M,N=M+1∧enI sg n x w.2 w.1 M:=by
 have hl:=Eg hq (by omega)
 obtain⟨M,rfl⟩:=Ux h hl.1
 obtain⟨h1,hN,hb⟩:=h
 have k1:=Fr h1 (g':=fun s=>(DL sg (pE sg n .value) k s).bind fun p=>GQ sg (pE sg n .value) M p.1 p.2) (fun s hs=>by rw[GQ,if_pos (Ms hs hq)])
 have k2:=Cq (k:=fun k s=>GQ sg (pE sg n .value) M k s) k1 hw.1 (fun _ _=>rfl)
 have e:=DG hw
 have hN2:=hN hl.1;have hb2:=hb hl.1
 exact⟨M,rfl,k2,fun hwb=>by have:=e.2.2.2 hwb;omega,fun hwb=>by have:=e.2.2.2 hwb;omega⟩
theorem c0O(hs:sgB sg)(h:enI sg n x y k N)(hp:isG sg y 4 [40]=false)(hq:isG sg y 4 [46]=true)(hn:nmG sg (Au y) 0=true):
 ∃M,N=M+1∧enI sg n x (Eh (Av (Au y) ⟨6,(pkG sg (Au y) 0).text,[k],false⟩)) (AQ (Au y)) M:=by
 have hl:=Eg hq (by omega)
 obtain⟨M,rfl⟩:=Ux h hl.1
 obtain⟨h1,hN,hb⟩:=h
 have hw:Ee ⟨6,(pkG sg (Au y) 0).text,[k],false⟩:=⟨Ut hs,by simp⟩
 have hn2:=Xj hn
 have k1:=IT (g':=fun s=>(Hg (Bd ⟨6,(pkG sg (Au y) 0).text,[k],false⟩ s)).bind fun p=>GQ sg (pE sg n .value) M p.1 p.2) h1 (by omega) hq (fun s hs ht=>by
  obtain⟨hb0,rfl⟩:=Gw.1 hs
  rw[GQ,if_neg (by simp [Gx hs hp]),if_pos (show isM sg _ [46]=true from ht)]
  have e1:DF sg (y.pos+1)=true:=by
   have:=Pl (sg:=sg) (n:=0) (g:=Au y) (Ef hn2.1)
   rw[hn] at this;simpa [Au] using this.symm
  have e2:(pkG sg (Au y) 0)=sgO sg (y.pos+1):=by rw[Mq hn2.1];simp [Au]
  rw[if_pos e1,e2])
 have hg:=a2z k1.1 hw (fun _=>by omega)
 have k2:=Cq (k:=fun k s=>GQ sg (pE sg n .value) M k s) k1 hg.1 (fun _ _=>rfl)
 have e:=DG hg
 have hN2:=hN hl.1;have hb2:=hb hl.1
 simp only[Au] at e
 exact⟨M,rfl,k2,fun hwb=>by have:=e.2.2.2 hwb;simp only[Au] at*;omega,fun hwb=>by have:=e.2.2.2 hwb;simp only[Au] at*;omega⟩
theorem c0P(h:enI sg n x y k N)(hp:isG sg y 4 [40]=false)(hq:isG sg y 4 [46]=true)(hn:nmG sg (Au y) 0=false):
 Ag sg x (pE sg (n+1) .fin) (a,Bw (Au y)):=by
 have hl:=Eg hq (by omega)
 obtain⟨M,rfl⟩:=Ux h hl.1
 obtain⟨h1,hN,hb⟩:=h
 have k1:=IT (g':=fun _=>none) h1 (by omega) hq (fun s hs ht=>by
  obtain⟨hb0,rfl⟩:=Gw.1 hs
  rw[GQ,if_neg (by simp [Gx hs hp]),if_pos (show isM sg _ [46]=true from ht)]
  have e1:DF sg (y.pos+1)=false:=by
   have:=Pl (sg:=sg) (n:=0) (g:=Au y) (Ef (by simpa [Au] using hb0))
   rw[hn] at this;simpa [Au] using this.symm
  rw[if_neg (by simp [e1])])
 exact⟨a9A k1 (fun _ _=>rfl),fun hb2=>by simp [Bw] at hb2⟩
theorem c0Q(h:enI sg n x y k N)(hb:y.bad=false)(hp:isG sg y 4 [40]=false)(hq:isG sg y 4 [46]=false):Ag sg x (pE sg (n+1) .fin) (k,y):=by
 obtain⟨M,rfl⟩:=Ux h hb
 exact⟨IR (Fr h.1 (g':=fun s=>some (k,s)) (fun s hs=>by rw[GQ,if_neg (by simp [Gx hs hp]),if_neg (by simp [Gx hs hq])])),h.2.2⟩
theorem Xs(hs:pur g=some s):(pkG sg g 0).kind=(sgO sg s.pos).kind:=by
 obtain⟨h,rfl⟩:=Gw.1 hs
 rw[Mq h];simp
theorem Xt(h:(pkG sg g 0).kind≠0):g.bad=false∧g.pos<sg.length:=by
 unfold pkG at h
 split at h
 ·simp [Gv] at h
 ·rename_i hh;simp only[Int.add_zero] at hh;exact⟨by cases hb:g.bad<;>simp_all,by omega⟩
theorem a9K(hs:sgB sg)(h:gsOk sg x)(hk:(pkG sg x 0).kind=1):Ag sg x (pE sg (n+1) .base) (FD sg x,Fq sg x):=by
 obtain⟨a,b⟩:=Xn hs h
 have e:(pur x).bind (pE sg (n+1) .base)=(pur x).bind (Cn sg):=by
  cases hp:pur x with
  |none=>rfl
  |some s=>simp only[De];rw[pE,if_pos (by rw[←Xs hp];exact hk)]
 obtain⟨a1,a2,a3,a4,a5⟩:=a
 exact⟨⟨a1,a2,a3,by rw[e];exact a4,by rw[e];exact a5⟩,b⟩
theorem c0R(hs:sgB sg)(h:gsOk sg x)(hk:(pkG sg x 0).kind=k)(hk2:k=2∨k=3):Ag sg x (pE sg (n+1) .base) (AQ x,FT sg x k false):=by
 have hl:=Xt (sg:=sg) (g:=x) (by rw[hk];omega)
 obtain⟨a,b⟩:=Uu (k:=k) (b:=false) hs h (fun _=>hl.2)
 have e:(pur x).bind (pE sg (n+1) .base)=(pur x).bind (Hh sg k false):=by
  cases hp:pur x with
  |none=>rfl
  |some s=>
   simp only[De]
   have:=Xs (sg:=sg) hp
   rcases hk2 with rfl|rfl
   ·rw[pE,if_neg (by omega),if_pos (by omega)]
   ·rw[pE,if_neg (by omega),if_neg (by omega),if_pos (by omega)]
 obtain⟨a1,a2,a3,a4,a5⟩:=a
 exact⟨⟨a1,a2,a3,by rw[e];exact a4,by rw[e];exact a5⟩,b⟩
theorem Uy(hs:pur x=some s)(h1:(pkG sg x 0).kind≠1)(h2:(pkG sg x 0).kind≠2)(h3:(pkG sg x 0).kind≠3):pE sg (n+1) .base s=
 if isM sg s [91] then(BG sg (pE sg n .value) [93] (sg.length+1) [] (adv s)).bind fun p=>Bt sg [93] ⟨4,[],p.1,false⟩ p.2
 else if isM sg s [40]&&NE sg s then(BG sg (Cn sg) [41] (sg.length+1) [] (adv s)).bind fun p=>(BS sg [41] p.2).bind fun s1=>(BS sg [61,62] s1).bind fun s2=>(pE sg n .pick s2).bind fun q=>Bd ⟨9,[],p.1++[q.1],false⟩ q.2
 else if isM sg s [40] then(pE sg n .value (adv s)).bind fun p=>Bt sg [41] ⟨11,[],[p.1],false⟩ p.2
 else none:=by
 have:=Xs (sg:=sg) hs
 rw[pE,if_neg (by omega),if_neg (by omega),if_neg (by omega)]
theorem c0S{l:Ad×Gs}(h:gsOk sg x)(h1:(pkG sg x 0).kind≠1)(h2:(pkG sg x 0).kind≠2)(h3:(pkG sg x 0).kind≠3)(hq:isG sg x 4 [91]=true)
 (hl:BU sg (Au x) (BG sg (pE sg n .value) [93] (sg.length+1) []) l) (hll:l.1.length≤3001):
 Ag sg x (pE sg (n+1) .base) (Dr sg l.2 [93],Dq sg l.2 [93] ⟨4,[],l.1,false⟩):=by
 have k1:=IT (g':=fun s=>(BG sg (pE sg n .value) [93] (sg.length+1) [] s).bind fun p=>Bt sg [93] ⟨4,[],p.1,false⟩ p.2) (Ei (f:=pE sg (n+1) .base) h) (by omega) hq
  (fun s hs ht=>by rw[Uy hs h1 h2 h3,if_pos (show isM sg s [91]=true from ht)])
 have k2:=Cq (k:=fun ks s=>Bt sg [93] ⟨4,[],ks,false⟩ s) k1 hl (fun _ _=>rfl)
 have hw:Ee ⟨4,[],l.1,false⟩:=⟨by simp,by simp only;omega⟩
 refine⟨Xr k2 hw,fun hb=> ?_⟩
 have:=(Rz (m:=[93]) hl.1 hw).2 hb
 have e1:=hl.2.2.1
 simp only[Au] at this e1 ⊢
 omega
theorem c0T(h:gsOk sg x)(h1:(pkG sg x 0).kind≠1)(h2:(pkG sg x 0).kind≠2)(h3:(pkG sg x 0).kind≠3)(hn:isG sg x 4 [91]=false)(hq:isG sg x 4 [40]=true)
 (ha:∀s,pur x=some s→NE sg s=false) (hz:Ag sg (Au x) (pE sg n .value) z):
 Ag sg x (pE sg (n+1) .base) (Dr sg z.2 [41],Dq sg z.2 [41] ⟨11,[],[z.1],false⟩):=by
 have k1:=IT (g':=fun s=>(pE sg n .value s).bind fun p=>Bt sg [41] ⟨11,[],[p.1],false⟩ p.2) (Ei (f:=pE sg (n+1) .base) h) (by omega) hq
  (fun s hs ht=>by rw[Uy hs h1 h2 h3,if_neg (by simp [Gx hs hn]),if_neg (by simp [ha s hs]),if_pos (show isM sg s [40]=true from ht)])
 have k2:=Cq (k:=fun k s=>Bt sg [41] ⟨11,[],[k],false⟩ s) k1 hz.1 (fun _ _=>rfl)
 have hw:Ee ⟨11,[],[z.1],false⟩:=⟨by simp,by simp⟩
 refine⟨Xr k2 hw,fun hb=> ?_⟩
 have:=(Rz (m:=[41]) hz.1.1 hw).2 hb
 have e1:=hz.1.2.2.1
 simp only[Au] at this e1 ⊢
 omega
theorem c0U(h:gsOk sg x)(h1:(pkG sg x 0).kind≠1)(h2:(pkG sg x 0).kind≠2)(h3:(pkG sg x 0).kind≠3)(hn:isG sg x 4 [91]=false)(hq:isG sg x 4 [40]=false):
 Ag sg x (pE sg (n+1) .base) (a,Bw x):=
 ⟨a9A (Ei h) (fun s hs=>by rw[Uy hs h1 h2 h3,if_neg (by simp [Gx hs hn]),if_neg (by simp [Gx hs hq]),if_neg (by simp [Gx hs hq])]),fun hb=>by simp [Bw] at hb⟩
def fnR(sg:List Sg)(n:Nat)(s:Ps):PR:=(BS sg [40] s).bind fun s0=>(BG sg (Cn sg) [41] (sg.length+1) [] s0).bind fun p=>(BS sg [41] p.2).bind fun s1=>(BS sg [61,62] s1).bind fun s2=>(pE sg n .pick s2).bind fun q=>Bd ⟨9,[],p.1++[q.1],false⟩ q.2
theorem c0V{l:Ad×Gs}(h:gsOk sg x)(hl:BU sg (Ax sg x [40]) (BG sg (Cn sg) [41] (sg.length+1) []) l)(hll:l.1.length≤3001)
 (hz:Ag sg (Ax sg (Ax sg l.2 [41]) [61,62]) (pE sg n .pick) z):Ag sg x (fnR sg n) (AQ z.2,Av z.2 ⟨9,[],l.1++[z.1],false⟩):=by
 have k1:=JN (g':=fun s0=>(BG sg (Cn sg) [41] (sg.length+1) [] s0).bind fun p=>(BS sg [41] p.2).bind fun s1=>(BS sg [61,62] s1).bind fun s2=>(pE sg n .pick s2).bind fun q=>Bd ⟨9,[],p.1++[q.1],false⟩ q.2) (Ei (f:=fnR sg n) h) (fun _ _=>rfl)
 have k2:=Cq (k:=fun ks s=>(BS sg [41] s).bind fun s1=>(BS sg [61,62] s1).bind fun s2=>(pE sg n .pick s2).bind fun q=>Bd ⟨9,[],ks++[q.1],false⟩ q.2) k1 hl (fun _ _=>rfl)
 have k3:=JN (g':=fun s1=>(BS sg [61,62] s1).bind fun s2=>(pE sg n .pick s2).bind fun q=>Bd ⟨9,[],l.1++[q.1],false⟩ q.2) k2 (fun _ _=>rfl)
 have k4:=JN (g':=fun s2=>(pE sg n .pick s2).bind fun q=>Bd ⟨9,[],l.1++[q.1],false⟩ q.2) k3 (fun _ _=>rfl)
 have k5:=Cq (k:=fun k s=>Bd ⟨9,[],l.1++[k],false⟩ s) k4 hz.1 (fun _ _=>rfl)
 have hw:Ee ⟨9,[],l.1++[z.1],false⟩:=⟨by simp,by simp;omega⟩
 refine⟨Xq k5 hw,fun hb=> ?_⟩
 obtain⟨d1,d2,d3⟩:= @Mt z.2 ⟨9,[],l.1++[z.1],false⟩
 have e1:=DG hz
 have e2:=k4.2.2.1
 have:=e1.2.2.2 (d3 hb)
 simp only[d2];omega
end Go.My
end
section
namespace Go.My
open Go.Eng Go.Proofs
variable {G:GInv}
variable {N:Nat}{ks:Ad}{m:Aa}{one:Ps→PR}{s:ST}{sg:List Sg}{x y:Gs}
abbrev iG {α:Type} (i:Int×Int×Bool×List Nd×α×Nat):Gs:=⟨i.1,i.2.1,i.2.2.1,i.2.2.2.1⟩
def vP(r n:Nat)(s:ST)(g:Gs):Prop:=(rOk s g∧g.deep≤20)∧12*((s.sg.length:Int)-g.pos)+r≤n
def wP(r n:Nat)(s:ST)(g:Gs):Prop:=(rOk s g∧(g.bad=false→g.deep≤20))∧12*((s.sg.length:Int)-g.pos)+r≤n
theorem RE{I:Nat→Prop}(h:∃M,N=M+1∧I M):I (N-1)∧N-1<N:=by
 obtain⟨M,rfl,h⟩:=h
 exact⟨by simpa using h,by omega⟩
theorem EL{g:Gs}(h:isG sg g 4 m=false):AA sg g m=g:=by simp [AA,h]
theorem FW{g:Gs}(h:isG sg g 4 m=true):AA sg g m=Au g:=by simp [AA,h]
theorem c0W{α:Type}{f:Ps→Option (α×Ps)}{y:α×Gs}(h:Ag sg x f y)(hb:y.2.bad=false):x.bad=false:=((DG h).2.2.2 hb).1
abbrev RF (sg:List Sg) (one:Ps→PR) (m:Aa) (x y:Gs) (ks:Ad) (N:Nat):Prop:=Lr sg one m x y ks N∧(y.bad=false→x.bad=false)
theorem c0X{z:Int×Gs}(h:RF sg one m x y ks N)(hz:Ag sg y one z)(hq:isG sg y 4 m=false)(hc:isG sg z.2 4 [44]=false):
 BU sg x (BG sg one m (sg.length+1) []) (ks++[z.1],AA sg z.2 [44]):=by rw[EL hc];exact c0D h.1 hq hz hc
theorem c0Y{z:Int×Gs}(h:RF sg one m x y ks N)(hz:Ag sg y one z)(hq:isG sg y 4 m=false)(hc:isG sg z.2 4 [44]=true):
 RF sg one m x (AA sg z.2 [44]) (ks++[z.1]) (N-1)∧N-1<N:=by
 rw[FW hc]
 obtain⟨a,b⟩:=RE (c0E h.1 hq hz hc)
 exact⟨⟨a,fun hb=>h.2 (c0W hz hb)⟩,b⟩
theorem Ic(g:Gs):(⟨g.pos,g.deep,g.bad,g.nodes⟩:Gs)=g:=rfl
theorem c0Z(hr:sgB s.sg)(h:RF s.sg one m x y ks N):ks.length≤3000:=by
 have h1:=h.1.2.2;have h2:=h.1.1.1.1.2;have h3:=hr.1;omega
theorem c1a{n:Nat}(hr:sgB s.sg)(h:RF s.sg one m x y ks N)(hb:y.bad=false)(hd:x.bad=false→x.deep≤20)(hn:12*((s.sg.length:Int)-x.pos)+11≤n):vP 11 n s y:=by
 have h1:=h.1.1;have h2:=hd (h.2 hb);have h3:=h1.2.1;have h4:=h1.2.2.1
 exact⟨⟨⟨hr,h1.1⟩,by omega⟩,by omega⟩
theorem c1b(hr:sgB s.sg)(h:RF s.sg one m x y ks N):rOk s y:=⟨hr,h.1.1.1⟩
theorem c1c{k:Int}{l:Ad×Gs}(hx:gsOk sg x)(h:BU sg (Ax sg x [40]) (BG sg one [41] (sg.length+1) []) l∧l.1.length≤3001):
 Ag sg x (DL sg one k) (Dr sg l.2 [41],Dq sg l.2 [41] ⟨5,[],[k]++l.1,false⟩):=c0F hx h.1 h.2
attribute [local irreducible] pE BG DL fnR Ag BU gsOk Ax Dq Av Eh FT AA Fq FD AQ Dr pkG isG nmG
end Go.My
end
section
namespace Go.My
open Go.Eng Go.Proofs
variable {G:GInv}
variable {x:Gs}
theorem Uz{sg:List Sg}{f:Ps→PR}{y:Int×Gs}(h:Ag sg x f y)(hb:x.bad=false→x.deep≤20):y.2.bad=false→y.2.deep≤20:=fun hy=>by
 have:=DG h;have h2:=hb (this.2.2.2 hy).1;omega
theorem JO{sg:List Sg}{m:Aa}(h:gsOk sg x):gsOk sg (Ax sg x m)∧(Ax sg x m).deep=x.deep∧x.pos≤(Ax sg x m).pos∧((Ax sg x m).bad=false→x.bad=false):=by
 obtain⟨a1,a2,a3,a4⟩:=(Ur (m:=m) h).1
 refine⟨a1,a2,a3,fun hb=> ?_⟩
 cases hx:x.bad with
 |false=>rfl
 |true=>rw[Fp hx,Ef hb] at a4;cases a4
theorem c1d{s:ST}{n:Nat}{one:Ps→PR}{l:Ad×Gs}(h:rOk s x)(hd:x.deep≤20)(hq:isG s.sg x 4 [40]=true)(hn:12*((s.sg.length:Int)-x.pos)≤n+2)(hl:BU s.sg (Ax s.sg x [40]) (BG s.sg one [41] (s.sg.length+1) []) l∧l.1.length≤3001):
 vP 10 n s (Ax s.sg (Ax s.sg l.2 [41]) [61,62]):=by
 have a:=JO (m:=[40]) h.2;have b:=JO (m:=[41]) hl.1.1;have c:=JO (m:=[61,62]) b.1
 have e1:=hl.1.2.1;have e2:=hl.1.2.2.1
 have e3:(Ax s.sg x [40]).pos=x.pos+1:=by rw[Ax,if_pos hq];rfl
 exact⟨⟨⟨h.1,c.1⟩,by omega⟩,by omega⟩
theorem GS{s:ST}{y:Gs}{f:Ps→PR}{z:Int×Gs}(h:rOk s x)(hz:Ag s.sg y f z):rOk s z.2:=⟨h.1,HJ hz⟩
theorem c1e{l:Nat}:(Ck l).length≤2:=by
 unfold Ck;split<;>simp
attribute [local irreducible] pE BG DL fnR Ag BU gsOk Ax Dq Av Eh FT AA Fq FD AQ Dr pkG isG nmG
end Go.My
end
section
namespace Go.My
open Go.Eng Go.Proofs
variable {G:GInv}
variable {n:Nat}{s:ST}{x:Gs}
theorem a9L{r:Nat}{k:Int}{m:Aa}(hq:isG s.sg x k m=true)(hk:k≠0)(h1:rOk s x)(h2:x.bad=false→x.deep≤20)(h3:12*((s.sg.length:Int)-x.pos)+1≤(n+1:Nat))(hr:r≤12):wP r n s (Au x)∧vP r n s (Au x):=by
 have hl:=Eg hq hk
 have ha:=Ib h1.2 hl.2
 have hd:=h2 hl.1
 have e:(Au x).pos=x.pos+1:=rfl
 have e2:(Au x).deep=x.deep:=rfl
 have a:12*((s.sg.length:Int)-(Au x).pos)+r≤n:=by omega
 exact⟨⟨⟨⟨h1.1,ha⟩,fun _=>by omega⟩,a⟩,⟨⟨⟨h1.1,ha⟩,by omega⟩,a⟩⟩
abbrev enJ (sg:List Sg) (n:Nat) (x y:Gs) (k:Int) (N:Nat):Prop:=enI sg n x y k N∧(y.bad=false→y.deep≤20)
theorem c1f{z:Int×Gs}(h1:rOk s x)(h2:x.bad=false→x.deep≤20)(hz:Ag s.sg x (pE s.sg n .base) z):enJ s.sg n x z.2 z.1 (s.sg.length+1):=⟨c0L h1.2 hz,Uz hz h2⟩
theorem c1g{sg:List Sg}{y:Gs}{k:Int}{N:Nat}{w:Int×Gs}(h:enJ sg n x y k N)(hw:Ag sg y (DL sg (pE sg n .value) k) w)(hq:isG sg y 4 [40]=true):enJ sg n x w.2 w.1 (N-1)∧N-1<N:=by
 obtain⟨a,b⟩:=RE (c0N h.1 hq hw)
 exact⟨⟨a,Uz hw h.2⟩,b⟩
theorem c1h(h1:rOk s x)(h2:x.bad=false→x.deep≤20)(h3:12*((s.sg.length:Int)-x.pos)+2≤(n+1:Nat)):wP 1 n s x:=⟨⟨h1,h2⟩,by omega⟩
attribute [local irreducible] pE BG DL fnR Ag BU gsOk Ax Dq Av Eh FT AA Fq FD AQ Dr pkG isG nmG
end Go.My
end
section
namespace Go.My
open Go.Eng Go.Proofs
variable {G:GInv}
variable {N n:Nat}{ks:Ad}{s:ST}{x y:Gs}{z:Int×Gs}
def c1i(sg:List Sg)(n l:Nat)(m:Aa)(x y:Gs)(ks:Ad)(N M:Nat):Prop:=(chN sg n l m x y ks N∧N≤M)∧(y.bad=false→y.deep≤20)
theorem c1j{l:Int}(hl:l=6)(h:Ag s.sg x (pE s.sg n .fin) z):Ag s.sg x (pE s.sg (n+1) (.chain l.toNat)) z:=by subst hl;exact c0G h
theorem ch_ks{l:Nat}{m:Aa}{M:Nat}(hs:sgB s.sg)(h:c1i s.sg n l m x y ks N M):ks.length≤3001:=by
 have:=h.1.1.2.2.1;have:=h.1.1.1.1.1.2;have:=hs.1;omega
abbrev pkX (x:Gs):Gs:=gDp (if x.deep=20 then Bw x else x) 1
theorem a9M(h1:rOk s x)(h2:x.deep≤20)(h3:12*((s.sg.length:Int)-x.pos)+10≤(n+1:Nat)):wP (9-(0:Int).toNat) n s (pkX x)∧rOk s (pkX x):=by
 obtain⟨p1,p2,p3⟩:= @Uw x
 have hok:gsOk s.sg (pkX x):=by
  unfold pkX;split
  ·exact⟨h1.2.1,by simp only[gDp,Bw];have:=h1.2.2.1;omega,h1.2.2.2⟩
  ·exact⟨h1.2.1,by simp only[gDp];have:=h1.2.2.1;omega,h1.2.2.2⟩
 exact⟨⟨⟨⟨h1.1,hok⟩,fun hb=>by have:=p3 hb;simp only[pkX] at*;omega⟩,by simp only[pkX] at*;simp;omega⟩,h1.1,hok⟩
theorem a9N(h1:rOk s x)(h2:x.deep≤20)(h3:12*((s.sg.length:Int)-x.pos)+10≤(n+1:Nat))(hz:Ag s.sg (pkX x) (pE s.sg n (.chain 0)) z)(hq:isG s.sg z.2 4 [63]=true):vP 10 n s (AA s.sg z.2 [63]):=by
 rw[FW hq]
 have hl:=Eg hq (by omega)
 have e:=DG hz
 obtain⟨p1,p2,p3⟩:= @Uw x
 have e1:(Au z.2).pos=z.2.pos+1:=rfl
 have e2:(Au z.2).deep=z.2.deep:=rfl
 have e3:=p3 (e.2.2.2 hl.1).1
 simp only[pkX] at*
 exact⟨⟨⟨h1.1,Ib (HJ hz) hl.2⟩,by omega⟩,by omega⟩
theorem c1k{a:Int×Gs}(h1:rOk s x)(h2:x.deep≤20)(h3:12*((s.sg.length:Int)-x.pos)+10≤(n+1:Nat))(hz:Ag s.sg (pkX x) (pE s.sg n (.chain 0)) z)(hq:isG s.sg z.2 4 [63]=true)
 (ha:Ag s.sg (AA s.sg z.2 [63]) (pE s.sg n .pick) a):vP 10 n s (Ax s.sg a.2 [58]):=by
 have hv:=a9N h1 h2 h3 hz hq
 have e:=DG ha
 have t:=JO (m:=[58]) (HJ ha)
 have:=hv.2;have:=hv.1.2
 exact⟨⟨⟨h1.1,t.1⟩,by omega⟩,by omega⟩
theorem c1l{a b:Int×Gs}(h1:rOk s x)(h2:x.deep≤20)(hz:Ag s.sg (pkX x) (pE s.sg n (.chain 0)) z)(hq:isG s.sg z.2 4 [63]=true)
 (ha:Ag s.sg (AA s.sg z.2 [63]) (pE s.sg n .pick) a) (hb:Ag s.sg (Ax s.sg a.2 [58]) (pE s.sg n .pick) b):
 Ag s.sg x (pE s.sg (n+1) .pick) (AQ b.2,gDp (Av b.2 ⟨8,[],[z.1,a.1,b.1],false⟩) (-1)):=by
 rw[FW hq] at ha
 exact c0w h1.2 h2 hz hq ha hb
theorem c1m(h1:rOk s x)(h2:x.deep≤20)(hz:Ag s.sg (pkX x) (pE s.sg n (.chain 0)) z)(hq:isG s.sg z.2 4 [63]=false):Ag s.sg x (pE s.sg (n+1) .pick) (z.1,gDp (AA s.sg z.2 [63]) (-1)):=by
 rw[EL hq];exact c0v h1.2 h2 hz hq
theorem c1n(h1:rOk s x)(hz:Ag s.sg (pkX x) (pE s.sg n (.chain 0)) z)(hq:isG s.sg z.2 4 [63]=false):0≤(AA s.sg z.2 [63]).deep∧(AA s.sg z.2 [63]).deep≤21:=by
 rw[EL hq];exact(HJ hz).2.1
theorem a2C{g:Gs}{x:Nd}:(Av g x).deep=g.deep:=Mt.1
theorem c1o{α:Type}{sg:List Sg}{f:Ps→Option (α×Ps)}{y:α×Gs}(h:Ag sg x f y):0≤y.2.deep∧y.2.deep≤21:=(HJ h).2.1
theorem c1p(h1:rOk s x)(h2:x.deep≤20)(h3:12*((s.sg.length:Int)-x.pos)+11≤(n+1:Nat)):vP 10 n s x:=⟨⟨h1,h2⟩,by omega⟩
def vaJ(sg:List Sg)(n:Nat)(x y:Gs)(ks:Ad)(N:Nat):Prop:=NI sg n x y ks N∧y.deep≤20
theorem a9O{sg:List Sg}(h:NI sg n x y ks N∧y.deep≤20):vaJ sg n x y ks N:=h
theorem c1q(h1:rOk s x)(hz:Ag s.sg x (pE s.sg n .pick) z)(hq:isG s.sg z.2 4 [46,46]=false):Ag s.sg x (pE s.sg (n+1) .value) z:=c0x h1.2 hz hq
theorem c1r(h1:rOk s x)(h2:x.deep≤20)(hz:Ag s.sg x (pE s.sg n .pick) z)(hq:isG s.sg z.2 4 [46,46]=true):vaJ s.sg n x z.2 [z.1] (s.sg.length+1):=a9O ⟨c0y h1.2 hz hq,by have:=(DG hz).1;omega⟩
theorem a2D(h1:rOk s x)(h:vaJ s.sg n x y ks N):rOk s y:=⟨h1.1,h.1.1.1⟩
theorem c1s(hs:sgB s.sg)(h:vaJ s.sg n x y ks N):ks.length≤3001:=by
 have:=h.1.2.2.1;have:=h.1.1.1.1.2;have:=hs.1;omega
theorem c1t(h1:rOk s x)(h:vaJ s.sg n x y ks N)(hq:isG s.sg y 4 [46,46]=false):Ag s.sg x (pE s.sg (n+1) .value) (AQ (AA s.sg y [46,46]),Av (AA s.sg y [46,46]) ⟨10,[],ks,false⟩):=by
 rw[EL hq];exact c0z h.1 hq h1.1
theorem c1u(h1:rOk s x)(h:vaJ s.sg n x y ks N)(hq:isG s.sg y 4 [46,46]=false):rOk s (AA s.sg y [46,46]):=by
 rw[EL hq];exact a2D h1 h
attribute [local irreducible] pE BG DL fnR Ag BU gsOk Ax Dq Av Eh FT AA Fq FD AQ Dr pkG isG nmG
end Go.My
end
section
namespace Go.My
open Go.Eng
variable {N n:Nat}{b:Bool}{c q z:Int×Gs}{ks:Ad}{m:Aa}{ms:List (Int×Int)}{one:Bool→Ps→PR}{s:Ps}{sg:List Sg}{x y:Gs}
theorem Gz{k:Int}{t:Aa}(ht:t.length≤3000)(hk:ks.length≤4000):Ee ⟨k,t,ks,b⟩:=⟨ht,hk⟩
theorem NL{α:Type}{f g:Ps→Option (α×Ps)}{y:α×Gs}(h:Ag sg x g y)(e:∀s,pur x=some s→f s=g s):Ag sg x f y:=by
 have e2:(pur x).bind f=(pur x).bind g:=by
  cases hp:pur x with
  |none=>rfl
  |some s=>exact e s hp
 obtain⟨⟨a1,a2,a3,a4,a5⟩,b⟩:=h
 exact⟨⟨a1,a2,a3,by rw[e2];exact a4,by rw[e2];exact a5⟩,b⟩
theorem Po{α:Type}{k:Int}{f g:Ps→Option (α×Ps)}{y:α×Gs}(hx:gsOk sg x)(hk:k≠0)(hm:isG sg x k m=true)(h:BU sg (Au x) g y)
 (e:∀s,pur x=some s→isT sg s k m=true→f s=g (adv s)):Ag sg x f y:=by
 have k1:=IT (g':=g) (Ei (f:=f) hx) hk hm e
 have k2:=Cq (k:=fun a s=>some (a,s)) k1 h (fun s _=>by cases g s<;>rfl)
 refine⟨IR k2,fun _=> ?_⟩
 have:=h.2.2.1
 simp only[Au] at this;omega
theorem Pp{f:Ps→PR}{w:Nd}(h:restP sg x f y (Bt sg m w) 0)(hw:Ee w):Ag sg x f (Dr sg y m,Dq sg y m w):=by
 refine⟨Xr h hw,fun hb=> ?_⟩
 have:=(Rz (m:=m) h.1 hw).2 hb
 have:=h.2.2.1
 simp only at*;omega
theorem Xu{f:Ps→PR}{w:Nd}(h:restP sg x f y (Bd w) 0)(hw:Ee w)(hp:y.bad=false→x.pos<y.pos):Ag sg x f (AQ y,Av y w):=by
 obtain⟨d1,d2,d3⟩:= @Mt y w
 exact⟨Xq h hw,fun hb=>by simp only[d2];exact hp (d3 hb)⟩
theorem a9P(h:gsOk sg x):restP sg x (Eq sg b) (Dx sg x) (fun s=>if isM sg s [61] then(CE sg (adv s)).bind fun q=>Bt sg [59] ⟨12,DX sg x,[q.1],b⟩ q.2 else Bt sg [59] ⟨12,DX sg x,[],b⟩ s) 0:=
 Cq (k:=fun t s=>if isM sg s [61] then(CE sg (adv s)).bind fun q=>Bt sg [59] ⟨12,t,[q.1],b⟩ q.2 else Bt sg [59] ⟨12,t,[],b⟩ s) (Ei h) (RB h).1 (fun _ _=>rfl)
theorem Mu(hs:sgB sg):(DX sg x).length≤3000:=by
 unfold DX;split
 ·exact Ut hs
 ·simp
theorem c1v(hs:sgB sg)(h:gsOk sg x)(hq:isG sg (Dx sg x) 4 [61]=false):
 Ag sg x (Eq sg b) (Dr sg (Dx sg x) [59],Dq sg (Dx sg x) [59] ⟨12,DX sg x,[],b⟩):=
 Pp (Fr (a9P h) (fun s hs=>by rw[if_neg (by simp [Gx hs hq])])) (Gz (Mu hs) (by simp))
theorem c1w(hs:sgB sg)(h:gsOk sg x)(hq:isG sg (Dx sg x) 4 [61]=true)(hz:Ag sg (Au (Dx sg x)) (CE sg) z):
 Ag sg x (Eq sg b) (Dr sg z.2 [59],Dq sg z.2 [59] ⟨12,DX sg x,[z.1],b⟩):=by
 have k1:=IT (g':=fun s=>(CE sg s).bind fun q=>Bt sg [59] ⟨12,DX sg x,[q.1],b⟩ q.2) (a9P h) (by omega) hq (fun s hs ht=>by rw[if_pos (show isM sg s [61]=true from ht)])
 have k2:=Cq (k:=fun k s=>Bt sg [59] ⟨12,DX sg x,[k],b⟩ s) k1 hz.1 (fun _ _=>rfl)
 exact Pp k2 (Gz (Mu hs) (by simp))
def IU(sg:List Sg)(b:Bool)(s:Ps):PR:=if isM sg s [59] then Bt sg [59] ⟨15,[],[],b⟩ s else(CE sg s).bind fun p=>Bt sg [59] ⟨15,[],[p.1],b⟩ p.2
theorem c1x(h:gsOk sg x)(hq:isG sg x 4 [59]=true):Ag sg x (IU sg b) (Dr sg x [59],Dq sg x [59] ⟨15,[],[],b⟩):=
 Pp (Fr (Ei h) (fun s hs=>by rw[IU,if_pos (Ms hs hq)])) (Gz (by simp) (by simp))
theorem c1y(h:gsOk sg x)(hq:isG sg x 4 [59]=false)(hz:Ag sg x (CE sg) z):Ag sg x (IU sg b) (Dr sg z.2 [59],Dq sg z.2 [59] ⟨15,[],[z.1],b⟩):=by
 have k1:=Fr (Ei (f:=IU sg b) h) (g':=fun s=>(CE sg s).bind fun p=>Bt sg [59] ⟨15,[],[p.1],b⟩ p.2) (fun s hs=>by rw[IU,if_neg (by simp [Gx hs hq])])
 have k2:=Cq (k:=fun k s=>Bt sg [59] ⟨15,[],[k],b⟩ s) k1 hz.1 (fun _ _=>rfl)
 exact Pp k2 (Gz (by simp) (by simp))
theorem c1z(h:gsOk sg x)(hz:Ag sg (Ax sg x [40]) (CE sg) z):BU sg x (Ez sg) (z.1,Ax sg z.2 [41]):=by
 have k1:=JN (g':=fun s1=>(CE sg s1).bind fun p=>(BS sg [41] p.2).map fun s2=>(p.1,s2)) (Ei (f:=Ez sg) h) (fun _ _=>rfl)
 have k2:=Cq (k:=fun k s=>(BS sg [41] s).map fun s2=>(k,s2)) k1 hz.1 (fun _ _=>rfl)
 have k3:=JN (g':=fun s=>some (z.1,s)) k2 (fun s _=>by cases BS sg [41] s<;>rfl)
 exact IR k3
theorem c1A(h:isM sg s m=true):Dp sg one m (N+1) ks s=some (ks,s):=by rw[Dp,if_pos h]
theorem c1B(h:isM sg s m=false):Dp sg one m (N+1) ks s=(one ((sgO sg s.pos).blank&&decide (0<ks.length)) s).bind fun p=>Dp sg one m N (ks++[p.1]) p.2:=by rw[Dp,if_neg (by simp [h])]
def NM(sg:List Sg)(one:Bool→Ps→PR)(m:Aa)(x y:Gs)(ks:Ad)(N:Nat):Prop:=
 restP sg x (Dp sg one m (sg.length+1) []) y (Dp sg one m N ks) 0∧(y.bad=false→(sg.length:Int)-y.pos<N)∧(ks.length:Int)≤y.pos+1∧(y.bad=false→(ks.length:Int)≤y.pos)
theorem a9Q(h:gsOk sg x):NM sg one m x x [] (sg.length+1):=by
 have:=h.1
 exact⟨Ei h,fun _=>by omega,by simp;omega,fun _=>by simp;omega⟩
theorem a9R(h:NM sg one m x y ks N)(hb:y.bad=true):BU sg x (Dp sg one m (sg.length+1) []) (ks,y):=Uv h.1 hb
theorem a9S(h:NM sg one m x y ks N)(hb:y.bad=false):∃M,N=M+1:=by
 have h1:=h.1.1.1;have h2:=h.2.1 hb
 match N with
 |0=>omega
 |M+1=>exact⟨M,rfl⟩
theorem a9T(h:NM sg one m x y ks N)(hq:isG sg y 4 m=true):BU sg x (Dp sg one m (sg.length+1) []) (ks,y):=by
 obtain⟨M,rfl⟩:=a9S h (Eg hq (by omega)).1
 exact IR (Fr h.1 (g':=fun s=>some (ks,s)) (fun s hs=>c1A (Ms hs hq)))
theorem a9U(h:NM sg one m x y ks N)(hb:y.bad=false)(hq:isG sg y 4 m=false)
 (hz:Ag sg y (one ((pkG sg y 0).blank&&decide (0<ks.length))) z):∃M,N=M+1∧NM sg one m x z.2 (ks++[z.1]) M:=by
 obtain⟨M,rfl⟩:=a9S h hb
 obtain⟨h1,h2,h3,h4⟩:=h
 have k1:=Fr h1 (g':=fun s=>(one ((pkG sg y 0).blank&&decide (0<ks.length)) s).bind fun p=>Dp sg one m M (ks++[p.1]) p.2) (fun s hs=>by
  rw[c1B (Gx hs hq)]
  obtain⟨_,rfl⟩:=Gw.1 hs
  rw[Mq hb];simp)
 have k2:=Cq (k:=fun k s=>Dp sg one m M (ks++[k]) s) k1 hz.1 (fun _ _=>rfl)
 have e:=DG hz
 have:=h2 hb;have:=h4 hb
 exact⟨M,rfl,k2,fun hw=>by have:=e.2.2.2 hw;omega,by simp;omega,fun hw=>by have:=e.2.2.2 hw;simp;omega⟩
theorem c1C(h:gsOk sg x)(hd:x.deep≤20):restP sg x (Cf sg one) (Ax sg (gDp (if x.deep=20 then Bw x else x) 1) [123])
 (fun s1=>(Dp sg one [125] (sg.length+1) [] s1).bind fun p=>(Bt sg [125] ⟨18,[],p.1,false⟩ p.2).map fun q=>(q.1,dp q.2 (-1))) 1:=by
 have k0:restP sg x (Cf sg one) (gDp (if x.deep=20 then Bw x else x) 1) (fun s=>(BS sg [123] s).bind fun s1=>(Dp sg one [125] (sg.length+1) [] s1).bind fun p=>(Bt sg [125] ⟨18,[],p.1,false⟩ p.2).map fun q=>(q.1,dp q.2 (-1))) 1:=by
  split
  ·rename_i h20
   have h2:=a9B (d:=0) (g':=Cf sg one) (Ei (f:=Cf sg one) h) (fun s hs=>by
    obtain⟨_,rfl⟩:=Gw.1 hs
    rw[Cf,if_pos (by simp only;omega)])
   refine Pn (d:=0) h2 ⟨by simp only[Bw];omega,by simp only[Bw];omega⟩ (fun s hs=> ?_)
   rw[Mr] at hs;cases hs
  ·rename_i h20
   refine Pn (d:=0) (Ei h) ⟨by have:=h.2.1.1;omega,by omega⟩ (fun s hs=> ?_)
   obtain⟨_,rfl⟩:=Gw.1 hs
   rw[Cf,if_neg (by simp only;omega)]
 exact JN k0 (fun _ _=>rfl)
def ifR(sg:List Sg)(n:Nat)(b:Bool)(s:Ps):PR:=(Ez sg s).bind fun p=>(Cf sg (stR sg n) p.2).bind fun q=>
 if isW sg q.2 [101,108,115,101] then(Cf sg (stR sg n) (adv q.2)).bind fun r=>Bd ⟨16,[],[p.1,q.1,r.1],b⟩ r.2 else Bd ⟨16,[],[p.1,q.1],b⟩ q.2
theorem a9V(h:gsOk sg x)(hc:BU sg x (Ez sg) c)(hq:Ag sg c.2 (Cf sg (stR sg n)) q):
 restP sg x (ifR sg n b) q.2 (fun s=>if isW sg s [101,108,115,101] then(Cf sg (stR sg n) (adv s)).bind fun r=>Bd ⟨16,[],[c.1,q.1,r.1],b⟩ r.2 else Bd ⟨16,[],[c.1,q.1],b⟩ s) 0:=by
 have k1:=Cq (k:=fun a s=>(Cf sg (stR sg n) s).bind fun q=>if isW sg q.2 [101,108,115,101] then(Cf sg (stR sg n) (adv q.2)).bind fun r=>Bd ⟨16,[],[a,q.1,r.1],b⟩ r.2 else Bd ⟨16,[],[a,q.1],b⟩ q.2) (Ei (f:=ifR sg n b) h) hc (fun _ _=>rfl)
 exact Cq (k:=fun k s=>if isW sg s [101,108,115,101] then(Cf sg (stR sg n) (adv s)).bind fun r=>Bd ⟨16,[],[c.1,k,r.1],b⟩ r.2 else Bd ⟨16,[],[c.1,k],b⟩ s) k1 hq.1 (fun _ _=>rfl)
theorem c1D(h:gsOk sg x)(hc:BU sg x (Ez sg) c)(hq:Ag sg c.2 (Cf sg (stR sg n)) q)(he:isG sg q.2 1 [101,108,115,101]=false):
 Ag sg x (ifR sg n b) (AQ q.2,Av q.2 ⟨16,[],[c.1,q.1],b⟩):=by
 have k:=Fr (a9V (b:=b) h hc hq) (g':=Bd ⟨16,[],[c.1,q.1],b⟩) (fun s hs=>by rw[if_neg (by simp [FU hs he])])
 refine Xu k (Gz (by simp) (by simp)) (fun hb=> ?_)
 have:=(DG hq).2.2.2 hb;have:=hc.2.2.1;omega
theorem c1E{r:Int×Gs}(h:gsOk sg x)(hc:BU sg x (Ez sg) c)(hq:Ag sg c.2 (Cf sg (stR sg n)) q)(he:isG sg q.2 1 [101,108,115,101]=true)
 (hr:Ag sg (Au q.2) (Cf sg (stR sg n)) r):Ag sg x (ifR sg n b) (AQ r.2,Av r.2 ⟨16,[],[c.1,q.1,r.1],b⟩):=by
 have k:=IT (a9V (b:=b) h hc hq) (g':=fun s=>(Cf sg (stR sg n) s).bind fun r=>Bd ⟨16,[],[c.1,q.1,r.1],b⟩ r.2) (by omega) he (fun s hs ht=>by rw[if_pos (show isW sg s [101,108,115,101]=true from ht)])
 have k2:=Cq (k:=fun k s=>Bd ⟨16,[],[c.1,q.1,k],b⟩ s) k hr.1 (fun _ _=>rfl)
 refine Xu k2 (Gz (by simp) (by simp)) (fun hb=> ?_)
 have:=(DG hr).2.2.2 hb;have:=hc.2.2.1;have:=(DG hq).2.1
 simp only[Au] at*;omega
def whR(sg:List Sg)(n:Nat)(b:Bool)(s:Ps):PR:=(Ez sg s).bind fun p=>(Cf sg (stR sg n) p.2).bind fun q=>Bd ⟨17,[],[p.1,q.1],b⟩ q.2
theorem c1F(h:gsOk sg x)(hc:BU sg x (Ez sg) c)(hq:Ag sg c.2 (Cf sg (stR sg n)) q):
 Ag sg x (whR sg n b) (AQ q.2,Av q.2 ⟨17,[],[c.1,q.1],b⟩):=by
 have k1:=Cq (k:=fun a s=>(Cf sg (stR sg n) s).bind fun q=>Bd ⟨17,[],[a,q.1],b⟩ q.2) (Ei (f:=whR sg n b) h) hc (fun _ _=>rfl)
 have k2:=Cq (k:=fun k s=>Bd ⟨17,[],[c.1,k],b⟩ s) k1 hq.1 (fun _ _=>rfl)
 refine Xu k2 (Gz (by simp) (by simp)) (fun hb=> ?_)
 have:=(DG hq).2.2.2 hb;have:=hc.2.2.1;omega
def setR(sg:List Sg)(b:Bool)(s:Ps):PR:=(HG sg s).bind fun p=>(BS sg [61] p.2).bind fun s1=>(CE sg s1).bind fun q=>Bt sg [59] ⟨13,p.1,[q.1],b⟩ q.2
theorem c1G(hs:sgB sg)(h:gsOk sg x)(hz:Ag sg (Ax sg (Dx sg x) [61]) (CE sg) z):
 Ag sg x (setR sg b) (Dr sg z.2 [59],Dq sg z.2 [59] ⟨13,DX sg x,[z.1],b⟩):=by
 have k1:=Cq (k:=fun t s=>(BS sg [61] s).bind fun s1=>(CE sg s1).bind fun q=>Bt sg [59] ⟨13,t,[q.1],b⟩ q.2) (Ei (f:=setR sg b) h) (RB h).1 (fun _ _=>rfl)
 have k2:=JN (g':=fun s1=>(CE sg s1).bind fun q=>Bt sg [59] ⟨13,DX sg x,[q.1],b⟩ q.2) k1 (fun _ _=>rfl)
 have k3:=Cq (k:=fun k s=>Bt sg [59] ⟨13,DX sg x,[k],b⟩ s) k2 hz.1 (fun _ _=>rfl)
 exact Pp k3 (Gz (Mu hs) (by simp))
def doR(sg:List Sg)(b:Bool)(s:Ps):PR:=(CE sg s).bind fun p=>Bt sg [59] ⟨14,[],[p.1],b⟩ p.2
theorem c1H(h:gsOk sg x)(hz:Ag sg x (CE sg) z):Ag sg x (doR sg b) (Dr sg z.2 [59],Dq sg z.2 [59] ⟨14,[],[z.1],b⟩):=by
 have k3:=Cq (k:=fun k s=>Bt sg [59] ⟨14,[],[k],b⟩ s) (Ei (f:=doR sg b) h) hz.1 (fun _ _=>rfl)
 exact Pp k3 (Gz (by simp) (by simp))
theorem Mv:stR sg (n+1) b s=
 if(sgO sg s.pos).kind=5 then Hh sg 19 b s
 else if isW sg s [118,97,114] then Eq sg b (adv s)
 else if isW sg s [114,101,116,117,114,110] then IU sg b (adv s)
 else if isW sg s [105,102] then ifR sg n b (adv s)
 else if isW sg s [119,104,105,108,101] then whR sg n b (adv s)
 else if DF sg s.pos&&isM sg (adv s) [61] then(CE sg (adv (adv s))).bind fun p=>Bt sg [59] ⟨13,(sgO sg s.pos).text,[p.1],b⟩ p.2
 else doR sg b s:=rfl
theorem set_eq(h:(DF sg s.pos&&isM sg (adv s) [61])=true):(CE sg (adv (adv s))).bind (fun p=>Bt sg [59] ⟨13,(sgO sg s.pos).text,[p.1],b⟩ p.2)=setR sg b s:=by
 simp only[AY] at h
 rw[setR,HG,if_pos h.1]
 simp only[De]
 rw[BS,if_pos h.2];rfl
theorem Ie(hs:pur x=some s):(sgO sg s.pos).kind=(pkG sg x 0).kind:=(Xs hs).symm
theorem c1I(hs:sgB sg)(h:gsOk sg x)(hk:(pkG sg x 0).kind=5):Ag sg x (stR sg (n+1) b) (AQ x,FT sg x 19 b):=
 NL (Uu hs h (fun _=>(Xt (by omega)).2)) (fun s hp=>by rw[Mv,if_pos (by rw[Ie hp];exact hk)])
theorem c1J(h:gsOk sg x)(hk:(pkG sg x 0).kind≠5)(hq:isG sg x 1 [118,97,114]=true)(hz:Ag sg (Au x) (Eq sg b) z):Ag sg x (stR sg (n+1) b) z:=
 Po h (by omega) hq hz.1 (fun s hp ht=>by rw[Mv,if_neg (by rw[Ie hp];exact hk),if_pos (show isW sg s _=true from ht)])
theorem a9W(h:gsOk sg x)(hk:(pkG sg x 0).kind≠5)(h1:isG sg x 1 [118,97,114]=false)(hq:isG sg x 1 [114,101,116,117,114,110]=true)(hz:Ag sg (Au x) (IU sg b) z):Ag sg x (stR sg (n+1) b) z:=
 Po h (by omega) hq hz.1 (fun s hp ht=>by rw[Mv,if_neg (by rw[Ie hp];exact hk),if_neg (by simp [FU hp h1]),if_pos (show isW sg s _=true from ht)])
theorem a9X(h:gsOk sg x)(hk:(pkG sg x 0).kind≠5)(h1:isG sg x 1 [118,97,114]=false)(h2:isG sg x 1 [114,101,116,117,114,110]=false)(hq:isG sg x 1 [105,102]=true)
 (hz:Ag sg (Au x) (ifR sg n b) z):Ag sg x (stR sg (n+1) b) z:=
 Po h (by omega) hq hz.1 (fun s hp ht=>by rw[Mv,if_neg (by rw[Ie hp];exact hk),if_neg (by simp [FU hp h1]),if_neg (by simp [FU hp h2]),if_pos (show isW sg s _=true from ht)])
theorem c1K(h:gsOk sg x)(hk:(pkG sg x 0).kind≠5)(h1:isG sg x 1 [118,97,114]=false)(h2:isG sg x 1 [114,101,116,117,114,110]=false)(h3:isG sg x 1 [105,102]=false)(hq:isG sg x 1 [119,104,105,108,101]=true)
 (hz:Ag sg (Au x) (whR sg n b) z):Ag sg x (stR sg (n+1) b) z:=
 Po h (by omega) hq hz.1 (fun s hp ht=>by rw[Mv,if_neg (by rw[Ie hp];exact hk),if_neg (by simp [FU hp h1]),if_neg (by simp [FU hp h2]),if_neg (by simp [FU hp h3]),if_pos (show isW sg s _=true from ht)])
def seG(sg:List Sg)(x:Gs):Bool:=nmG sg x 0&&(decide ((pkG sg x 1).kind=4)&&((pkG sg x 1).text==[61]))
theorem a2E(hs:pur x=some s):(DF sg s.pos&&isM sg (adv s) [61])=seG sg x:=by
 obtain⟨hb,rfl⟩:=Gw.1 hs
 have:=Pl (sg:=sg) (n:=0) (Ef hb)
 simp only[Int.add_zero] at this
 rw[seG,this,Mq hb];rfl
theorem c1L(h:gsOk sg x)(hk:(pkG sg x 0).kind≠5)(h1:isG sg x 1 [118,97,114]=false)(h2:isG sg x 1 [114,101,116,117,114,110]=false)(h3:isG sg x 1 [105,102]=false)(h4:isG sg x 1 [119,104,105,108,101]=false)
 (hq:seG sg x=true) (hz:Ag sg x (setR sg b) z):Ag sg x (stR sg (n+1) b) z:=
 NL hz (fun s hp=>by rw[Mv,if_neg (by rw[Ie hp];exact hk),if_neg (by simp [FU hp h1]),if_neg (by simp [FU hp h2]),if_neg (by simp [FU hp h3]),if_neg (by simp [FU hp h4]),if_pos (by rw[a2E hp];exact hq),set_eq (by rw[a2E hp];exact hq)])
theorem c1M(h:gsOk sg x)(hk:(pkG sg x 0).kind≠5)(h1:isG sg x 1 [118,97,114]=false)(h2:isG sg x 1 [114,101,116,117,114,110]=false)(h3:isG sg x 1 [105,102]=false)(h4:isG sg x 1 [119,104,105,108,101]=false)
 (hq:seG sg x=false) (hz:Ag sg x (doR sg b) z):Ag sg x (stR sg (n+1) b) z:=
 NL hz (fun s hp=>by rw[Mv,if_neg (by rw[Ie hp];exact hk),if_neg (by simp [FU hp h1]),if_neg (by simp [FU hp h2]),if_neg (by simp [FU hp h3]),if_neg (by simp [FU hp h4]),if_neg (by rw[a2E hp];simp [hq])])
theorem c1N{l:Ad×Gs}(hs:sgB sg)(h:gsOk sg x)(hl:BU sg (Ax sg (Dx sg x) [40]) (BG sg (Cn sg) [41] (sg.length+1) []) l)(hll:l.1.length≤3001)
 (hq:Ag sg (Ax sg l.2 [41]) (Hi sg) q):Ag sg x (HI sg b) (AQ q.2,Av q.2 ⟨20,DX sg x,l.1++[q.1],b⟩):=by
 have k1:=Cq (k:=fun t s=>(BS sg [40] s).bind fun s1=>(BG sg (Cn sg) [41] (sg.length+1) [] s1).bind fun q=>(BS sg [41] q.2).bind fun s2=>(Hi sg s2).bind fun r=>Bd ⟨20,t,q.1++[r.1],b⟩ r.2) (Ei (f:=HI sg b) h) (RB h).1 (fun _ _=>rfl)
 have k2:=JN (g':=fun s1=>(BG sg (Cn sg) [41] (sg.length+1) [] s1).bind fun q=>(BS sg [41] q.2).bind fun s2=>(Hi sg s2).bind fun r=>Bd ⟨20,DX sg x,q.1++[r.1],b⟩ r.2) k1 (fun _ _=>rfl)
 have k3:=Cq (k:=fun ks s=>(BS sg [41] s).bind fun s2=>(Hi sg s2).bind fun r=>Bd ⟨20,DX sg x,ks++[r.1],b⟩ r.2) k2 hl (fun _ _=>rfl)
 have k4:=JN (g':=fun s2=>(Hi sg s2).bind fun r=>Bd ⟨20,DX sg x,l.1++[r.1],b⟩ r.2) k3 (fun _ _=>rfl)
 have k5:=Cq (k:=fun k s=>Bd ⟨20,DX sg x,l.1++[k],b⟩ s) k4 hq.1 (fun _ _=>rfl)
 refine Xu k5 (Gz (Mu hs) (by simp;omega)) (fun hb=> ?_)
 have:=(DG hq).2.2.2 hb;have:=k4.2.2.1;omega
theorem c1O{l:Ad×Gs}(hs:sgB sg)(h:gsOk sg x)(hl:BU sg (Ax sg (Dx sg x) [123]) (Dp sg (Ed sg) [125] (sg.length+1) []) l)(hll:l.1.length≤3001):
 Ag sg x (IP sg b) (Dr sg l.2 [125],Dq sg l.2 [125] ⟨21,DX sg x,l.1,b⟩):=by
 have k1:=Cq (k:=fun t s=>(BS sg [123] s).bind fun s1=>(Dp sg (Ed sg) [125] (sg.length+1) [] s1).bind fun q=>Bt sg [125] ⟨21,t,q.1,b⟩ q.2) (Ei (f:=IP sg b) h) (RB h).1 (fun _ _=>rfl)
 have k2:=JN (g':=fun s1=>(Dp sg (Ed sg) [125] (sg.length+1) [] s1).bind fun q=>Bt sg [125] ⟨21,DX sg x,q.1,b⟩ q.2) k1 (fun _ _=>rfl)
 have k3:=Cq (k:=fun ks s=>Bt sg [125] ⟨21,DX sg x,ks,b⟩ s) k2 hl (fun _ _=>rfl)
 exact Pp k3 (Gz (Mu hs) (by omega))
theorem c1P(hs:sgB sg)(h:gsOk sg x)(hk:(pkG sg x 0).kind=5):Ag sg x (Ed sg b) (AQ x,FT sg x 19 b):=
 NL (Uu hs h (fun _=>(Xt (by omega)).2)) (fun s hp=>by rw[Ed,if_pos (by rw[Ie hp];exact hk)])
theorem c1Q(h:gsOk sg x)(hk:(pkG sg x 0).kind≠5)(hq:isG sg x 1 [118,97,114]=true)(hz:Ag sg (Au x) (Eq sg b) z):Ag sg x (Ed sg b) z:=
 Po h (by omega) hq hz.1 (fun s hp ht=>by rw[Ed,if_neg (by rw[Ie hp];exact hk),if_pos (show isW sg s _=true from ht)])
theorem c1R(h:gsOk sg x)(hk:(pkG sg x 0).kind≠5)(hq:isG sg x 1 [118,97,114]=false)(hz:Ag sg x (HI sg b) z):Ag sg x (Ed sg b) z:=
 NL hz (fun s hp=>by rw[Ed,if_neg (by rw[Ie hp];exact hk),if_neg (by simp [FU hp hq])])
theorem c1S(hs:sgB sg)(h:gsOk sg x)(hk:(pkG sg x 0).kind=5):Ag sg x (Er sg b) (AQ x,FT sg x 19 b):=
 NL (Uu hs h (fun _=>(Xt (by omega)).2)) (fun s hp=>by rw[Er,if_pos (by rw[Ie hp];exact hk)])
theorem c1T(h:gsOk sg x)(hk:(pkG sg x 0).kind≠5)(hq:isG sg x 1 [118,97,114]=true)(hz:Ag sg (Au x) (Eq sg b) z):Ag sg x (Er sg b) z:=
 Po h (by omega) hq hz.1 (fun s hp ht=>by rw[Er,if_neg (by rw[Ie hp];exact hk),if_pos (show isW sg s _=true from ht)])
theorem c1U(h:gsOk sg x)(hk:(pkG sg x 0).kind≠5)(h1:isG sg x 1 [118,97,114]=false)(hq:isG sg x 1 [99,108,97,115,115]=true)(hz:Ag sg (Au x) (IP sg b) z):Ag sg x (Er sg b) z:=
 Po h (by omega) hq hz.1 (fun s hp ht=>by rw[Er,if_neg (by rw[Ie hp];exact hk),if_neg (by simp [FU hp h1]),if_pos (show isW sg s _=true from ht)])
theorem c1V(h:gsOk sg x)(hk:(pkG sg x 0).kind≠5)(h1:isG sg x 1 [118,97,114]=false)(hq:isG sg x 1 [99,108,97,115,115]=false)(hz:Ag sg x (HI sg b) z):Ag sg x (Er sg b) z:=
 NL hz (fun s hp=>by rw[Er,if_neg (by rw[Ie hp];exact hk),if_neg (by simp [FU hp h1]),if_neg (by simp [FU hp hq])])
def Hk(sg:List Sg)(y:Gs)(ks:Ad)(ms:List (Int×Int))(N:Nat):Prop:=
 gsOk sg y∧y.deep=0∧(pur y).bind (Mo sg N ks ms)=Mo sg (sg.length+1) [] [] ps0∧(y.bad=false→(sg.length:Int)-y.pos<N)∧(ks.length:Int)≤y.pos+1∧(y.bad=false→(ks.length:Int)≤y.pos)∧ms.length=ks.length
def gs0:Gs:=⟨0,0,false,[]⟩
theorem c1W:gsOk sg gs0:=⟨by simp [gs0],by simp [gs0],by simp [gs0],by simp [gs0]⟩
theorem c1X:Hk sg gs0 [] [] (sg.length+1):=⟨c1W,rfl,rfl,fun _=>by simp only[gs0];omega,by simp [gs0],fun _=>by simp [gs0],rfl⟩
theorem c1Y(h:Hk sg y ks ms N)(hb:y.bad=false)(hl:y.pos<sg.length)(hz:Ag sg y (Er sg ((pkG sg y 0).blank&&decide (0<ks.length))) z):
 ∃M,N=M+1∧Hk sg z.2 (ks++[z.1]) (ms++[(y.pos,z.2.pos)]) M:=by
 obtain⟨h0,hd,h1,h2,h3,h4,h5⟩:=h
 have h2:=h2 hb;have h4:=h4 hb
 match N with
 |0=>omega
 |M+1=>
  have e:=DG hz
  obtain⟨⟨a1,a2,a3,a4,a5⟩,b⟩:=hz
  refine⟨M,rfl,a1,by omega,?_,fun hw=>by have:=e.2.2.2 hw;omega,by simp;omega,fun hw=>by have:=e.2.2.2 hw;simp;omega,by simp [h5]⟩
  rw[←h1,Ef hb,De,Mo,if_pos hl]
  rw[Ef hb] at a4 a5
  have eb:(sgO sg y.pos).blank=(pkG sg y 0).blank:=by rw[Mq hb];simp
  simp only[De] at a4 a5
  rw[eb,a4]
  cases hp:Er sg ((pkG sg y 0).blank&&decide (0<ks.length)) ⟨y.pos,y.deep,y.nodes⟩ with
  |none=>rfl
  |some p=>
   simp only[Kj,De]
   have:=a5 p hp
   have hpos:z.2.pos=p.2.pos:=by
    rw[hp] at a4
    simp only[Kj] at a4
    obtain⟨_,e2⟩:=Gw.1 a4
    rw[e2]
   rw[this,hpos]
def GT(sg:List Sg)(y:Gs)(ks:Ad):Gs:=Av y ⟨22,[],ks,false⟩
theorem c1Z(h:Hk sg y ks ms N)(hb:(GT sg y ks).bad=true)(he:y.bad=true∨¬y.pos<sg.length):Mp sg=none:=by
 obtain⟨h0,hd,h1,h2,h3,h4,h5⟩:=h
 rw[Mp,←h1]
 cases hy:y.bad with
 |true=>rw[Fp hy];rfl
 |false=>
  have h2:=h2 hy
  have he:¬y.pos<sg.length:=by rcases he with he|he
                               ·rw[hy] at he;cases he
                               ·exact he
  match N with
  |0=>have:=h0.1;omega
  |N+1=>
   rw[Ef hy,De,Mo,if_neg he,De]
   unfold GT Av at hb
   split at hb
   ·rename_i hf
    have h3:y.nodes.length=300:=by simpa [EZ,hy] using hf
    rw[Bd,if_pos (by simp only;omega)];rfl
   ·simp only at hb;rw[hy] at hb;cases hb
theorem c2a(h:Hk sg y ks ms N)(hb:(GT sg y ks).bad=false)(he:y.bad=true∨¬y.pos<sg.length):
 Mp sg=if CT (GT sg y ks).nodes then some (ms,(GT sg y ks).nodes) else none:=by
 obtain⟨h0,hd,h1,h2,h3,h4,h5⟩:=h
 have hy:=(@Mt y ⟨22,[],ks,false⟩).2.2 hb
 have h2:=h2 hy
 have he:¬y.pos<sg.length:=by rcases he with he|he
                              ·rw[hy] at he;cases he
                              ·exact he
 rw[Mp,←h1]
 match N with
 |0=>have:=h0.1;omega
 |N+1=>
  rw[Ef hy,De,Mo,if_neg he,De]
  unfold GT Av at hb ⊢
  split at hb
  ·simp [Bw] at hb
  ·rename_i hf
   rw[if_neg hf]
   have hf2:=Xl (by simpa using hf)
   have:=h0.2.2.1
   rw[Bd,if_neg (by simp only;omega)]
   simp only[De]
end Go.My
end
section
namespace Go.My
open Go.Eng Go.Proofs
variable {G:GInv}
variable {b:Bool}{g x:Gs}{s:ST}
theorem Pq{P:Program}{f:FuncId}{S:Sig}{fn:Func}{c:Code}(hfn:P.funcs[f]? =some fn)(hb:fn.body=some c)(hn:(fn.name== "runtime.NumGoroutine")=false)(hp:∀x,¬S.pre x):Eb G P f S:=
 ⟨⟨⟨fn,hfn,hn,by simp [hb]⟩,fun x y hx _=>(hp x hx).elim⟩,fun x hx=>(hp x hx).elim⟩
theorem c2b{r:Nat}(hr:1≤r)(h:wP r 0 s g):False:=by
 have h1:=h.1.1.2.1.2;have h2:=h.2;omega
theorem c2c{r:Nat}(hr:1≤r)(h:vP r 0 s g):False:=by
 have h1:=h.1.1.2.1.2;have h2:=h.2;omega
theorem c2d(h:rOk s g∧g.deep≤20):vP 11 peN s g:=by
 have h1:=h.1.2.1;have h2:=h.1.1.1
 exact⟨h,by unfold peN;omega⟩
def okD(s:ST)(x:Gs):Prop:=rOk s x∧x.deep≤20
def okN(s:ST)(x:Gs):Prop:=okD s x∧x.bad=false∧x.pos<s.sg.length
theorem a9Y(h:okN s x):rOk s (Au x)∧(Au x).deep≤20:=⟨⟨h.1.1.1,Ib h.1.1.2 h.2.2⟩,h.1.2⟩
theorem a9Z(h:rOk s x):rOk s (Dx s.sg x):=⟨h.1,(RB h.2).1.1⟩
theorem c2e(h:rOk s x):(Dx s.sg x).deep=x.deep∧x.pos≤(Dx s.sg x).pos:=by
 have:=DG (RB h.2);exact⟨this.1,this.2.1⟩
theorem IV{m:Aa}(h:rOk s x):rOk s (Ax s.sg x m)∧(Ax s.sg x m).deep=x.deep:=⟨⟨h.1,(JO h.2).1⟩,(JO h.2).2.1⟩
theorem NN{a:Bool}{k:Int}(h:a=true):decide (k>0)=(a&&decide (0<k)):=by simp [h]
theorem NO{a:Bool}{k:Int}(h:a=false):false=(a&&decide (0<k)):=by simp [h]
theorem c2f(h:rOk s x)(hd:x.deep≤20)(hq:isG s.sg (Dx s.sg x) 4 [61]=true):rOk s (AA s.sg (Dx s.sg x) [61])∧(AA s.sg (Dx s.sg x) [61]).deep≤20:=by
 rw[FW hq]
 have a:=a9Z h;have b:=c2e h
 refine⟨⟨h.1,Ib a.2 (Eg hq (by omega)).2⟩,?_⟩
 have e:(Au (Dx s.sg x)).deep=(Dx s.sg x).deep:=rfl
 omega
theorem c2g{z:Int×Gs}(h:rOk s x)(hq:isG s.sg (Dx s.sg x) 4 [61]=true)(hz:Ag s.sg (AA s.sg (Dx s.sg x) [61]) (CE s.sg) z):
 Ag s.sg x (Eq s.sg b) (Dr s.sg z.2 [59],Dq s.sg z.2 [59] ⟨12,DX s.sg x,[z.1],b⟩):=by
 rw[FW hq] at hz;exact c1w h.1 h.2 hq hz
theorem c2h(h:rOk s x)(hq:isG s.sg (Dx s.sg x) 4 [61]=false):rOk s (AA s.sg (Dx s.sg x) [61]):=by
 rw[EL hq];exact a9Z h
theorem c2i(h:rOk s x)(hq:isG s.sg (Dx s.sg x) 4 [61]=false):
 Ag s.sg x (Eq s.sg b) (Dr s.sg (AA s.sg (Dx s.sg x) [61]) [59],Dq s.sg (AA s.sg (Dx s.sg x) [61]) [59] ⟨12,DX s.sg x,[],b⟩):=by
 rw[EL hq];exact c1v h.1 h.2 hq
theorem b0a{α:Type}{f:Ps→Option (α×Ps)}{y:α×Gs}(h:okD s x)(hy:BU s.sg x f y):okD s y.2:=⟨⟨h.1.1,hy.1⟩,by have:=hy.2.1;have:=h.2;omega⟩
theorem b0b{w:Aa}(h:okD s x)(hq:isG s.sg x 1 w=true):okN s x:=⟨h,(Eg hq (by omega)).1,(Eg hq (by omega)).2⟩
theorem b0c{m:Aa}(h:okD s x)(hq:isG s.sg x 1 m=true):okD s (Au x):=⟨(a9Y (b0b h hq)).1,(a9Y (b0b h hq)).2⟩
theorem c2j{n:Nat}{c q:Int×Gs}(h:okD s x)(hk:(pkG s.sg x 0).kind≠5)(h1:isG s.sg x 1 [118,97,114]=false)(h2:isG s.sg x 1 [114,101,116,117,114,110]=false)(h3:isG s.sg x 1 [105,102]=false)(hq:isG s.sg x 1 [119,104,105,108,101]=true)
 (hc:BU s.sg (Au x) (Ez s.sg) c) (hz:Ag s.sg c.2 (Cf s.sg (stR s.sg n)) q):Ag s.sg x (stR s.sg (n+1) b) (AQ q.2,Av q.2 ⟨17,[],[c.1,q.1],b⟩):=
 c1K h.1.2 hk h1 h2 h3 hq (c1F (b0c h hq).1.2 hc hz)
theorem c2k{α:Type}{n:Nat}{f:Ps→Option (α×Ps)}{y:α×Gs}(h:20-x.deep≤(n:Int))(hy:BU s.sg x f y):20-y.2.deep≤(n:Int):=by have:=hy.2.1;omega
theorem c2l{α:Type}{n:Nat}{f:Ps→Option (α×Ps)}{y:α×Gs}(h:20-x.deep≤(n:Int))(hy:Ag s.sg x f y):20-y.2.deep≤(n:Int):=c2k h hy.1
attribute [local irreducible] pE BG DL fnR Ag BU gsOk Ax Dq Av Eh FT AA Fq FD AQ Dr pkG isG nmG Dx DX Eq IU Ez CE Cf stR Dp
end Go.My
end
section
namespace Go.My
open Go.Eng Go.Proofs
variable {G:GInv}
attribute [local irreducible] pE BG DL fnR Ag BU gsOk Ax Dq Av Eh FT AA Fq FD AQ Dr pkG isG nmG Dx DX Eq IU Ez CE Cf stR Dp Hi HI Ed Er IP Cn
end Go.My
end
section
namespace Go.My
open Go.Eng
variable {br i:Int}{c:UInt8}{l:List Sg}{n:Nat}{t:Aa}
def Kw(t:Aa)(i br:Int)(l:List Sg)(n:Nat):Prop:=
 (0≤i∧i≤t.length)∧(0≤br∧br≤i)∧(l.length:Int)≤i∧(t.length:Int)-i<n∧Ey t (t.length+1) 0 0=(Ey t n i br).map (l++ ·)
theorem c2m:Kw t 0 0 [] (t.length+1):=by
 refine⟨by omega,by omega,by simp,by simp;omega,?_⟩
 cases Ey t (t.length+1) 0 0<;>simp
theorem Xv(hc:t[i.toNat]? =some c):Ey t (n+1) i br=if c.toNat=32 then Ey t n (i+1) br
 else if c.toNat=10 then Ey t n (i+1) (br+1)
 else if(AW (t.drop i.toNat)).ok then(Ey t n (i+(AW (t.drop i.toNat)).size) 0).map (⟨(AW (t.drop i.toNat)).kind,(AW (t.drop i.toNat)).text,i,decide (br>1)⟩:: ·)
 else none:=by rw[Ey,hc]
theorem Xw(h:Kw t i br l n)(hi:i<t.length):∃m,n=m+1:=by
 obtain⟨h1,h2,h3,h4,h5⟩:=h
 match n with
 |0=>omega
 |m+1=>exact⟨m,rfl⟩
theorem c2n(hc:t[i.toNat]? =some c)(h:Kw t i br l (n+1))(hi:i<t.length)(h32:c.toNat=32):Kw t (i+1) br l n:=by
 obtain⟨h1,h2,h3,h4,h5⟩:=h
 refine⟨by omega,by omega,by omega,by omega,?_⟩
 rw[h5,Xv hc,if_pos h32]
theorem c2o(hc:t[i.toNat]? =some c)(h:Kw t i br l (n+1))(hi:i<t.length)(h32:c.toNat=10):Kw t (i+1) (br+1) l n:=by
 obtain⟨h1,h2,h3,h4,h5⟩:=h
 refine⟨by omega,by omega,by omega,by omega,?_⟩
 rw[h5,Xv hc,if_neg (by omega),if_pos h32]
theorem c2p(hc:t[i.toNat]? =some c)(h:Kw t i br l (n+1))(hi:i<t.length)(h32:c.toNat≠32)(h10:c.toNat≠10)
 (hok:(AW (t.drop i.toNat)).ok=true) (hz:1≤(AW (t.drop i.toNat)).size∧(AW (t.drop i.toNat)).size≤t.length-i):
 Kw t (i+(AW (t.drop i.toNat)).size) 0 (l++[⟨(AW (t.drop i.toNat)).kind,(AW (t.drop i.toNat)).text,i,decide (br>1)⟩]) n:=by
 obtain⟨h1,h2,h3,h4,h5⟩:=h
 refine⟨by omega,by omega,by simp;omega,by omega,?_⟩
 rw[h5,Xv hc,if_neg h32,if_neg h10,if_pos hok]
 cases Ey t n (i+(AW (t.drop i.toNat)).size) 0<;>simp
theorem c2q(hc:t[i.toNat]? =some c)(h:Kw t i br l (n+1))(hi:i<t.length)(h32:c.toNat≠32)(h10:c.toNat≠10)
 (hok:(AW (t.drop i.toNat)).ok=false) (hl:¬3000<t.length):Cr t=none:=by
 rw[Cr,if_neg hl,h.2.2.2.2,Xv hc,if_neg h32,if_neg h10,if_neg (by simp [hok])];rfl
theorem c2r(h:Kw t i br l n)(hi:¬i<t.length)(hl:¬3000<t.length):Cr t=some l:=by
 obtain⟨h1,h2,h3,h4,h5⟩:=h
 rw[Cr,if_neg hl,h5]
 match n with
 |0=>omega
 |n+1=>rw[Ey,Gi (by omega)];simp
theorem c2s(h:3000<t.length):Cr t=none:=if_pos h
end Go.My
end
section
namespace Go.My
open Go.Eng Go.Proofs
variable {G:GInv}
variable {N n:Nat}{br i:Int}{c:UInt8}{ks:Ad}{l sg:List Sg}{ms:List (Int×Int)}{s t:Aa}{y:Gs}
theorem a2F{p:UInt8→Bool}{b:UInt8}(h:p b=true):1≤((b::s).takeWhile p).length:=by
 rw[Js,if_pos h];simp
theorem Xx{p:UInt8→Bool}:(s.takeWhile p).length≤s.length:=(Kg p).length_le
theorem c2t{s:Aa}:(Cv s).length≤s.length:=by
 unfold Cv
 have:=(List.dropWhile_suffix (fun c:UInt8=>decide (c.toNat=32)) (l:=s.reverse)).length_le
 simpa using this
theorem a2G(h:(AW s).ok=true):1≤(AW s).size∧(AW s).size≤s.length∧(AW s).text.length≤s.length:=by
 match s with
 |[]=>cases h
 |b::s=>
  unfold AW at h ⊢
  simp only at h ⊢
  split
  ·rename_i hb
   have:=a2F (s:=s) (p:=BA) (b:=b) (by simp [BA,hb]);have:=Xx (p:=BA) (s:=b::s);simp only;omega
  ·rename_i hb
   rw[if_neg hb] at h
   split
   ·rename_i hb2
    have:=a2F (s:=s) (p:=Bh) (b:=b) hb2;have:=Xx (p:=Bh) (s:=b::s);simp only;omega
   ·rename_i hb2
    rw[if_neg hb2] at h
    split
    ·rename_i hb3
     rw[if_pos hb3] at h
     simp only at h ⊢
     unfold Df at h ⊢
     split at h
     ·cases h
     ·simp only[DU,AE] at*;omega
    ·rename_i hb3
     rw[if_neg hb3] at h
     split
     ·rename_i hb4
      have hb5:b=47:=by
       cases s with
       |nil=>simp at hb4
       |cons c s=>simp at hb4;exact hb4.1
      have h1:=a2F (s:=s) (p:=Cb) (b:=b) (by subst hb5;rfl);have h2:=Xx (p:=Cb) (s:=b::s);have h3:= @c2t ((b::s).takeWhile Cb)
      simp only;omega
     ·rename_i hb4
      rw[if_neg hb4] at h
      split
      ·simp only[DU,AE];omega
      ·rename_i hb5
       rw[if_neg hb5] at h
       split
       ·simp only[DU,AE];omega
       ·rename_i hb6
        rw[if_neg hb6] at h
        cases h
def sgJ(t:Aa)(i br:Int)(l:List Sg)(n:Nat):Prop:=(Kw t i br l n∧¬3000<t.length)∧∀e∈l,e.text.length≤3000
theorem b0d(h:¬(t.length:Int)>3000):sgJ t 0 0 [] (t.length+1):=⟨⟨c2m,by omega⟩,by simp⟩
theorem Mw(h:sgJ t i br l n):((0≤i∧i≤t.length)∧(0≤br∧br≤i)∧(l.length:Int)≤i)∧t.length≤3000:=by
 have:=h.1.1;have:=h.1.2;exact⟨⟨h.1.1.1,h.1.1.2.1,h.1.1.2.2.1⟩,by omega⟩
theorem Xy(hc:t[i.toNat]? =some c)(h:sgJ t i br l n)(hi:i<t.length)(h32:c.toNat=32):sgJ t (i+1) br l (n-1)∧n-1<n:=by
 obtain⟨m,rfl⟩:=Xw h.1.1 hi
 exact⟨⟨⟨c2n hc h.1.1 hi h32,h.1.2⟩,h.2⟩,by omega⟩
theorem Xz(hc:t[i.toNat]? =some c)(h:sgJ t i br l n)(hi:i<t.length)(h32:c.toNat=10):sgJ t (i+1) (br+1) l (n-1)∧n-1<n:=by
 obtain⟨m,rfl⟩:=Xw h.1.1 hi
 exact⟨⟨⟨c2o hc h.1.1 hi h32,h.1.2⟩,h.2⟩,by omega⟩
theorem a2H(h:sgJ t i br l n)(hok:(AW (t.drop i.toNat)).ok=true):1≤(AW (t.drop i.toNat)).size∧(AW (t.drop i.toNat)).size≤t.length-i∧(AW (t.drop i.toNat)).text.length≤3000:=by
 have a:=a2G hok
 have b:=(Mw h)
 simp only[GW] at a
 omega
theorem a2I(hc:t[i.toNat]? =some c)(h:sgJ t i br l n)(hi:i<t.length)(h32:c.toNat≠32)(h10:c.toNat≠10)
 (hok:(AW (t.drop i.toNat)).ok=true):
 sgJ t (i+(AW (t.drop i.toNat)).size) 0 (l++[⟨(AW (t.drop i.toNat)).kind,(AW (t.drop i.toNat)).text,i,decide (br>1)⟩]) (n-1)∧n-1<n:=by
 obtain⟨m,rfl⟩:=Xw h.1.1 hi
 have hz:=a2H h hok
 refine⟨⟨⟨c2p hc h.1.1 hi h32 h10 hok ⟨hz.1,hz.2.1⟩,h.1.2⟩,?_⟩,by omega⟩
 intro e he
 rcases FK.1 he with he|he
 ·exact h.2 e he
 ·simp at he;subst he;exact hz.2.2
theorem a2J(hc:t[i.toNat]? =some c)(h:sgJ t i br l n)(hi:i<t.length)(h32:c.toNat≠32)(h10:c.toNat≠10)
 (hok:(AW (t.drop i.toNat)).ok=false):Cr t=none:=by
 obtain⟨m,rfl⟩:=Xw h.1.1 hi
 exact c2q hc h.1.1 hi h32 h10 hok h.1.2
def sgQ(t:Aa)(l:List Sg):Prop:=(Cr t=some l∧sgB l)∨(Cr t=none∧l=[])
theorem XA(h:sgJ t i br l n)(hi:¬i<t.length):(Cr t).isSome=true∧sgQ t l:=by
 have a:=c2r h.1.1 hi h.1.2
 have b:=Mw h
 exact⟨by rw[a];rfl,.inl ⟨a,by omega,h.2⟩⟩
theorem NP(h:Cr t=none):(Cr t).isSome=false∧sgQ t []:=⟨by rw[h];rfl,.inr ⟨h,rfl⟩⟩
theorem XB(h:(t.length:Int)>3000):Cr t=none:=c2s (by omega)
abbrev iF {α β:Type} (i:Int×Int×Bool×List Nd×α×β):Gs:=⟨i.1,i.2.1,i.2.2.1,i.2.2.2.1⟩
theorem c2u:Hk sg ⟨0,0,false,[]⟩ [] [] (sg.length+1):=c1X
theorem c2v{b:Bool}{z:Int×Gs}(h:Hk sg y ks ms N)(hb:y.bad=false)(hl:y.pos<sg.length)(hz:Ag sg y (Er sg b) z)(e:b=((pkG sg y 0).blank&&decide (0<(ks.length:Int)))):
 Hk sg z.2 (ks++[z.1]) (ms++[(y.pos,z.2.pos)]) (N-1)∧N-1<N:=by
 subst e
 exact RE (c1Y h hb hl (z:=z) (by
  have:decide (0<ks.length)=decide (0<(ks.length:Int)):=by simp
  rw[this];exact hz))
theorem c2w{s:ST}(hs:sgB s.sg)(h:Hk s.sg y ks ms N):okD s y:=⟨⟨hs,h.1⟩,by have:=h.2.1;omega⟩
theorem b0e(hs:sgB sg)(h:Hk sg y ks ms N):ks.length≤3001∧ms.length=ks.length∧0≤y.pos∧y.pos≤sg.length:=by
 have h1:=h.1.1;have h2:=hs.1;have h3:=h.2.2.2.2.1;have h4:=h.2.2.2.2.2.2
 omega
attribute [local irreducible] pE BG DL fnR Ag BU gsOk Ax Dq Av Eh FT AA Fq FD AQ Dr pkG isG nmG Dx DX Eq IU Ez CE Cf stR Dp Hi HI Ed Er IP Cn Hk sgJ
def NQ:Sig:=⟨Aa,fun x=>[.str x],fun x=>x.length<2^62,List Sg×Int,fun x y=>sgQ x y.1,fun x y=> .tup [sgs y.1,.q y.2,.bool (Cr x).isSome],fun x y=>[.top],true,[],[]⟩
def RG(x:Aa):LS:=⟨Int×Int×List Sg×Nat,fun i=>sgJ x i.1 i.2.1 i.2.2.1 i.2.2.2,fun i=>[(0,.str x),(5,CL i.2.2.1),(6,.q i.2.1),(7,.q i.1)],[],fun i=>i.2.2.2,fun _=>[],[]⟩
theorem c2x:CtG G 23 NQ:=
 vFq [(38,0,Kr)] [(32,⟨Sg,sgA⟩)] (fun x=>[(6,RG x)]) Tryz.func23 ⟨b8G,trivial⟩ (fun(x:Aa)=>True∧Ae (decide ((nL x)>(3000:Int))) (rA NQ x [.tup [.nil,.q 3000,.bool false],.top]) (eA (RG x) [.str x,.nil,.q 0,.q 0]∧∀(i:Int×Int×List Sg×Nat),sgJ x i.1 i.2.1 i.2.2.1 i.2.2.2→Ae (decide (i.1<(nL x))) ((0≤i.1∧i.1<(nL x))∧∀(c:UInt8),x[Int.toNat i.1]? =some c→Ae ((↑(UInt8.toNat c):Int)==(32:Int)) (inR .i64 (i.1+(1:Int))∧eN (RG x) i [.str x,CL i.2.2.1,.q i.2.1,.q (i.1+(1:Int))]) (Ae ((↑(UInt8.toNat c):Int)==(10:Int)) (inR .i64 (i.1+(1:Int))∧inR .i64 (i.2.1+(1:Int))∧eN (RG x) i [.str x,CL i.2.2.1,.q (i.2.1+(1:Int)),.q (i.1+(1:Int))]) ((0≤i.1∧i.1≤(nL x)∧(nL x)≤(nL x))∧cA Kr [.str (List.drop (Int.toNat i.1) x)] fun x_1 y=>Ae (!(AW x_1).ok) (rA NQ x [.tup [.nil,.q i.1,.bool false],.top]) (∃(x_2:Sg),(AW x_1).kind=x_2.kind∧(AW x_1).text=x_2.text∧i.1=x_2.pos∧decide (i.2.1>(1:Int))=x_2.blank∧∃(zs:List Sg),CL [x_2]=CL zs∧Ca sgA∧Bb (i.2.2.1.length+zs.length) (40:Nat)∧inR .i64 (i.1+(AW x_1).size)∧eN (RG x) i [.str x,CL (i.2.2.1++zs),.q 0,.q (i.1+(AW x_1).size)])))) (rA NQ x [.tup [CL i.2.2.1,.q 0,.bool true],.top]))) (by kernel_rfl) fun(x:Aa) (hx:x.length<2^62)=>(by
 dsimp only[nL,cA,eA,eN,RG,CL,rA,NQ,Kr,CD,sgs,AB,AF,mvL,lnL,mvE,lnE,Bn,AV.q]
 have hx:x.length<2^62:=hx
 (repeat' first|(with_reducible first|rfl|exact⟨⟩|apply AG|apply AM)|apply AL|(apply AK<;>try dsimp only)|apply AJ|((try refine AH.2 ?_);intro _;try dsimp only))
 all_goals first
  |(show Nat;skip)
  |rfl
  |exact b0d ‹_›
  |exact(NP (XB ‹_›)).2
  |exact(NP (XB ‹_›)).1.symm
  |exact(Xy ‹_› ‹_› ‹_› (by omega)).1
  |exact(Xz ‹_› ‹_› ‹_› (by omega)).1
  |exact(a2I ‹_› ‹_› ‹_› (by omega) (by omega) ‹_›).1
  |exact(NP (a2J ‹_› ‹_› ‹_› (by omega) (by omega) ‹_›)).2
  |exact(NP (a2J ‹_› ‹_› ‹_› (by omega) (by omega) ‹_›)).1.symm
  |exact(XA ‹_› ‹_›).2
  |exact(XA ‹_› ‹_›).1.symm
  |(have hq:=Mw ‹sgJ _ _ _ _ _›;(try simp only[Aw,GW]);omega)
  |(have hj:= ‹sgJ _ _ _ _ _›;have hq:=Mw hj;have hz:=a2H hj ‹_›;(try simp only[Aw,GW]);omega)
  |(have hq:=Mw ‹sgJ _ _ _ _ _›;(try simp only[Bb,Ba,AE,AX]);omega)
  |skip
 all_goals first
  |exact(Xy ‹_› ‹_› ‹_› (by omega)).2
  |exact(Xz ‹_› ‹_› ‹_› (by omega)).2
  |exact(a2I ‹_› ‹_› ‹_› (by omega) (by omega) ‹_›).2
  |rfl
  |skip)
end Go.My
end
section
namespace Go.My
open Go.Eng Go.Proofs
variable {G:GInv}
variable {N:Nat}{g y:Gs}{ks:Ad}{l:List Sg}{ms:List (Int×Int)}{t:Aa}
def rsQ(t:Aa)(sg:List Sg)(ms:List (Int×Int))(g:Gs):Prop:=(g.bad=true∧CX t=none)∨((g.bad=false∧sgB sg∧Cr t=some sg)∧Mp sg=some (ms,g.nodes)∧Ew g.nodes)
theorem b0f{sg:List Sg}(h:gsOk sg g):Ew g.nodes∧g.nodes.length≤300:=by
 refine⟨⟨by have:=h.2.2.1;omega,fun x hx=> ?_⟩,h.2.2.1⟩
 have:=h.2.2.2 x hx
 exact⟨by have:=this.1;omega,by have:=this.2;omega⟩
theorem RH(h:sgQ t l)(hn:(Cr t).isSome=true):Cr t=some l∧sgB l:=by
 rcases h with h|h
 ·exact h
 ·rw[h.1] at hn;cases hn
theorem c2y(h:sgQ t l)(hn:(Cr t).isSome=true)(hf:Hk l y ks ms N∧(y.bad=true∨¬y.pos<l.length))(hb:(GT l y ks).bad=true):rsQ t l ms (GT l y ks):=by
 refine .inl ⟨hb,?_⟩
 rw[CX,(RH h hn).1]
 simp only[De,c1Z hf.1 hb hf.2];rfl
theorem b0g(hs:sgB l)(h:Hk l y ks ms N):Ee ⟨22,[],ks,false⟩:=⟨by simp,by have:=(b0e hs h).1;simp only;omega⟩
theorem c2z(h:sgQ t l)(hn:(Cr t).isSome=true)(hf:Hk l y ks ms N∧(y.bad=true∨¬y.pos<l.length))(hb:(GT l y ks).bad=false):
 rsQ t l ms ⟨(GT l y ks).pos,(GT l y ks).deep,!CT (GT l y ks).nodes,(GT l y ks).nodes⟩:=by
 have hk:=b0g (RH h hn).2 hf.1
 have e:=c2a hf.1 hb hf.2
 cases htr:CT (GT l y ks).nodes with
 |false=>
  rw[htr] at e
  refine .inl ⟨rfl,?_⟩
  rw[CX,(RH h hn).1]
  simp only[De,e];rfl
 |true=>
  rw[htr] at e
  exact .inr ⟨⟨rfl,(RH h hn).2,(RH h hn).1⟩,e,(b0f (Us hf.1.1 hk)).1⟩
theorem b0h(h:rsQ t l ms g)(hb:g.bad=true):CX t=none:=by
 rcases h with h|h
 ·exact h.2
 ·rw[h.1.1] at hb;cases hb
theorem c2A(h:rsQ t l ms g)(hb:g.bad=false):CX t=some g.nodes∧Ew g.nodes:=by
 rcases h with h|h
 ·rw[h.1] at hb;cases hb
 ·refine⟨?_,h.2.2⟩
  rw[CX,h.1.2.2];simp only[De,h.2.1];rfl
attribute [local irreducible] gsOk Hk GT CX Mp Cr CT
end Go.My
end
section
namespace Go.My
open Go.Eng Go.Proofs
variable {G:GInv}
variable {c:UInt8}{i:Int}{m s:Aa}{p:UInt8→Bool}{x:Aa×Int}
def UA:List Aa:=[[38,38],[124,124],[61,61],[61,62],[46,46]]
def Pr:List Aa:=[[40],[41],[123],[125],[91],[93],[59],[44],[46],[61],[43],[45],[42],[60],[63],[58]]
def mks:List Aa:=[[38,38],[124,124],[61,61],[61,62],[46,46],[40],[41],[123],[125],[91],[93],[59],[44],[46],[61],[43],[45],[42],[60],[63],[58]]
def HK(s:Aa):Aa:=(mks.find? fun m=>s.take m.length==m).getD []
theorem a2K{s:Aa}{k:Nat}:∀ {l:List Aa},(∀m∈l,m.length=k)→l.find? (fun m=>s.take m.length==m)=if l.elem (s.take k) then some (s.take k) else none
 |[],_=>rfl
 |m::l,h=>by
  have hm:=h m (by simp)
  rw[List.find?_cons,List.elem_cons,hm]
  cases he:(s.take k==m) with
  |true=>
   have:s.take k=m:=by simpa using he
   simp [this]
  |false=>
   rw[a2K (l:=l) (fun m hm=>h m (by simp [hm]))]
theorem b0i:HK s=if UA.elem (s.take 2) then s.take 2 else if Pr.elem (s.take 1) then s.take 1 else []:=by
 have e:mks=UA++Pr:=rfl
 rw[HK,e,List.find?_append,a2K (k:=2) (l:=UA) (by decide),a2K (k:=1) (l:=Pr) (by decide)]
 split
 ·rfl
 ·split<;>rfl
theorem c2B:UA.elem s=mk2 s:=by
 rw[DR];simp [UA,mk2]
theorem c2C:Pr.elem [c]=mk1.elem c:=by
 simp [Pr,mk1,List.elem_cons,List.elem_nil]
theorem b0j{c:UInt8}:HK (c::s)=if BW ((c::s).take 2) then(c::s).take 2 else if BW ((c::s).take 1) then(c::s).take 1 else []:=by
 rw[b0i,c2B]
 have h1:Pr.elem ((c::s).take 1)=BW ((c::s).take 1):=by
  show Pr.elem [c]=BW [c]
  rw[c2C]
  simp [BW,mk2]
 rw[h1]
 cases s with
 |nil=>
  show(if mk2 [c]=true then [c] else if BW [c]=true then [c] else [])=if BW [c]=true then [c] else if BW [c]=true then [c] else []
  have:mk2 [c]=false:=by simp [mk2]
  rw[this];simp
 |cons d r=>
  have:BW ((c::d::r).take 2)=mk2 ((c::d::r).take 2):=by
   show BW [c,d]=mk2 [c,d]
   simp [BW]
  rw[this]
def Kx(x:Aa×Int)(i:Int):Prop:=(0≤i∧i≤21)∧HK (x.1.drop x.2.toNat)=((mks.drop i.toNat).find? fun m=>(x.1.drop x.2.toNat).take m.length==m).getD []
theorem c2D:Kx x 0:=⟨by omega,rfl⟩
theorem b0k(h:Kx x i)(ha:mks[i.toNat]? =some m)(hg:((x.1.drop x.2.toNat).take m.length==m)=false):Kx x (i+1):=by
 have hlt:=(DT.1 ha).1
 have h21:mks.length=21:=rfl
 obtain⟨h1,h2⟩:=h
 refine⟨by omega,?_⟩
 rw[h2,Gh hlt,(DT.1 ha).2,List.find?_cons_of_neg (by simpa using hg),show(i+1).toNat=i.toNat+1 by omega]
theorem c2E(h:Kx x i)(ha:mks[i.toNat]? =some m)(hg:((x.1.drop x.2.toNat).take m.length==m)=true):m=HK (x.1.drop x.2.toNat):=by
 have hlt:=(DT.1 ha).1
 rw[h.2,Gh hlt,(DT.1 ha).2,List.find?_cons_of_pos (by simpa using hg)];rfl
theorem c2F(h:Kx x i)(hi:¬i<21):[]=HK (x.1.drop x.2.toNat):=by
 have e:mks.drop i.toNat=[]:=OA (by have h21:mks.length=21:=rfl;rw[h21];omega)
 rw[h.2,e];rfl
theorem XC{t:Aa}{a n:Int}(h0:0≤a)(hn:0≤n):List.drop a.toNat (List.take (a+n).toNat t)=(t.drop a.toNat).take n.toNat:=by
 rw[Ld,show(a+n).toNat-a.toNat=n.toNat by omega]
theorem c2G(h0:0≤x.2)(h2:x.2≤x.1.length)(hl:¬x.2+(m.length:Int)≤x.1.length):((x.1.drop x.2.toNat).take m.length==m)=false:=by
 have:((x.1.drop x.2.toNat).take m.length)≠m:=by
  intro e
  have:=congrArg List.length e
  simp at this;omega
 simpa using this
theorem c2H(h0:0≤x.2)(h:List.drop (Int.toNat x.2) (List.take (Int.toNat (x.2+(m.length:Int))) x.1)=m):((x.1.drop x.2.toNat).take m.length==m)=true:=by
 rw[XC h0 (by omega)] at h;simpa using h
theorem c2I(h0:0≤x.2)(h:List.drop (Int.toNat x.2) (List.take (Int.toNat (x.2+(m.length:Int))) x.1)≠m):((x.1.drop x.2.toNat).take m.length==m)=false:=by
 rw[XC h0 (by omega)] at h;simpa using h
theorem c2J(ha:mks[i.toNat]? =some m):m.length≤2:=by
 have:∀m∈mks,m.length≤2:=by decide
 exact this m (Iv ha)
theorem b0l(h:Kx x i):0≤i∧i≤21:=h.1
attribute [local irreducible] Kx HK
def RI:Sig:=⟨Unit,fun x=>[],fun x=>True,Unit,fun x y=>True,fun x y=> .sl false 0 1 Aa Bo mks,fun x y=>[],true,[],[]⟩
theorem c2K:CtG G 91 RI:=
 vFq [] [(44,⟨Aa,Bo⟩)] (fun x=>[]) Tryz.func91 trivial (fun(x:Unit)=>True∧∃(x_1:Aa),#[(38:UInt8),38].toList=x_1∧∃(x_2:Aa),#[(124:UInt8),124].toList=x_2∧∃(x_3:Aa),#[(61:UInt8),61].toList=x_3∧∃(x_4:Aa),#[(61:UInt8),62].toList=x_4∧∃(x_5:Aa),#[(46:UInt8),46].toList=x_5∧∃(x_6:Aa),#[(40:UInt8)].toList=x_6∧∃(x_7:Aa),#[(41:UInt8)].toList=x_7∧∃(x_8:Aa),#[(123:UInt8)].toList=x_8∧∃(x_9:Aa),#[(125:UInt8)].toList=x_9∧∃(x_10:Aa),#[(91:UInt8)].toList=x_10∧∃(x_11:Aa),#[(93:UInt8)].toList=x_11∧∃(x_12:Aa),#[(59:UInt8)].toList=x_12∧∃(x_13:Aa),#[(44:UInt8)].toList=x_13∧∃(x_14:Aa),#[(46:UInt8)].toList=x_14∧∃(x_15:Aa),#[(61:UInt8)].toList=x_15∧∃(x_16:Aa),#[(43:UInt8)].toList=x_16∧∃(x_17:Aa),#[(45:UInt8)].toList=x_17∧∃(x_18:Aa),#[(42:UInt8)].toList=x_18∧∃(x_19:Aa),#[(60:UInt8)].toList=x_19∧∃(x_20:Aa),#[(63:UInt8)].toList=x_20∧∃(x_21:Aa),#[(58:UInt8)].toList=x_21∧rA RI x [AV.sl true 0 1 Aa Bo [x_1,x_2,x_3,x_4,x_5,x_6,x_7,x_8,x_9,x_10,x_11,x_12,x_13,x_14,x_15,x_16,x_17,x_18,x_19,x_20,x_21]]) (by kernel_rfl) fun(x:Unit) (hx:True)=>(by
 dsimp only[rA,RI,AB,AF]
 (repeat' first|(with_reducible first|rfl|exact⟨⟩|apply AG|apply AM)|apply AL|(apply AK<;>try dsimp only)|apply AJ|((try refine AH.2 ?_);intro _;try dsimp only))
 all_goals first
  |rfl
  |(simp [Bb];done)
  |skip)
def Pt:Sig:=⟨Aa×Int,fun x=>[.str x.1,.q x.2],fun x=>0≤x.2∧x.2≤x.1.length∧x.1.length<2^62,Unit,fun x y=>True,fun x y=> .str (HK (x.1.drop x.2.toNat)),fun x y=>[.top,.top],false,[],[]⟩
def UB(x:Aa×Int):LS:=⟨Int,fun i=>Kx x i,fun i=>[(0,.str x.1),(1,.q x.2),(5,.sl false 0 1 Aa Bo mks),(6,.q i)],[],fun i=>21-i.toNat,fun _=>[],[]⟩
theorem c2L:CtG G 72 Pt:=
 vFq [(91,0,RI)] [(44,⟨Aa,Bo⟩)] (fun x=>[(3,UB x)]) Tryz.func72 ⟨c2K,trivial⟩ (fun x=>U4∧cA RI [] fun x_1 y=>eA (UB x) [.str x.1,.q x.2,AV.sl false 0 1 Aa Bo mks,.q 0]∧∀(i:Int),Kx x i→Ae (decide (i<(↑(21:Nat):Int))) ((0≤i∧i<(↑(21:Nat):Int))∧∀(e:Aa),mks[Int.toNat i]? =some e→true=true∧true=true∧inR .i64 (x.2+(nL e))∧Ae (decide (x.2+(nL e)≤(nL x.1))) (inR .i64 (x.2+(nL e))∧(0≤x.2∧x.2≤x.2+(nL e)∧x.2+(nL e)≤(nL x.1))∧(0≤i∧i<(↑(21:Nat):Int))∧∀(e_1:Aa),mks[Int.toNat i]? =some e_1→Ae (List.drop (Int.toNat x.2) (List.take (Int.toNat (x.2+(nL e))) x.1)==e_1) ((0≤i∧i<(↑(21:Nat):Int))∧∀(e:Aa),mks[Int.toNat i]? =some e→rA Pt x [.str e,.top,.top]) (inR .i64 (i+1)∧eN (UB x) i [.str x.1,.q x.2,AV.sl false 0 1 Aa Bo mks,.q (i+1)])) (inR .i64 (i+1)∧eN (UB x) i [.str x.1,.q x.2,AV.sl false 0 1 Aa Bo mks,.q (i+1)])) (rA Pt x [.str #[].toList,.top,.top])) (by kernel_rfl) fun(x:Aa×Int) (hx:0≤x.2∧x.2≤x.1.length∧x.1.length<2^62)=>(by
 dsimp only[nL,U4,cA,eA,eN,UB,rA,Pt,RI,AB,AF,mvL,lnL,mvE,lnE,Bn,AV.q]
 obtain⟨h1,h2,h3⟩:=hx
 (repeat' first|(with_reducible first|rfl|exact⟨⟩|apply AG|apply AM)|apply AL|(apply AK<;>try dsimp only)|apply AJ|((try refine AH.2 ?_);intro _;try dsimp only))
 all_goals(try(repeat(rename mks[_]? =some _=>hq;revert hq;rename mks[_]? =some _=>hr;intro hq;rw[hr] at hq;cases hq)))
 all_goals first
  |rfl
  |exact c2D
  |exact b0k ‹_› ‹_› (c2G h1 h2 ‹_›)
  |exact b0k ‹_› ‹_› (c2I h1 ‹_›)
  |exact c2E ‹_› ‹_› (c2H h1 ‹_›)
  |exact c2F ‹_› (by omega)
  |(have hq:=b0l ‹Kx _ _›;(try simp only[Aw]);omega)
  |(have hq:=b0l ‹Kx _ _›;have hm:=c2J ‹_›;(try simp only[Aw]);omega)
  |skip)
def rwI(p:UInt8→Bool)(x:Aa×Int)(i:Int):Prop:=(x.2≤i∧i≤x.1.length)∧∀e∈(x.1.drop x.2.toNat).take (i-x.2).toNat,p e=true
theorem c2M(h:x.2≤x.1.length):rwI p x x.2:=by
 refine⟨⟨by omega,h⟩,fun e he=> ?_⟩
 rw[show(x.2-x.2).toNat=0 by omega] at he;simp at he
theorem a2L(h0:0≤x.2)(h:rwI p x i)(hi:i<x.1.length)(hc:x.1[i.toNat]? =some c)(hp:p c=true):rwI p x (i+1):=by
 obtain⟨⟨a,b⟩,h2⟩:=h
 exact⟨by omega,WG h2 (by rw[Uf h0 a];exact hc) hp (by omega)⟩
theorem b0m(h0:0≤x.2)(h:rwI p x i)(he:¬i<x.1.length∨∃c,x.1[i.toNat]? =some c∧p c=false):((x.1.drop x.2.toNat).takeWhile p)=List.drop (Int.toNat x.2) (List.take (Int.toNat i) x.1)∧((((x.1.drop x.2.toNat).takeWhile p).length:Nat):Int)=i-x.2:=by
 obtain⟨⟨a,b⟩,h2⟩:=h
 have e:=Mj h2 (by
  rcases he with he|⟨c,hc,hp⟩
  ·left;simp;omega
  ·right;exact⟨c,by rw[Uf h0 a];exact hc,hp⟩)
 rw[←e,Ld]
 refine⟨by congr 1;omega,?_⟩
 simp;omega
theorem c2N(h:rwI p x i):x.2≤i∧i≤x.1.length:=h.1
def sgR(x:Aa×Int)(k:Int)(t:Aa)(p:Int)(b:Bool)(n:Int):Prop:=
 ((AW (x.1.drop x.2.toNat)).ok=true∧(k=(AW (x.1.drop x.2.toNat)).kind∧t=(AW (x.1.drop x.2.toNat)).text∧p=x.2∧b=false)∧n=(AW (x.1.drop x.2.toNat)).size)∨((AW (x.1.drop x.2.toNat)).ok=false∧n=0)
theorem XD(hc:x.1[x.2.toNat]? =some c):x.1.drop x.2.toNat=c::x.1.drop (x.2.toNat+1):=by
 have hlt:=(DT.1 hc).1
 rw[Gh hlt,(DT.1 hc).2]
theorem c2O(h0:0≤x.2)(h:(CP (x.1.drop x.2.toNat):Int)>0):sgR x 5 (Cv (List.drop (Int.toNat x.2) (List.take (Int.toNat (x.2+(CP (x.1.drop x.2.toNat):Int))) x.1))) x.2 false (CP (x.1.drop x.2.toNat)):=by
 rw[XC h0 (by omega)]
 unfold sgR
 generalize x.1.drop x.2.toNat=s at*
 unfold CP at h ⊢
 split at h
 ·rename_i h2
  split at h
  ·rename_i hp
   rw[if_pos h2,if_pos hp]
   match s with
   |[]=>simp at h2
   |[_]=>simp at h2
   |b::c::r=>
    simp at h2
    obtain⟨rfl,rfl⟩:=h2
    left
    simp only[AW,show BQ 47=false by decide,show Bh 47=false by decide,Bl,Br,show(47:UInt8).toNat≠39 by decide,Kh,Qz,BN]
    refine⟨hp,⟨trivial,?_,trivial,trivial⟩,trivial⟩
    congr 1
    have:=Kg Cb (l:=47::47::r)
    rw[LN]
    exact(List.prefix_iff_eq_take.1 this).symm
  ·simp at h
 ·simp at h
theorem c2P{c:UInt8}(h:¬(CP (c::s):Int)>0)(h2:(c::s).take 2=[47,47]):((c::s).takeWhile Cb).all BV=false:=by
 cases hp:((c::s).takeWhile Cb).all BV with
 |false=>rfl
 |true=>
  exfalso
  apply h
  rw[CP,if_pos h2,if_pos hp]
  match s with
  |[]=>simp at h2
  |d::r=>
   simp at h2
   obtain⟨rfl,rfl⟩:=h2
   have:Cb 47=true:=by decide
   simp [Js,this];omega
theorem XE{c:UInt8}(h0:0≤x.2)(hc:x.1[x.2.toNat]? =some c)(hf:BQ c=true)(h:rwI BA x i)(he:¬i<x.1.length∨∃c,x.1[i.toNat]? =some c∧BA c=false):
 (i-x.2>30→sgR x 0 [] 0 false 0)∧(¬i-x.2>30→sgR x 1 (List.drop (Int.toNat x.2) (List.take (Int.toNat i) x.1)) x.2 false (i-x.2)):=by
 obtain⟨e1,e2⟩:=b0m h0 h he
 have e:=XD hc
 have es:AW (x.1.drop x.2.toNat)=⟨1,(x.1.drop x.2.toNat).takeWhile BA,((x.1.drop x.2.toNat).takeWhile BA).length,decide (((x.1.drop x.2.toNat).takeWhile BA).length≤30)⟩:=by
  rw[e];simp only[AW,hf,BN]
 unfold sgR
 rw[es]
 refine⟨fun h3=> .inr ⟨by simp;omega,rfl⟩,fun h3=> .inl ⟨by simp;omega,⟨rfl,e1.symm,rfl,rfl⟩,by simp only;omega⟩⟩
theorem UC{c:UInt8}(h0:0≤x.2)(hc:x.1[x.2.toNat]? =some c)(hf:BQ c=false)(hg:Bh c=true)(h:rwI Bh x i)(he:¬i<x.1.length∨∃c,x.1[i.toNat]? =some c∧Bh c=false):
 (i-x.2>12→sgR x 0 [] 0 false 0)∧(¬i-x.2>12→sgR x 2 (List.drop (Int.toNat x.2) (List.take (Int.toNat i) x.1)) x.2 false (i-x.2)):=by
 obtain⟨e1,e2⟩:=b0m h0 h he
 have e:=XD hc
 have es:AW (x.1.drop x.2.toNat)=⟨2,(x.1.drop x.2.toNat).takeWhile Bh,((x.1.drop x.2.toNat).takeWhile Bh).length,decide (((x.1.drop x.2.toNat).takeWhile Bh).length≤12)⟩:=by
  rw[e];simp only[AW,hf,hg,Bl,Br,BN]
 unfold sgR
 rw[es]
 refine⟨fun h3=> .inr ⟨by simp;omega,rfl⟩,fun h3=> .inl ⟨by simp;omega,⟨rfl,e1.symm,rfl,rfl⟩,by simp only;omega⟩⟩
theorem c2Q(h0:0≤x.2)(hc:x.1[x.2.toNat]? =some c)(hf:BQ c=false)(hg:Bh c=false)(hq:(c.toNat:Int)=39):
 sgR x 3 (List.drop (Int.toNat x.2) (List.take (Int.toNat (x.2+(Dg (x.1.drop x.2.toNat):Int))) x.1)) x.2 false (Dg (x.1.drop x.2.toNat)):=by
 rw[XC h0 (by omega)]
 have e:=XD hc
 have hq2:isQ c=true:=by simp [isQ];omega
 unfold sgR
 rw[e]
 have es:AW (c::x.1.drop (x.2.toNat+1))=⟨3,(Df (c::x.1.drop (x.2.toNat+1))).1,(Df (c::x.1.drop (x.2.toNat+1))).1.length,(Df (c::x.1.drop (x.2.toNat+1))).2⟩:=by
  simp only[AW,hf,hg,Bl,Br,show c.toNat=39 by omega,BN]
 rw[es]
 by_cases hz:Dg (c::x.1.drop (x.2.toNat+1))=0
 ·right
  refine⟨?_,by rw[hz];rfl⟩
  cases hb:(Df (c::x.1.drop (x.2.toNat+1))).2 with
  |false=>rfl
  |true=>exact((WE hq2).1 hb hz).elim
 ·left
  obtain⟨l1,l2⟩:=a8u hq2 hz
  refine⟨(WE hq2).2 hz,⟨rfl,?_,rfl,rfl⟩,?_⟩
  ·simp only[l1,LN]
  ·simp only[l1,DU];omega
theorem c2R(h0:0≤x.2)(hc:x.1[x.2.toNat]? =some c)(hn:¬(CP (x.1.drop x.2.toNat):Int)>0)(hf:BQ c=false)(hg:Bh c=false)(hq:(c.toNat:Int)≠39):
 sgR x 4 (HK (x.1.drop x.2.toNat)) x.2 false (HK (x.1.drop x.2.toNat)).length:=by
 have e:=XD hc
 unfold sgR
 rw[e] at hn ⊢
 generalize x.1.drop (x.2.toNat+1)=s at*
 by_cases h2:(c::s).take 2=[47,47]
 ·right
  have e0:HK (c::s)=[]:=by
   rw[b0j,h2,if_neg (by decide)]
   have:(c::s).take 1=[47]:=by
    have:=congrArg (List.take 1) h2
    simpa using this
   rw[this,if_neg (by decide)]
  have hp:=c2P hn h2
  refine⟨?_,by rw[e0];rfl⟩
  simp only[AW,hf,hg,Bl,Br,if_neg (show¬c.toNat=39 by omega),h2,BN]
  exact hp
 ·have es:AW (c::s)=if BW ((c::s).take 2) then⟨4,(c::s).take 2,((c::s).take 2).length,true⟩ else if BW ((c::s).take 1) then⟨4,(c::s).take 1,1,true⟩ else⟨0,[],0,false⟩:=by
   simp only[AW,hf,hg,Bl,Br,if_neg (show¬c.toNat=39 by omega),if_neg h2]
  rw[es,b0j]
  split
  ·left;exact⟨rfl,⟨rfl,rfl,rfl,rfl⟩,rfl⟩
  ·split
   ·left;exact⟨rfl,⟨rfl,rfl,rfl,rfl⟩,by simp⟩
   ·right;exact⟨rfl,rfl⟩
end Go.My
end
