/- joined -/
import Derived.Test.YtaenadacepeagaaGreatDoorQG
set_option linter.unusedSimpArgs false
set_option linter.unusedVariables false
section
namespace Go.My
open Go.Eng
def Ey(sg:List Sg):Nat→Int→Int
 |0,i=>i
 |n+1,i=>if i+1<sg.length∧(sgO sg i).kind=1 then(if(sgO sg (i+1)).text=[44] then Ey sg n (i+2) else i+1) else i
def ER(sg:List Sg)(i k:Int)(t:List UInt8):Bool:=decide ((sgO sg i).kind=k)&&((sgO sg i).text==t)
def Fv(sg:List Sg)(i:Int):Bool:=decide (i+1<sg.length)&&(ER sg i 4 [41]&&ER sg (i+1) 4 [61,62])
def JY(sg:List Sg)(s:Ps):Bool:=Fv sg (Ey sg (sg.length+1) (s.pos+1))
def sgM(sg:List Sg):Prop:=∀e∈sg,(e.text=[41]∨e.text=[61,62]∨e.text=[44])→e.kind=4
theorem Vl{sg:List Sg}{i:Int}(h:(sgO sg i).text≠[]∨(sgO sg i).kind≠0):i.toNat<sg.length∧sgO sg i∈sg:=by
 unfold sgO at h ⊢
 rw[List.getD_eq_getElem?_getD] at h ⊢
 cases hx:sg[i.toNat]? with
 |none=>rw[hx] at h;simp [Es] at h
 |some e=>exact⟨(List.getElem?_eq_some_iff.1 hx).1,by simpa using List.mem_of_getElem? hx⟩
theorem Rd{sg:List Sg}(hm:sgM sg){i:Int}(h:(sgO sg i).text=[41]∨(sgO sg i).text=[61,62]∨(sgO sg i).text=[44]):(sgO sg i).kind=4:=by
 refine hm _ (Vl (.inl ?_)).2 h
 rcases h with h|h|h<;>rw[h]<;>simp
def a0D(sg:List Sg)(i:Int):Bool:=((sgO sg i).text==[41])&&((sgO sg (i+1)).text==[61,62])
theorem Vm{sg:List Sg}(hm:sgM sg){i:Int}(h0:0≤i):a0D sg i=Fv sg i:=by
 unfold a0D Fv ER
 cases h1:((sgO sg i).text==[41]) with
 |false=>simp
 |true=>
  have k1:=Rd hm (.inl (by simpa using h1))
  cases h2:((sgO sg (i+1)).text==[61,62]) with
  |false=>simp
  |true=>
   have k2:=Rd hm (.inr (.inl (by simpa using h2)))
   have:=(Vl (sg:=sg) (i:=i+1) (.inl (by simp at h2;rw[h2];simp))).1
   simp [k1,k2];omega
theorem Re{sg:List Sg}{i:Int}(h:Cv sg i=true):(sgO sg i).kind=1:=by
 simp [Cv] at h;exact h.1
theorem a0E{sg:List Sg}(hm:sgM sg):∀(n:Nat) (i:Int),0≤i→Fv sg (Da sg n i)=true→Fv sg (Ey sg n i)=true
 |0,i,h0,h=>by simpa [Da,Ey] using h
 |n+1,i,h0,h=>by
  rw[Da] at h;rw[Ey]
  cases hn:Cv sg i with
  |false=>
   rw[hn] at h;simp only[Bool.false_eq_true,if_false] at h
   have h4:(sgO sg i).kind=4:=by
    simp only[Fv,ER,Bool.and_eq_true,decide_eq_true_eq] at h;exact h.2.1.1
   rw[if_neg (by rw[h4];omega)];exact h
  |true=>
   rw[hn,if_pos rfl] at h
   have hk:=Re hn
   have hlt:i+1<sg.length:=by
    split at h
    ·rename_i ht
     have:=(Vl (sg:=sg) (i:=i+1) (.inl (by rw[ht];simp))).1;omega
    ·simp only[Fv,Bool.and_eq_true,decide_eq_true_eq] at h;omega
   rw[if_pos ⟨hlt,hk⟩]
   split at h
   ·rename_i ht;rw[if_pos ht];exact a0E hm n (i+2) (by omega) h
   ·rename_i ht;rw[if_neg ht];exact h
theorem a0F{sg:List Sg}(hm:sgM sg):∀(n:Nat) (i:Int),0≤i→Fv sg (Ey sg n i)=true→Fv sg (Da sg n i)=false→∀(N:Nat) (ks:List Int) (s:Ps),s.pos=i→Bs sg (BN sg) [41] N ks s=none
 |0,i,h0,h1,h2=>by simp [Da,Ey] at h1 h2;rw[h1] at h2;cases h2
 |n+1,i,h0,h1,h2=>by
  intro N ks s hs
  match N with
  |0=>rfl
  |N+1=>
  rw[Ey] at h1;rw[Da] at h2
  cases hn:Cv sg i with
  |false=>
   rw[hn] at h2;simp only[Bool.false_eq_true,if_false] at h2
   split at h1
   ·rename_i hh
    have hm4:isM sg s [41]=false:=by simp [isM,isT,hs,hh.2]
    rw[Bs,if_neg (by simp [hm4]),BN,hs,if_neg (by simp [hn])];rfl
   ·rw[h1] at h2;cases h2
  |true=>
   rw[hn,if_pos rfl] at h2
   have hk:=Re hn
   have hm4:isM sg s [41]=false:=by simp [isM,isT,hs,hk]
   split at h1
   ·split at h1
    ·rename_i ht;rw[if_pos ht] at h2
     have hk2:=Rd hm (.inr (.inr ht))
     rw[Bs,if_neg (by simp [hm4]),BN,hs,if_pos hn,Et,Eb,Bc]
     split
     ·rfl
     ·simp only[Option.map_some,Option.bind_some,adv]
      have hc:isM sg ⟨s.pos+1,s.deep,s.nodes++[⟨1,(sgO sg s.pos).text,[],false⟩]⟩ [44]=true:=by simp [isM,isT,hs,ht,hk2]
      rw[if_pos hc]
      exact a0F hm n (i+2) (by omega) h1 h2 N _ _ (by simp only;omega)
    ·rename_i ht;rw[if_neg ht] at h2;rw[h1] at h2;cases h2
   ·exfalso
    have:(sgO sg i).kind=4:=by simp only[Fv,ER,Bool.and_eq_true,decide_eq_true_eq] at h1;exact h1.2.1.1
    omega
theorem MY{sg:List Sg}(hm:sgM sg):∀(n:Nat) (t:NT) (s:Ps),Cv sg s.pos=true→(sgO sg (s.pos+1)).text=[44]→0≤s.pos→(pE sg n t s=none∨∃p,pE sg n t s=some p∧p.2.pos=s.pos+1)
 |0,t,s,h1,h2,h0=> .inl (by cases t<;>rfl)
 |n+1,t,s,h1,h2,h0=>by
  have hk:=Rd hm (.inr (.inr h2))
  have tst:∀(q:Ps) (m:List UInt8),q.pos=s.pos+1→m≠[44]→isM sg q m=false:=by
   intro q m hq hne;simp only[isM,isT,hq,h2]
   simp;intro _;exact fun e=>hne e.symm
  cases t with
  |value=>
   rw[pE]
   rcases MY hm n .pick s h1 h2 h0 with h|⟨p,h,hp⟩
   ·left;rw[h];rfl
   ·right;refine⟨p,?_,hp⟩
    rw[h,Option.bind_some,if_neg (by simp [tst p.2 [46,46] hp (by simp)])]
  |pick=>
   rw[pE]
   split
   ·exact .inl rfl
   ·rcases MY hm n (.chain 0) (dp s 1) h1 h2 h0 with h|⟨p,h,hp⟩
    ·left;rw[h];rfl
    ·right;refine⟨(p.1,dp p.2 (-1)),?_,hp⟩
     rw[h,Option.bind_some,if_neg (by simp [tst p.2 [63] hp (by simp)])]
  |chain l=>
   rw[pE]
   split
   ·exact MY hm n .fin s h1 h2 h0
   ·rcases MY hm n (.chain (l+1)) s h1 h2 h0 with h|⟨p,h,hp⟩
    ·left;rw[h];rfl
    ·right
     have hc:Ec sg l p.2=[]:=by
      have:∀m∈BI l,isM sg p.2 m=false:=by
       intro m hmm
       refine tst p.2 m hp ?_
       intro e;subst e
       unfold BI at hmm
       split at hmm<;>simp at hmm
      rw[Ec,List.find?_eq_none.2 (by intro m hmm;simp [this m hmm])];rfl
     refine⟨(p.1,p.2),?_,hp⟩
     rw[h,Option.bind_some,EM,if_neg (by simp),if_pos hc];rfl
  |fin=>
   rw[pE]
   rcases MY hm n .base s h1 h2 h0 with h|⟨p,h,hp⟩
   ·left;rw[h];rfl
   ·right;refine⟨p,?_,hp⟩
    rw[h,Option.bind_some,Ed,if_neg (by simp [tst p.2 [40] hp (by simp)]),if_neg (by simp [tst p.2 [46] hp (by simp)])]
  |base=>
   rw[pE,if_pos (Re h1),BN,if_pos h1,Et,Eb,Bc]
   split
   ·exact .inl rfl
   ·exact .inr ⟨_,rfl,rfl⟩
theorem MZ{sg:List Sg}:∀(n:Nat) (t:NT) (s:Ps),Cv sg s.pos=false→(sgO sg s.pos).kind=1→pE sg n t s=none
 |0,t,s,h1,h2=>by cases t<;>rfl
 |n+1,t,s,h1,h2=>by
  cases t with
  |value=>rw[pE,MZ n .pick s h1 h2];rfl
  |pick=>rw[pE];split
         ·rfl
         ·rw[MZ n (.chain 0) (dp s 1) h1 h2];rfl
  |chain l=>rw[pE];split
            ·exact MZ n .fin s h1 h2
            ·rw[MZ n (.chain (l+1)) s h1 h2];rfl
  |fin=>rw[pE,MZ n .base s h1 h2];rfl
  |base=>rw[pE,if_pos h2,BN,if_neg (by simp [h1])]
theorem a8T{sg:List Sg}(hm:sgM sg){s:Ps}{n:Nat}{x:Nd}(h0:0≤s.pos)(h1:JY sg s=true)(h2:Gg sg s=false)(k:Int→Nd):
 ((pE sg n .value (adv s)).bind fun p=>Bm sg [41] (k p.1) p.2)=none:=by
 have h2':Fv sg (Da sg (sg.length+1) (s.pos+1))=false:=by
  have hp:∀(n:Nat) (i:Int),0≤i→0≤Da sg n i:=by
   intro n
   induction n with
   |zero=>intro i hi;simpa [Da] using hi
   |succ n ih=>intro i hi;rw[Da];split
               ·split
                ·exact ih _ (by omega)
                ·omega
               ·exact hi
  rw[←Vm hm (hp _ _ (by omega))];exact h2
 unfold JY at h1
 rw[Ey] at h1;rw[Da] at h2'
 cases hn:Cv sg (s.pos+1) with
 |false=>
  rw[hn] at h2';simp only[Bool.false_eq_true,if_false] at h2'
  split at h1
  ·rename_i hh
   rw[MZ n .value (adv s) hn hh.2];rfl
  ·rw[h1] at h2';cases h2'
 |true=>
  rw[hn,if_pos rfl] at h2'
  split at h1
  ·split at h1
   ·rename_i ht
    rcases MY hm n .value (adv s) hn (by simpa [adv] using ht) (by simp only[adv];omega) with h|⟨p,h,hp⟩
    ·rw[h];rfl
    ·rw[h,Option.bind_some,Bm]
     have:isM sg p.2 [41]=false:=by
      simp only[isM,isT,hp,adv]
      rw[show s.pos+1+1=s.pos+1+1 from rfl,ht];simp
     rw[if_neg (by simp [this])]
   ·rename_i ht;rw[if_neg ht] at h2';rw[h1] at h2';cases h2'
  ·exfalso
   have:(sgO sg (s.pos+1)).kind=4:=by simp only[Fv,ER,Bool.and_eq_true,decide_eq_true_eq] at h1;exact h1.2.1.1
   have:=Re hn
   omega
theorem a0G{sg:List Sg}{n:Nat}{s:Ps}:pE sg (n+1) .pick s=if 20≤s.deep then none else(pE sg n (.chain 0) (dp s 1)).bind fun p=>
 if isM sg p.2 [63] then(pE sg n .pick (adv p.2)).bind fun a=>(BB sg [58] a.2).bind fun s1=>(pE sg n .pick s1).bind fun b=>(Bc ⟨8,[],[p.1,a.1,b.1],false⟩ b.2).map fun q=>(q.1,dp q.2 (-1))
 else some (p.1,dp p.2 (-1)):=rfl
theorem a8U{sg:List Sg}{n l:Nat}{s:Ps}:pE sg (n+1) (.chain l) s=if l=6 then pE sg n .fin s else(pE sg n (.chain (l+1)) s).bind fun p=>EM sg l (pE sg n (.chain (l+1))) (2*sg.length+4) [] [p.1] p.2:=rfl
theorem FQ{α:Type}{sg:List Sg}{x:Gs}{f:Ps→Option (α×Ps)}{y:α×Gs}(h:Ah sg x f y):gsOk sg y.2:=h.1.1
theorem CS{α:Type}{sg:List Sg}{x:Gs}{f:Ps→Option (α×Ps)}{y:α×Gs}(h:Ah sg x f y):y.2.deep=x.deep∧x.pos≤y.2.pos∧y.2.pos≤sg.length∧(y.2.bad=false→x.bad=false∧x.pos<y.2.pos):=by
 refine⟨h.1.2.1,h.1.2.2.1,h.1.1.1.2,fun hb=>⟨?_,h.2 hb⟩⟩
 cases hx:x.bad with
 |false=>rfl
 |true=>
  have:=h.1.2.2.2.1
  rw[DR hx,Dg hb] at this;cases this
theorem Jf{g:Gs}{x:Nd}:(As g x).deep=g.deep∧(As g x).pos=g.pos∧((As g x).bad=false→g.bad=false):=by
 unfold As;split
 ·rename_i h;exact⟨rfl,rfl,fun hb=>by simp [Bt] at hb⟩
 ·exact⟨rfl,rfl,fun hb=>hb⟩
theorem Rf{sg:List Sg}{x y:Gs}{f:Ps→PR}{w:Nd}(h:restP sg x f y (Bc w) 0)(hw:Df w):BG sg x f (AX y,As y w):=by
 have h2:=BS (k:=fun a s=>some (a,s)) h (Rb h.1 hw) (fun s _=>by cases Bc w s<;>rfl)
 exact GI h2
theorem Rh{sg:List Sg}{x y:Gs}{f:Ps→PR}{w:Nd}{m:List UInt8}(h:restP sg x f y (Bm sg m w) 0)(hw:Df w):BG sg x f (CL sg y m,CK sg y m w):=by
 have h2:=BS (k:=fun a s=>some (a,s)) h (MW h.1 hw).1 (fun s _=>by cases Bm sg m w s<;>rfl)
 exact GI h2
theorem a8V{sg:List Sg}{x:Gs}{n:Nat}(h:gsOk sg x)(hd:x.deep≤20):restP sg x (pE sg (n+1) .pick) (gDp (if x.deep=20 then Bt x else x) 1)
 (fun s=>(pE sg n (.chain 0) s).bind fun p=>if isM sg p.2 [63] then(pE sg n .pick (adv p.2)).bind fun a=>(BB sg [58] a.2).bind fun s1=>(pE sg n .pick s1).bind fun b=>(Bc ⟨8,[],[p.1,a.1,b.1],false⟩ b.2).map fun q=>(q.1,dp q.2 (-1)) else some (p.1,dp p.2 (-1))) 1:=by
 split
 ·rename_i h20
  have h2:=a0C (d:=0) (g':=pE sg (n+1) .pick) (Dj (f:=pE sg (n+1) .pick) h) (fun s hs=>by
   obtain⟨_,rfl⟩:=EP.1 hs
   rw[a0G,if_pos (by simp only;omega)])
  refine Ln (d:=0) h2 ⟨by simp only[Bt];omega,by simp only[Bt];omega⟩ (fun s hs=> ?_)
  rw[Jd] at hs;cases hs
 ·rename_i h20
  refine Ln (d:=0) (Dj h) ⟨by have:=h.2.1.1;omega,by omega⟩ (fun s hs=> ?_)
  obtain⟨_,rfl⟩:=EP.1 hs
  rw[a0G,if_neg (by simp only;omega)]
theorem a0H{sg:List Sg}{x:Gs}{n:Nat}{z:Int×Gs}(h:gsOk sg x)(hd:x.deep≤20)(h1:Ah sg (gDp (if x.deep=20 then Bt x else x) 1) (pE sg n (.chain 0)) z):
 restP sg x (pE sg (n+1) .pick) z.2 (fun s=>if isM sg s [63] then(pE sg n .pick (adv s)).bind fun a=>(BB sg [58] a.2).bind fun s1=>(pE sg n .pick s1).bind fun b=>(Bc ⟨8,[],[z.1,a.1,b.1],false⟩ b.2).map fun q=>(q.1,dp q.2 (-1)) else some (z.1,dp s (-1))) 1:=
 BS (k:=fun k s=>if isM sg s [63] then(pE sg n .pick (adv s)).bind fun a=>(BB sg [58] a.2).bind fun s1=>(pE sg n .pick s1).bind fun b=>(Bc ⟨8,[],[k,a.1,b.1],false⟩ b.2).map fun q=>(q.1,dp q.2 (-1)) else some (k,dp s (-1))) (a8V h hd) h1.1 (fun _ _=>rfl)
theorem OQ{x:Gs}:(gDp (if x.deep=20 then Bt x else x) 1).pos=x.pos∧(gDp (if x.deep=20 then Bt x else x) 1).deep=x.deep+1∧((gDp (if x.deep=20 then Bt x else x) 1).bad=false→x.bad=false∧x.deep≠20):=by
 split
 ·exact⟨rfl,rfl,fun h=>by simp [gDp,Bt] at h⟩
 ·rename_i h;exact⟨rfl,rfl,fun h2=>⟨h2,h⟩⟩
theorem a8W{sg:List Sg}{x:Gs}{n:Nat}{z:Int×Gs}(h:gsOk sg x)(hd:x.deep≤20)(h1:Ah sg (gDp (if x.deep=20 then Bt x else x) 1) (pE sg n (.chain 0)) z)(hq:isG sg z.2 4 [63]=false):
 Ah sg x (pE sg (n+1) .pick) (z.1,gDp z.2 (-1)):=by
 have h2:=DT (a0H h hd h1) (g':=fun s=>some (z.1,dp s (-1))) (fun s hs=>by rw[if_neg (by simp [EQ hs hq])])
 obtain⟨e1,e2,e3,e4⟩:=CS h1
 obtain⟨p1,p2,p3⟩:= @OQ x
 refine⟨GI (Ln (e:= -1) h2 ?_ (fun s hs=>rfl)),fun hb=> ?_⟩
 ·have:=h.2.1;omega
 ·have:=e4 hb;show x.pos<z.2.pos;omega
theorem a8X{sg:List Sg}{x:Gs}{n:Nat}{z a b:Int×Gs}(h:gsOk sg x)(hd:x.deep≤20)(h1:Ah sg (gDp (if x.deep=20 then Bt x else x) 1) (pE sg n (.chain 0)) z)(hq:isG sg z.2 4 [63]=true)
 (h2:Ah sg (Au z.2) (pE sg n .pick) a) (h3:Ah sg (Av sg a.2 [58]) (pE sg n .pick) b):
 Ah sg x (pE sg (n+1) .pick) (AX b.2,gDp (As b.2 ⟨8,[],[z.1,a.1,b.1],false⟩) (-1)):=by
 have k1:=GJ (g':=fun s=>(pE sg n .pick s).bind fun a=>(BB sg [58] a.2).bind fun s1=>(pE sg n .pick s1).bind fun b=>(Bc ⟨8,[],[z.1,a.1,b.1],false⟩ b.2).map fun q=>(q.1,dp q.2 (-1)))
  (a0H h hd h1) (by omega) hq (fun s hs ht=>by rw[if_pos (show isM sg s [63]=true from ht)])
 have k2:=BS (k:=fun a s=>(BB sg [58] s).bind fun s1=>(pE sg n .pick s1).bind fun b=>(Bc ⟨8,[],[z.1,a,b.1],false⟩ b.2).map fun q=>(q.1,dp q.2 (-1))) k1 h2.1 (fun _ _=>rfl)
 have k3:=Hj (g':=fun s1=>(pE sg n .pick s1).bind fun b=>(Bc ⟨8,[],[z.1,a.1,b.1],false⟩ b.2).map fun q=>(q.1,dp q.2 (-1))) k2 (fun _ _=>rfl)
 have k4:=BS (k:=fun b s=>(Bc ⟨8,[],[z.1,a.1,b],false⟩ s).map fun q=>(q.1,dp q.2 (-1))) k3 h3.1 (fun _ _=>rfl)
 have hw:Df ⟨8,[],[z.1,a.1,b.1],false⟩:=⟨by simp,by simp⟩
 have k5:=BS (k:=fun k s=>some (k,dp s (-1))) k4 (Rb k4.1 hw) (fun s _=>by cases Bc ⟨8,[],[z.1,a.1,b.1],false⟩ s<;>rfl)
 simp only at k5
 obtain⟨d1,d2,d3⟩:= @Jf b.2 ⟨8,[],[z.1,a.1,b.1],false⟩
 refine⟨GI (Ln (e:= -1) k5 ?_ (fun s hs=>rfl)),fun hb=> ?_⟩
 ·have:=k5.2.1;have:=h.2.1;omega
 ·have hb2:=d3 hb
  obtain⟨p1,p2,p3⟩:= @OQ x
  have e1:=CS h1;have e2:=CS h2;have e3:=CS h3
  have e4:=OL (m:=[58]) (FQ h2)
  have e5:=(OL (m:=[58]) (FQ h2)).1.2.2.1
  show x.pos<(As b.2 ⟨8,[],[z.1,a.1,b.1],false⟩).pos
  have ea:(Au z.2).pos=z.2.pos+1:=rfl
  have:=e3.2.1
  omega
def JZ(sg:List Sg)(n:Nat)(x y:Gs)(ks:List Int)(N:Nat):Prop:=
 restP sg x (pE sg (n+1) .value) y (fun s=>(Ee sg (pE sg n .value) N ks s).bind fun q=>Bc ⟨10,[],q.1,false⟩ q.2) 0∧(sg.length:Int)-y.pos<N∧(ks.length:Int)≤y.pos+1∧(y.bad=false→x.pos<y.pos)
theorem a8Y{sg:List Sg}{x:Gs}{n:Nat}{z:Int×Gs}(h:gsOk sg x)(h1:Ah sg x (pE sg n .pick) z)(hq:isG sg z.2 4 [46,46]=false):Ah sg x (pE sg (n+1) .value) z:=by
 have k1:=BS (k:=fun k s=>if isM sg s [46,46] then(Ee sg (pE sg n .value) (sg.length+1) [k] s).bind fun q=>Bc ⟨10,[],q.1,false⟩ q.2 else some (k,s)) (Dj (f:=pE sg (n+1) .value) h) h1.1 (fun _ _=>rfl)
 have k2:=DT k1 (g':=fun s=>some (z.1,s)) (fun s hs=>by rw[if_neg (by simp [EQ hs hq])])
 exact⟨GI k2,h1.2⟩
theorem a8Z{sg:List Sg}{x:Gs}{n:Nat}{z:Int×Gs}(h:gsOk sg x)(h1:Ah sg x (pE sg n .pick) z)(hq:isG sg z.2 4 [46,46]=true):JZ sg n x z.2 [z.1] (sg.length+1):=by
 have k1:=BS (k:=fun k s=>if isM sg s [46,46] then(Ee sg (pE sg n .value) (sg.length+1) [k] s).bind fun q=>Bc ⟨10,[],q.1,false⟩ q.2 else some (k,s)) (Dj (f:=pE sg (n+1) .value) h) h1.1 (fun _ _=>rfl)
 have k2:=DT k1 (g':=fun s=>(Ee sg (pE sg n .value) (sg.length+1) [z.1] s).bind fun q=>Bc ⟨10,[],q.1,false⟩ q.2) (fun s hs=>by rw[if_pos (Je hs hq)])
 have:=k2.1.1
 exact⟨k2,by omega,by simp;omega,h1.2⟩
theorem val_go{sg:List Sg}{x y:Gs}{n N:Nat}{ks:List Int}{w:Int×Gs}(hs:sgB sg)(h:JZ sg n x y ks N)(hq:isG sg y 4 [46,46]=true)
 (h2:Ah sg (DS sg (Au y)) (Cy sg (pE sg n .value) (Eh sg (Au y))) w):∃M,N=M+1∧JZ sg n x w.2 (ks++[w.1]) M:=by
 obtain⟨h1,hN,hk,hb⟩:=h
 obtain⟨hl1,hl⟩:=Dh hq (by omega)
 match N with
 |0=>omega
 |M+1=>
  refine⟨M,rfl,?_⟩
  have k1:=GJ (g':=fun s=>((BN sg s).bind fun p=>(Cy sg (pE sg n .value) p.1 p.2).bind fun q=>Ee sg (pE sg n .value) M (ks++[q.1]) q.2).bind fun q=>Bc ⟨10,[],q.1,false⟩ q.2)
   h1 (by omega) hq (fun s hs ht=>by rw[Ee,if_pos (show isM sg s [46,46]=true from ht)])
  have k2:=BS (k:=fun k s=>((Cy sg (pE sg n .value) k s).bind fun q=>Ee sg (pE sg n .value) M (ks++[q.1]) q.2).bind fun q=>Bc ⟨10,[],q.1,false⟩ q.2) k1 (Rc hs k1.1).1 (fun s _=>by simp only[Option.bind_assoc])
  have k3:=BS (k:=fun k s=>(Ee sg (pE sg n .value) M (ks++[k]) s).bind fun q=>Bc ⟨10,[],q.1,false⟩ q.2) k2 h2.1 (fun s _=>by simp only[Option.bind_assoc])
  have e0:(Au y).pos≤(DS sg (Au y)).pos:=(Rc hs k1.1).1.2.2.1
  have e1:=CS h2
  have ea:(Au y).pos=y.pos+1:=rfl
  refine⟨k3,by omega,by simp;omega,fun hb2=> ?_⟩
  have:=h1.2.2.1
  omega
theorem a9a{sg:List Sg}{x y:Gs}{n N:Nat}{ks:List Int}(h:JZ sg n x y ks N)(hq:isG sg y 4 [46,46]=false)(hs:sgB sg):Ah sg x (pE sg (n+1) .value) (AX y,As y ⟨10,[],ks,false⟩):=by
 obtain⟨h1,hN,hk,hb⟩:=h
 have hp:=h1.1.1
 match N with
 |0=>omega
 |M+1=>
  have k1:=DT h1 (g':=Bc ⟨10,[],ks,false⟩) (fun s hs=>by rw[Ee,if_neg (by simp [EQ hs hq])];rfl)
  have:=hs.1
  refine⟨Rf k1 ⟨by simp,by simp only;omega⟩,fun hb2=> ?_⟩
  obtain⟨d1,d2,d3⟩:= @Jf y ⟨10,[],ks,false⟩
  simp only[d2];exact hb (d3 hb2)
theorem a0I{sg:List Sg}{one:Ps→PR}{m:List UInt8}{a:List Int}:∀(n:Nat) (ks:List Int) (s:Ps),Bs sg one m n (a++ks) s=(Bs sg one m n ks s).map fun p=>(a++p.1,p.2)
 |0,ks,s=>rfl
 |n+1,ks,s=>by
  rw[Bs,Bs]
  split
  ·rfl
  ·cases one s with
   |none=>rfl
   |some p=>
    simp only[Option.bind_some]
    split
    ·rw[List.append_assoc,a0I n (ks++[p.1])]
    ·simp
def IA(sg:List Sg)(one:Ps→PR)(m:List UInt8)(x y:Gs)(ks:List Int)(N:Nat):Prop:=
 restP sg x (Bs sg one m (sg.length+1) []) y (Bs sg one m N ks) 0∧(sg.length:Int)-y.pos<N∧(ks.length:Int)≤y.pos
theorem a9b{sg:List Sg}{one:Ps→PR}{m:List UInt8}{x:Gs}(h:gsOk sg x):IA sg one m x x [] (sg.length+1):=by
 have:=h.1
 exact⟨Dj h,by omega,by simp;omega⟩
theorem a9c{sg:List Sg}{one:Ps→PR}{m:List UInt8}{x y:Gs}{ks:List Int}{N:Nat}(h:IA sg one m x y ks N)(hb:y.bad=true):BG sg x (Bs sg one m (sg.length+1) []) (ks,y):=OP h.1 hb
theorem a9d{sg:List Sg}{one:Ps→PR}{m:List UInt8}{x y:Gs}{ks:List Int}{N:Nat}(h:IA sg one m x y ks N)(hq:isG sg y 4 m=true):BG sg x (Bs sg one m (sg.length+1) []) (ks,y):=by
 obtain⟨h1,hN,hk⟩:=h
 have:=h1.1.1
 match N with
 |0=>omega
 |M+1=>exact GI (DT h1 (g':=fun s=>some (ks,s)) (fun s hs=>a8R (Je hs hq)))
theorem a0J{sg:List Sg}{one:Ps→PR}{m:List UInt8}{x y:Gs}{ks:List Int}{M:Nat}{z:Int×Gs}(h:IA sg one m x y ks (M+1))(hq:isG sg y 4 m=false)(hz:Ah sg y one z):
 restP sg x (Bs sg one m (sg.length+1) []) z.2 (fun s=>if isM sg s [44] then Bs sg one m M (ks++[z.1]) (adv s) else some (ks++[z.1],s)) 0:=by
 have k1:=DT h.1 (g':=fun s=>(one s).bind fun p=>if isM sg p.2 [44] then Bs sg one m M (ks++[p.1]) (adv p.2) else some (ks++[p.1],p.2)) (fun s hs=>a8S (EQ hs hq))
 exact BS (k:=fun k s=>if isM sg s [44] then Bs sg one m M (ks++[k]) (adv s) else some (ks++[k],s)) k1 hz.1 (fun _ _=>rfl)
theorem a0K{sg:List Sg}{one:Ps→PR}{m:List UInt8}{x y:Gs}{ks:List Int}{N:Nat}(h:IA sg one m x y ks N):∃M,N=M+1:=by
 obtain⟨h1,hN,hk⟩:=h
 have:=h1.1.1
 match N with
 |0=>omega
 |M+1=>exact⟨M,rfl⟩
theorem a9e{sg:List Sg}{one:Ps→PR}{m:List UInt8}{x y:Gs}{ks:List Int}{N:Nat}{z:Int×Gs}(h:IA sg one m x y ks N)(hq:isG sg y 4 m=false)(hz:Ah sg y one z)(hc:isG sg z.2 4 [44]=false):
 BG sg x (Bs sg one m (sg.length+1) []) (ks++[z.1],z.2):=by
 obtain⟨M,rfl⟩:=a0K h
 exact GI (DT (a0J h hq hz) (g':=fun s=>some (ks++[z.1],s)) (fun s hs=>by rw[if_neg (by simp [EQ hs hc])]))
theorem a9f{sg:List Sg}{one:Ps→PR}{m:List UInt8}{x y:Gs}{ks:List Int}{N:Nat}{z:Int×Gs}(h:IA sg one m x y ks N)(hq:isG sg y 4 m=false)(hz:Ah sg y one z)(hc:isG sg z.2 4 [44]=true):
 ∃M,N=M+1∧IA sg one m x (Au z.2) (ks++[z.1]) M:=by
 obtain⟨M,rfl⟩:=a0K h
 have k1:=GJ (g':=Bs sg one m M (ks++[z.1])) (a0J h hq hz) (by omega) hc (fun s hs ht=>by rw[if_pos (show isM sg s [44]=true from ht)])
 have e:=CS hz
 obtain⟨h1,hN,hk⟩:=h
 refine⟨M,rfl,k1,?_,?_⟩
 ·simp only[Au];omega
 ·simp only[Au,List.length_append,List.length_cons,List.length_nil];omega
theorem a9g{sg:List Sg}{val:Ps→PR}{x:Gs}{k:Int}{l:List Int×Gs}(hx:gsOk sg x)(hl:BG sg (Av sg x [40]) (Bs sg val [41] (sg.length+1) []) l)(hll:l.1.length≤3001):
 Ah sg x (Cy sg val k) (CL sg l.2 [41],CK sg l.2 [41] ⟨5,[],k::l.1,false⟩):=by
 have k1:=Hj (g':=fun s=>(Bs sg val [41] (sg.length+1) [k] s).bind fun p=>Bm sg [41] ⟨5,[],p.1,false⟩ p.2) (Dj (f:=Cy sg val k) hx) (fun _ _=>rfl)
 have k2:=BS (k:=fun ks s=>Bm sg [41] ⟨5,[],k::ks,false⟩ s) k1 hl (fun s _=>by
  rw[show([k]:List Int)=[k]++[] from rfl,a0I]
  cases Bs sg val [41] (sg.length+1) [] s<;>rfl)
 have hw:Df ⟨5,[],k::l.1,false⟩:=⟨by simp,by simp;omega⟩
 refine⟨Rh k2 hw,fun hb=> ?_⟩
 have:=(MW (m:=[41]) hl.1 hw).2 hb
 have e1:=hl.2.2.1
 have e2:=(OL (m:=[40]) hx).1.2.2.1
 simp only at this ⊢
 omega
def chF(sg:List Sg)(n l N:Nat)(t:List UInt8)(ks:List Int):Ps→PR:=EM sg l (pE sg n (.chain (l+1))) N t ks
def chO(sg:List Sg)(n l:Nat)(x y:Gs)(k:Int)(N:Nat):Prop:=
 restP sg x (pE sg (n+1) (.chain l)) y (chF sg n l N [] [k]) 0∧2*((sg.length:Int)-y.pos)+3≤N∧(y.bad=false→x.pos<y.pos)
def chN(sg:List Sg)(n l:Nat)(m:List UInt8)(x y:Gs)(ks:List Int)(N:Nat):Prop:=
 restP sg x (pE sg (n+1) (.chain l)) y (chF sg n l N m ks) 0∧(2*((sg.length:Int)-y.pos)+4≤N∨(isG sg y 4 m=true∧2*((sg.length:Int)-y.pos)+3≤N))∧(ks.length:Int)≤y.pos+1∧(y.bad=false→x.pos<y.pos)
theorem a9h{sg:List Sg}{x:Gs}{n:Nat}{z:Int×Gs}(h1:Ah sg x (pE sg n .fin) z):Ah sg x (pE sg (n+1) (.chain 6)) z:=h1
theorem a9i{sg:List Sg}{x:Gs}{n l:Nat}{z:Int×Gs}(h:gsOk sg x)(hl:l≠6)(h1:Ah sg x (pE sg n (.chain (l+1))) z):chO sg n l x z.2 z.1 (2*sg.length+4):=by
 have k1:=DT (Dj (f:=pE sg (n+1) (.chain l)) h) (g':=fun s=>(pE sg n (.chain (l+1)) s).bind fun p=>EM sg l (pE sg n (.chain (l+1))) (2*sg.length+4) [] [p.1] p.2) (fun s _=>by rw[a8U,if_neg hl])
 have k2:=BS (k:=fun k s=>chF sg n l (2*sg.length+4) [] [k] s) k1 h1.1 (fun _ _=>rfl)
 have:=k2.1.1
 exact⟨k2,by omega,h1.2⟩
def Dk(sg:List Sg)(l:Nat)(g:Gs):List UInt8:=((BI l).find? fun m=>isG sg g 4 m).getD []
theorem Ka{sg:List Sg}{l:Nat}{g:Gs}{s:Ps}(hs:pur g=some s):Ec sg l s=Dk sg l g:=by
 unfold Ec Dk
 congr 2
 funext m
 exact(QX hs).symm
theorem chMG_t{sg:List Sg}{l:Nat}{g:Gs}(hb:g.bad=true):Dk sg l g=[]:=by
 unfold Dk
 rw[List.find?_eq_none.2 (by intro m _;rw[a0w (DR hb) (by omega)];simp)];rfl
theorem a9j{l:Nat}{m:List UInt8}(h:m∈BI l):m≠[]:=by
 unfold BI at h
 split at h<;>simp at h<;>(first|(subst h;simp)|(rcases h with rfl|rfl<;>simp))
theorem Kb{sg:List Sg}{l:Nat}{g:Gs}(h:Dk sg l g≠[]):isG sg g 4 (Dk sg l g)=true∧Dk sg l g∈BI l:=by
 unfold Dk at h ⊢
 cases hf:(BI l).find? fun m=>isG sg g 4 m with
 |none=>rw[hf] at h;exact(h rfl).elim
 |some m=>exact⟨by simpa using List.find?_some hf,by simpa using List.mem_of_find?_eq_some hf⟩
theorem a9k{sg:List Sg}{g:Gs}{m m':List UInt8}(h:isG sg g 4 m=true)(h':isG sg g 4 m'=true):m=m':=by
 simp [isG] at h h';rw[←h.2,h'.2]
theorem a9l{sg:List Sg}{l:Nat}{g:Gs}{m:List UInt8}(hm:m∈BI l)(h:isG sg g 4 m=true):Dk sg l g=m:=by
 unfold Dk
 cases hf:(BI l).find? fun m=>isG sg g 4 m with
 |none=>exact(List.find?_eq_none.1 hf m hm (by simpa using h)).elim
 |some m'=>exact(a9k (by simpa using List.find?_some hf) h)
def enI(sg:List Sg)(n:Nat)(x y:Gs)(k:Int)(N:Nat):Prop:=
 restP sg x (pE sg (n+1) .fin) y (Ed sg (pE sg n .value) N k) 0∧(y.bad=false→(sg.length:Int)-y.pos<N)∧(y.bad=false→x.pos<y.pos)
theorem a9m{sg:List Sg}{x:Gs}{n:Nat}{z:Int×Gs}(h:gsOk sg x)(h1:Ah sg x (pE sg n .base) z):enI sg n x z.2 z.1 (sg.length+1):=by
 have k1:=BS (k:=fun k s=>Ed sg (pE sg n .value) (sg.length+1) k s) (Dj (f:=pE sg (n+1) .fin) h) h1.1 (fun _ _=>rfl)
 have:=k1.1.1
 exact⟨k1,fun _=>by omega,h1.2⟩
theorem OT{sg:List Sg}{n:Nat}{x y:Gs}{k:Int}{N:Nat}(h:enI sg n x y k N)(hb:y.bad=false):∃M,N=M+1:=by
 have h1:=h.1.1.1;have h2:=h.2.1 hb
 match N with
 |0=>omega
 |M+1=>exact⟨M,rfl⟩
theorem a9n{sg:List Sg}{n:Nat}{x y:Gs}{k a:Int}{N:Nat}(h:enI sg n x y k N)(hb:y.bad=true):Ah sg x (pE sg (n+1) .fin) (a,y):=
 ⟨OP h.1 hb,fun hb2=>by simp only at hb2;rw[hb] at hb2;cases hb2⟩
theorem a9o{sg:List Sg}{n:Nat}{x y:Gs}{k:Int}{N:Nat}{w:Int×Gs}(h:enI sg n x y k N)(hq:isG sg y 4 [40]=true)(hw:Ah sg y (Cy sg (pE sg n .value) k) w):
 ∃M,N=M+1∧enI sg n x w.2 w.1 M:=by
 have hl:=Dh hq (by omega)
 obtain⟨M,rfl⟩:=OT h hl.1
 obtain⟨h1,hN,hb⟩:=h
 have k1:=DT h1 (g':=fun s=>(Cy sg (pE sg n .value) k s).bind fun p=>Ed sg (pE sg n .value) M p.1 p.2) (fun s hs=>by rw[Ed,if_pos (Je hs hq)])
 have k2:=BS (k:=fun k s=>Ed sg (pE sg n .value) M k s) k1 hw.1 (fun _ _=>rfl)
 have e:=CS hw
 have hN2:=hN hl.1;have hb2:=hb hl.1
 exact⟨M,rfl,k2,fun hwb=>by have:=e.2.2.2 hwb;omega,fun hwb=>by have:=e.2.2.2 hwb;omega⟩
theorem a9p{sg:List Sg}{n:Nat}{x y:Gs}{k:Int}{N:Nat}(hs:sgB sg)(h:enI sg n x y k N)(hp:isG sg y 4 [40]=false)(hq:isG sg y 4 [46]=true)(hn:nmG sg (Au y) 0=true):
 ∃M,N=M+1∧enI sg n x (Di (As (Au y) ⟨6,(pkG sg (Au y) 0).text,[k],false⟩)) (AX (Au y)) M:=by
 have hl:=Dh hq (by omega)
 obtain⟨M,rfl⟩:=OT h hl.1
 obtain⟨h1,hN,hb⟩:=h
 have hw:Df ⟨6,(pkG sg (Au y) 0).text,[k],false⟩:=⟨ON hs,by simp⟩
 have hn2:=QY hn
 have k1:=GJ (g':=fun s=>(Eb (Bc ⟨6,(pkG sg (Au y) 0).text,[k],false⟩ s)).bind fun p=>Ed sg (pE sg n .value) M p.1 p.2) h1 (by omega) hq (fun s hs ht=>by
  obtain⟨hb0,rfl⟩:=EP.1 hs
  rw[Ed,if_neg (by simp [EQ hs hp]),if_pos (show isM sg _ [46]=true from ht)]
  have e1:Cv sg (y.pos+1)=true:=by
   have:=Ll (sg:=sg) (n:=0) (g:=Au y) (Dg hn2.1)
   rw[hn] at this;simpa [Au] using this.symm
  have e2:(pkG sg (Au y) 0)=sgO sg (y.pos+1):=by rw[Jc hn2.1];simp [Au]
  rw[if_pos e1,e2])
 have hg:=Vk k1.1 hw (fun _=>by omega)
 have k2:=BS (k:=fun k s=>Ed sg (pE sg n .value) M k s) k1 hg.1 (fun _ _=>rfl)
 have e:=CS hg
 have hN2:=hN hl.1;have hb2:=hb hl.1
 simp only[Au] at e
 exact⟨M,rfl,k2,fun hwb=>by have:=e.2.2.2 hwb;simp only[Au] at*;omega,fun hwb=>by have:=e.2.2.2 hwb;simp only[Au] at*;omega⟩
theorem a9q{sg:List Sg}{n:Nat}{x y:Gs}{k a:Int}{N:Nat}(h:enI sg n x y k N)(hp:isG sg y 4 [40]=false)(hq:isG sg y 4 [46]=true)(hn:nmG sg (Au y) 0=false):
 Ah sg x (pE sg (n+1) .fin) (a,Bt (Au y)):=by
 have hl:=Dh hq (by omega)
 obtain⟨M,rfl⟩:=OT h hl.1
 obtain⟨h1,hN,hb⟩:=h
 have k1:=GJ (g':=fun _=>none) h1 (by omega) hq (fun s hs ht=>by
  obtain⟨hb0,rfl⟩:=EP.1 hs
  rw[Ed,if_neg (by simp [EQ hs hp]),if_pos (show isM sg _ [46]=true from ht)]
  have e1:Cv sg (y.pos+1)=false:=by
   have:=Ll (sg:=sg) (n:=0) (g:=Au y) (Dg (by simpa [Au] using hb0))
   rw[hn] at this;simpa [Au] using this.symm
  rw[if_neg (by simp [e1])])
 exact⟨a0B k1 (fun _ _=>rfl),fun hb2=>by simp [Bt] at hb2⟩
theorem a9r{sg:List Sg}{n:Nat}{x y:Gs}{k:Int}{N:Nat}(h:enI sg n x y k N)(hb:y.bad=false)(hp:isG sg y 4 [40]=false)(hq:isG sg y 4 [46]=false):Ah sg x (pE sg (n+1) .fin) (k,y):=by
 obtain⟨M,rfl⟩:=OT h hb
 exact⟨GI (DT h.1 (g':=fun s=>some (k,s)) (fun s hs=>by rw[Ed,if_neg (by simp [EQ hs hp]),if_neg (by simp [EQ hs hq])])),h.2.2⟩
theorem Ri{sg:List Sg}{g:Gs}{s:Ps}(hs:pur g=some s):(pkG sg g 0).kind=(sgO sg s.pos).kind:=by
 obtain⟨h,rfl⟩:=EP.1 hs
 rw[Jc h];simp
theorem Rj{sg:List Sg}{g:Gs}(h:(pkG sg g 0).kind≠0):g.bad=false∧g.pos<sg.length:=by
 unfold pkG at h
 split at h
 ·simp [Es] at h
 ·rename_i hh;simp only[Int.add_zero] at hh;exact⟨by cases hb:g.bad<;>simp_all,by omega⟩
theorem a0L{sg:List Sg}{x:Gs}{n:Nat}(hs:sgB sg)(h:gsOk sg x)(hk:(pkG sg x 0).kind=1):Ah sg x (pE sg (n+1) .base) (Eh sg x,DS sg x):=by
 obtain⟨a,b⟩:=Rc hs h
 have e:(pur x).bind (pE sg (n+1) .base)=(pur x).bind (BN sg):=by
  cases hp:pur x with
  |none=>rfl
  |some s=>simp only[Option.bind_some];rw[pE,if_pos (by rw[←Ri hp];exact hk)]
 obtain⟨a1,a2,a3,a4,a5⟩:=a
 exact⟨⟨a1,a2,a3,by rw[e];exact a4,by rw[e];exact a5⟩,b⟩
theorem a9s{sg:List Sg}{x:Gs}{n:Nat}{k:Int}(hs:sgB sg)(h:gsOk sg x)(hk:(pkG sg x 0).kind=k)(hk2:k=2∨k=3):Ah sg x (pE sg (n+1) .base) (AX x,Ev sg x k false):=by
 have hl:=Rj (sg:=sg) (g:=x) (by rw[hk];omega)
 obtain⟨a,b⟩:=OO (k:=k) (b:=false) hs h (fun _=>hl.2)
 have e:(pur x).bind (pE sg (n+1) .base)=(pur x).bind (Et sg k false):=by
  cases hp:pur x with
  |none=>rfl
  |some s=>
   simp only[Option.bind_some]
   have:=Ri (sg:=sg) hp
   rcases hk2 with rfl|rfl
   ·rw[pE,if_neg (by omega),if_pos (by omega)]
   ·rw[pE,if_neg (by omega),if_neg (by omega),if_pos (by omega)]
 obtain⟨a1,a2,a3,a4,a5⟩:=a
 exact⟨⟨a1,a2,a3,by rw[e];exact a4,by rw[e];exact a5⟩,b⟩
theorem OU{sg:List Sg}{x:Gs}{s:Ps}{n:Nat}(hs:pur x=some s)(h1:(pkG sg x 0).kind≠1)(h2:(pkG sg x 0).kind≠2)(h3:(pkG sg x 0).kind≠3):pE sg (n+1) .base s=
 if isM sg s [91] then(Bs sg (pE sg n .value) [93] (sg.length+1) [] (adv s)).bind fun p=>Bm sg [93] ⟨4,[],p.1,false⟩ p.2
 else if isM sg s [40]&&Gg sg s then(Bs sg (BN sg) [41] (sg.length+1) [] (adv s)).bind fun p=>(BB sg [41] p.2).bind fun s1=>(BB sg [61,62] s1).bind fun s2=>(pE sg n .pick s2).bind fun q=>Bc ⟨9,[],p.1++[q.1],false⟩ q.2
 else if isM sg s [40] then(pE sg n .value (adv s)).bind fun p=>Bm sg [41] ⟨11,[],[p.1],false⟩ p.2
 else none:=by
 have:=Ri (sg:=sg) hs
 rw[pE,if_neg (by omega),if_neg (by omega),if_neg (by omega)]
theorem a9t{sg:List Sg}{x:Gs}{n:Nat}{l:List Int×Gs}(h:gsOk sg x)(h1:(pkG sg x 0).kind≠1)(h2:(pkG sg x 0).kind≠2)(h3:(pkG sg x 0).kind≠3)(hq:isG sg x 4 [91]=true)
 (hl:BG sg (Au x) (Bs sg (pE sg n .value) [93] (sg.length+1) []) l) (hll:l.1.length≤3001):
 Ah sg x (pE sg (n+1) .base) (CL sg l.2 [93],CK sg l.2 [93] ⟨4,[],l.1,false⟩):=by
 have k1:=GJ (g':=fun s=>(Bs sg (pE sg n .value) [93] (sg.length+1) [] s).bind fun p=>Bm sg [93] ⟨4,[],p.1,false⟩ p.2) (Dj (f:=pE sg (n+1) .base) h) (by omega) hq
  (fun s hs ht=>by rw[OU hs h1 h2 h3,if_pos (show isM sg s [91]=true from ht)])
 have k2:=BS (k:=fun ks s=>Bm sg [93] ⟨4,[],ks,false⟩ s) k1 hl (fun _ _=>rfl)
 have hw:Df ⟨4,[],l.1,false⟩:=⟨by simp,by simp only;omega⟩
 refine⟨Rh k2 hw,fun hb=> ?_⟩
 have:=(MW (m:=[93]) hl.1 hw).2 hb
 have e1:=hl.2.2.1
 simp only[Au] at this e1 ⊢
 omega
theorem a9u{sg:List Sg}{x:Gs}{n:Nat}{z:Int×Gs}(h:gsOk sg x)(h1:(pkG sg x 0).kind≠1)(h2:(pkG sg x 0).kind≠2)(h3:(pkG sg x 0).kind≠3)(hn:isG sg x 4 [91]=false)(hq:isG sg x 4 [40]=true)
 (ha:∀s,pur x=some s→Gg sg s=false) (hz:Ah sg (Au x) (pE sg n .value) z):
 Ah sg x (pE sg (n+1) .base) (CL sg z.2 [41],CK sg z.2 [41] ⟨11,[],[z.1],false⟩):=by
 have k1:=GJ (g':=fun s=>(pE sg n .value s).bind fun p=>Bm sg [41] ⟨11,[],[p.1],false⟩ p.2) (Dj (f:=pE sg (n+1) .base) h) (by omega) hq
  (fun s hs ht=>by rw[OU hs h1 h2 h3,if_neg (by simp [EQ hs hn]),if_neg (by simp [ha s hs]),if_pos (show isM sg s [40]=true from ht)])
 have k2:=BS (k:=fun k s=>Bm sg [41] ⟨11,[],[k],false⟩ s) k1 hz.1 (fun _ _=>rfl)
 have hw:Df ⟨11,[],[z.1],false⟩:=⟨by simp,by simp⟩
 refine⟨Rh k2 hw,fun hb=> ?_⟩
 have:=(MW (m:=[41]) hz.1.1 hw).2 hb
 have e1:=hz.1.2.2.1
 simp only[Au] at this e1 ⊢
 omega
theorem a9v{sg:List Sg}{x:Gs}{n:Nat}{a:Int}(h:gsOk sg x)(h1:(pkG sg x 0).kind≠1)(h2:(pkG sg x 0).kind≠2)(h3:(pkG sg x 0).kind≠3)(hn:isG sg x 4 [91]=false)(hq:isG sg x 4 [40]=false):
 Ah sg x (pE sg (n+1) .base) (a,Bt x):=
 ⟨a0B (Dj h) (fun s hs=>by rw[OU hs h1 h2 h3,if_neg (by simp [EQ hs hn]),if_neg (by simp [EQ hs hq]),if_neg (by simp [EQ hs hq])]),fun hb=>by simp [Bt] at hb⟩
def fnR(sg:List Sg)(n:Nat)(s:Ps):PR:=(BB sg [40] s).bind fun s0=>(Bs sg (BN sg) [41] (sg.length+1) [] s0).bind fun p=>(BB sg [41] p.2).bind fun s1=>(BB sg [61,62] s1).bind fun s2=>(pE sg n .pick s2).bind fun q=>Bc ⟨9,[],p.1++[q.1],false⟩ q.2
theorem a9w{sg:List Sg}{x:Gs}{n:Nat}{l:List Int×Gs}{z:Int×Gs}(h:gsOk sg x)(hl:BG sg (Av sg x [40]) (Bs sg (BN sg) [41] (sg.length+1) []) l)(hll:l.1.length≤3001)
 (hz:Ah sg (Av sg (Av sg l.2 [41]) [61,62]) (pE sg n .pick) z):Ah sg x (fnR sg n) (AX z.2,As z.2 ⟨9,[],l.1++[z.1],false⟩):=by
 have k1:=Hj (g':=fun s0=>(Bs sg (BN sg) [41] (sg.length+1) [] s0).bind fun p=>(BB sg [41] p.2).bind fun s1=>(BB sg [61,62] s1).bind fun s2=>(pE sg n .pick s2).bind fun q=>Bc ⟨9,[],p.1++[q.1],false⟩ q.2) (Dj (f:=fnR sg n) h) (fun _ _=>rfl)
 have k2:=BS (k:=fun ks s=>(BB sg [41] s).bind fun s1=>(BB sg [61,62] s1).bind fun s2=>(pE sg n .pick s2).bind fun q=>Bc ⟨9,[],ks++[q.1],false⟩ q.2) k1 hl (fun _ _=>rfl)
 have k3:=Hj (g':=fun s1=>(BB sg [61,62] s1).bind fun s2=>(pE sg n .pick s2).bind fun q=>Bc ⟨9,[],l.1++[q.1],false⟩ q.2) k2 (fun _ _=>rfl)
 have k4:=Hj (g':=fun s2=>(pE sg n .pick s2).bind fun q=>Bc ⟨9,[],l.1++[q.1],false⟩ q.2) k3 (fun _ _=>rfl)
 have k5:=BS (k:=fun k s=>Bc ⟨9,[],l.1++[k],false⟩ s) k4 hz.1 (fun _ _=>rfl)
 have hw:Df ⟨9,[],l.1++[z.1],false⟩:=⟨by simp,by simp;omega⟩
 refine⟨Rf k5 hw,fun hb=> ?_⟩
 obtain⟨d1,d2,d3⟩:= @Jf z.2 ⟨9,[],l.1++[z.1],false⟩
 have e1:=CS hz
 have e2:=k4.2.2.1
 have:=e1.2.2.2 (d3 hb)
 simp only[d2];omega
end Go.My
end
section
namespace Go.My
open Go.Eng Go.Proofs
variable {G:GInv}
abbrev iG {α:Type} (i:Int×Int×Bool×List Nd×α×Nat):Gs:=⟨i.1,i.2.1,i.2.2.1,i.2.2.2.1⟩
def vP(r n:Nat)(s:ST)(g:Gs):Prop:=(rOk s g∧g.deep≤20)∧12*((s.sg.length:Int)-g.pos)+r≤n
def wP(r n:Nat)(s:ST)(g:Gs):Prop:=(rOk s g∧(g.bad=false→g.deep≤20))∧12*((s.sg.length:Int)-g.pos)+r≤n
theorem Na{I:Nat→Prop}{N:Nat}(h:∃M,N=M+1∧I M):I (N-1)∧N-1<N:=by
 obtain⟨M,rfl,h⟩:=h
 exact⟨by simpa using h,by omega⟩
theorem Dw{sg:List Sg}{g:Gs}{m:List UInt8}(h:isG sg g 4 m=false):Ax sg g m=g:=by simp [Ax,h]
theorem Ez{sg:List Sg}{g:Gs}{m:List UInt8}(h:isG sg g 4 m=true):Ax sg g m=Au g:=by simp [Ax,h]
theorem a9x{α:Type}{sg:List Sg}{x:Gs}{f:Ps→Option (α×Ps)}{y:α×Gs}(h:Ah sg x f y)(hb:y.2.bad=false):x.bad=false:=((CS h).2.2.2 hb).1
abbrev Nb (sg:List Sg) (one:Ps→PR) (m:List UInt8) (x y:Gs) (ks:List Int) (N:Nat):Prop:=IA sg one m x y ks N∧(y.bad=false→x.bad=false)
theorem a9y{sg:List Sg}{one:Ps→PR}{m:List UInt8}{x y:Gs}{ks:List Int}{N:Nat}{z:Int×Gs}(h:Nb sg one m x y ks N)(hz:Ah sg y one z)(hq:isG sg y 4 m=false)(hc:isG sg z.2 4 [44]=false):
 BG sg x (Bs sg one m (sg.length+1) []) (ks++[z.1],Ax sg z.2 [44]):=by rw[Dw hc];exact a9e h.1 hq hz hc
theorem a9z{sg:List Sg}{one:Ps→PR}{m:List UInt8}{x y:Gs}{ks:List Int}{N:Nat}{z:Int×Gs}(h:Nb sg one m x y ks N)(hz:Ah sg y one z)(hq:isG sg y 4 m=false)(hc:isG sg z.2 4 [44]=true):
 Nb sg one m x (Ax sg z.2 [44]) (ks++[z.1]) (N-1)∧N-1<N:=by
 rw[Ez hc]
 obtain⟨a,b⟩:=Na (a9f h.1 hq hz hc)
 exact⟨⟨a,fun hb=>h.2 (a9x hz hb)⟩,b⟩
theorem Gk(g:Gs):(⟨g.pos,g.deep,g.bad,g.nodes⟩:Gs)=g:=rfl
theorem a9A{s:ST}{one:Ps→PR}{m:List UInt8}{x y:Gs}{ks:List Int}{N:Nat}(hr:sgB s.sg)(h:Nb s.sg one m x y ks N):ks.length≤3000:=by
 have h1:=h.1.2.2;have h2:=h.1.1.1.1.2;have h3:=hr.1;omega
theorem a9B{s:ST}{one:Ps→PR}{m:List UInt8}{x y:Gs}{ks:List Int}{N n:Nat}(hr:sgB s.sg)(h:Nb s.sg one m x y ks N)(hb:y.bad=false)(hd:x.bad=false→x.deep≤20)(hn:12*((s.sg.length:Int)-x.pos)+11≤n):vP 11 n s y:=by
 have h1:=h.1.1;have h2:=hd (h.2 hb);have h3:=h1.2.1;have h4:=h1.2.2.1
 exact⟨⟨⟨hr,h1.1⟩,by omega⟩,by omega⟩
theorem a9C{s:ST}{one:Ps→PR}{m:List UInt8}{x y:Gs}{ks:List Int}{N:Nat}(hr:sgB s.sg)(h:Nb s.sg one m x y ks N):rOk s y:=⟨hr,h.1.1.1⟩
theorem a9D{sg:List Sg}{x:Gs}{one:Ps→PR}{k:Int}{l:List Int×Gs}(hx:gsOk sg x)(h:BG sg (Av sg x [40]) (Bs sg one [41] (sg.length+1) []) l∧l.1.length≤3001):
 Ah sg x (Cy sg one k) (CL sg l.2 [41],CK sg l.2 [41] ⟨5,[],[k]++l.1,false⟩):=a9g hx h.1 h.2
attribute [local irreducible] pE Bs Cy fnR Ah BG gsOk Av CK As Di Ev Ax DS Eh AX CL pkG isG nmG
end Go.My
end
section
namespace Go.My
open Go.Eng Go.Proofs
variable {G:GInv}
theorem OW{sg:List Sg}{f:Ps→PR}{x:Gs}{y:Int×Gs}(h:Ah sg x f y)(hb:x.bad=false→x.deep≤20):y.2.bad=false→y.2.deep≤20:=fun hy=>by
 have:=CS h;have h2:=hb (this.2.2.2 hy).1;omega
theorem Hk{sg:List Sg}{x:Gs}{m:List UInt8}(h:gsOk sg x):gsOk sg (Av sg x m)∧(Av sg x m).deep=x.deep∧x.pos≤(Av sg x m).pos∧((Av sg x m).bad=false→x.bad=false):=by
 obtain⟨a1,a2,a3,a4⟩:=(OL (m:=m) h).1
 refine⟨a1,a2,a3,fun hb=> ?_⟩
 cases hx:x.bad with
 |false=>rfl
 |true=>rw[DR hx,Dg hb] at a4;cases a4
theorem a9E{s:ST}{x:Gs}{n:Nat}{one:Ps→PR}{l:List Int×Gs}(h:rOk s x)(hd:x.deep≤20)(hq:isG s.sg x 4 [40]=true)(hn:12*((s.sg.length:Int)-x.pos)≤n+2)(hl:BG s.sg (Av s.sg x [40]) (Bs s.sg one [41] (s.sg.length+1) []) l∧l.1.length≤3001):
 vP 10 n s (Av s.sg (Av s.sg l.2 [41]) [61,62]):=by
 have a:=Hk (m:=[40]) h.2;have b:=Hk (m:=[41]) hl.1.1;have c:=Hk (m:=[61,62]) b.1
 have e1:=hl.1.2.1;have e2:=hl.1.2.2.1
 have e3:(Av s.sg x [40]).pos=x.pos+1:=by rw[Av,if_pos hq];rfl
 exact⟨⟨⟨h.1,c.1⟩,by omega⟩,by omega⟩
theorem Fi{s:ST}{x y:Gs}{f:Ps→PR}{z:Int×Gs}(h:rOk s x)(hz:Ah s.sg y f z):rOk s z.2:=⟨h.1,FQ hz⟩
theorem a9F{l:Nat}:(BI l).length≤2:=by
 unfold BI;split<;>simp
attribute [local irreducible] pE Bs Cy fnR Ah BG gsOk Av CK As Di Ev Ax DS Eh AX CL pkG isG nmG
end Go.My
end
section
namespace Go.My
open Go.Eng Go.Proofs
variable {G:GInv}
theorem a0M{s:ST}{x:Gs}{n r:Nat}{k:Int}{m:List UInt8}(hq:isG s.sg x k m=true)(hk:k≠0)(h1:rOk s x)(h2:x.bad=false→x.deep≤20)(h3:12*((s.sg.length:Int)-x.pos)+1≤(n+1:Nat))(hr:r≤12):wP r n s (Au x)∧vP r n s (Au x):=by
 have hl:=Dh hq hk
 have ha:=Gj h1.2 hl.2
 have hd:=h2 hl.1
 have e:(Au x).pos=x.pos+1:=rfl
 have e2:(Au x).deep=x.deep:=rfl
 have a:12*((s.sg.length:Int)-(Au x).pos)+r≤n:=by omega
 exact⟨⟨⟨⟨h1.1,ha⟩,fun _=>by omega⟩,a⟩,⟨⟨⟨h1.1,ha⟩,by omega⟩,a⟩⟩
abbrev enJ (sg:List Sg) (n:Nat) (x y:Gs) (k:Int) (N:Nat):Prop:=enI sg n x y k N∧(y.bad=false→y.deep≤20)
theorem a9G{s:ST}{x:Gs}{n:Nat}{z:Int×Gs}(h1:rOk s x)(h2:x.bad=false→x.deep≤20)(hz:Ah s.sg x (pE s.sg n .base) z):enJ s.sg n x z.2 z.1 (s.sg.length+1):=⟨a9m h1.2 hz,OW hz h2⟩
theorem a9H{sg:List Sg}{n:Nat}{x y:Gs}{k:Int}{N:Nat}{w:Int×Gs}(h:enJ sg n x y k N)(hw:Ah sg y (Cy sg (pE sg n .value) k) w)(hq:isG sg y 4 [40]=true):enJ sg n x w.2 w.1 (N-1)∧N-1<N:=by
 obtain⟨a,b⟩:=Na (a9o h.1 hq hw)
 exact⟨⟨a,OW hw h.2⟩,b⟩
theorem a9I{s:ST}{x:Gs}{n:Nat}(h1:rOk s x)(h2:x.bad=false→x.deep≤20)(h3:12*((s.sg.length:Int)-x.pos)+2≤(n+1:Nat)):wP 1 n s x:=⟨⟨h1,h2⟩,by omega⟩
attribute [local irreducible] pE Bs Cy fnR Ah BG gsOk Av CK As Di Ev Ax DS Eh AX CL pkG isG nmG
end Go.My
end
section
namespace Go.My
open Go.Eng Go.Proofs
variable {G:GInv}
def a9J(sg:List Sg)(n l:Nat)(m:List UInt8)(x y:Gs)(ks:List Int)(N M:Nat):Prop:=(chN sg n l m x y ks N∧N≤M)∧(y.bad=false→y.deep≤20)
theorem a9K{s:ST}{x:Gs}{n:Nat}{l:Int}{z:Int×Gs}(hl:l=6)(h:Ah s.sg x (pE s.sg n .fin) z):Ah s.sg x (pE s.sg (n+1) (.chain l.toNat)) z:=by subst hl;exact a9h h
theorem ch_ks{s:ST}{n l:Nat}{x y:Gs}{m:List UInt8}{ks:List Int}{N M:Nat}(hs:sgB s.sg)(h:a9J s.sg n l m x y ks N M):ks.length≤3001:=by
 have:=h.1.1.2.2.1;have:=h.1.1.1.1.1.2;have:=hs.1;omega
abbrev pkX (x:Gs):Gs:=gDp (if x.deep=20 then Bt x else x) 1
theorem a0N{s:ST}{x:Gs}{n:Nat}(h1:rOk s x)(h2:x.deep≤20)(h3:12*((s.sg.length:Int)-x.pos)+10≤(n+1:Nat)):wP (9-(0:Int).toNat) n s (pkX x)∧rOk s (pkX x):=by
 obtain⟨p1,p2,p3⟩:= @OQ x
 have hok:gsOk s.sg (pkX x):=by
  unfold pkX;split
  ·exact⟨h1.2.1,by simp only[gDp,Bt];have:=h1.2.2.1;omega,h1.2.2.2⟩
  ·exact⟨h1.2.1,by simp only[gDp];have:=h1.2.2.1;omega,h1.2.2.2⟩
 exact⟨⟨⟨⟨h1.1,hok⟩,fun hb=>by have:=p3 hb;simp only[pkX] at*;omega⟩,by simp only[pkX] at*;simp;omega⟩,h1.1,hok⟩
theorem a0O{s:ST}{x:Gs}{n:Nat}{z:Int×Gs}(h1:rOk s x)(h2:x.deep≤20)(h3:12*((s.sg.length:Int)-x.pos)+10≤(n+1:Nat))(hz:Ah s.sg (pkX x) (pE s.sg n (.chain 0)) z)(hq:isG s.sg z.2 4 [63]=true):vP 10 n s (Ax s.sg z.2 [63]):=by
 rw[Ez hq]
 have hl:=Dh hq (by omega)
 have e:=CS hz
 obtain⟨p1,p2,p3⟩:= @OQ x
 have e1:(Au z.2).pos=z.2.pos+1:=rfl
 have e2:(Au z.2).deep=z.2.deep:=rfl
 have e3:=p3 (e.2.2.2 hl.1).1
 simp only[pkX] at*
 exact⟨⟨⟨h1.1,Gj (FQ hz) hl.2⟩,by omega⟩,by omega⟩
theorem a9L{s:ST}{x:Gs}{n:Nat}{z a:Int×Gs}(h1:rOk s x)(h2:x.deep≤20)(h3:12*((s.sg.length:Int)-x.pos)+10≤(n+1:Nat))(hz:Ah s.sg (pkX x) (pE s.sg n (.chain 0)) z)(hq:isG s.sg z.2 4 [63]=true)
 (ha:Ah s.sg (Ax s.sg z.2 [63]) (pE s.sg n .pick) a):vP 10 n s (Av s.sg a.2 [58]):=by
 have hv:=a0O h1 h2 h3 hz hq
 have e:=CS ha
 have t:=Hk (m:=[58]) (FQ ha)
 have:=hv.2;have:=hv.1.2
 exact⟨⟨⟨h1.1,t.1⟩,by omega⟩,by omega⟩
theorem a9M{s:ST}{x:Gs}{n:Nat}{z a b:Int×Gs}(h1:rOk s x)(h2:x.deep≤20)(hz:Ah s.sg (pkX x) (pE s.sg n (.chain 0)) z)(hq:isG s.sg z.2 4 [63]=true)
 (ha:Ah s.sg (Ax s.sg z.2 [63]) (pE s.sg n .pick) a) (hb:Ah s.sg (Av s.sg a.2 [58]) (pE s.sg n .pick) b):
 Ah s.sg x (pE s.sg (n+1) .pick) (AX b.2,gDp (As b.2 ⟨8,[],[z.1,a.1,b.1],false⟩) (-1)):=by
 rw[Ez hq] at ha
 exact a8X h1.2 h2 hz hq ha hb
theorem a9N{s:ST}{x:Gs}{n:Nat}{z:Int×Gs}(h1:rOk s x)(h2:x.deep≤20)(hz:Ah s.sg (pkX x) (pE s.sg n (.chain 0)) z)(hq:isG s.sg z.2 4 [63]=false):Ah s.sg x (pE s.sg (n+1) .pick) (z.1,gDp (Ax s.sg z.2 [63]) (-1)):=by
 rw[Dw hq];exact a8W h1.2 h2 hz hq
theorem a9O{s:ST}{x:Gs}{n:Nat}{z:Int×Gs}(h1:rOk s x)(hz:Ah s.sg (pkX x) (pE s.sg n (.chain 0)) z)(hq:isG s.sg z.2 4 [63]=false):0≤(Ax s.sg z.2 [63]).deep∧(Ax s.sg z.2 [63]).deep≤21:=by
 rw[Dw hq];exact(FQ hz).2.1
theorem Vn{g:Gs}{x:Nd}:(As g x).deep=g.deep:=Jf.1
theorem a9P{α:Type}{sg:List Sg}{x:Gs}{f:Ps→Option (α×Ps)}{y:α×Gs}(h:Ah sg x f y):0≤y.2.deep∧y.2.deep≤21:=(FQ h).2.1
theorem a9Q{s:ST}{x:Gs}{n:Nat}(h1:rOk s x)(h2:x.deep≤20)(h3:12*((s.sg.length:Int)-x.pos)+11≤(n+1:Nat)):vP 10 n s x:=⟨⟨h1,h2⟩,by omega⟩
def vaJ(sg:List Sg)(n:Nat)(x y:Gs)(ks:List Int)(N:Nat):Prop:=JZ sg n x y ks N∧y.deep≤20
theorem a0P{sg:List Sg}{n:Nat}{x y:Gs}{ks:List Int}{N:Nat}(h:JZ sg n x y ks N∧y.deep≤20):vaJ sg n x y ks N:=h
theorem a9R{s:ST}{x:Gs}{n:Nat}{z:Int×Gs}(h1:rOk s x)(hz:Ah s.sg x (pE s.sg n .pick) z)(hq:isG s.sg z.2 4 [46,46]=false):Ah s.sg x (pE s.sg (n+1) .value) z:=a8Y h1.2 hz hq
theorem a9S{s:ST}{x:Gs}{n:Nat}{z:Int×Gs}(h1:rOk s x)(h2:x.deep≤20)(hz:Ah s.sg x (pE s.sg n .pick) z)(hq:isG s.sg z.2 4 [46,46]=true):vaJ s.sg n x z.2 [z.1] (s.sg.length+1):=a0P ⟨a8Z h1.2 hz hq,by have:=(CS hz).1;omega⟩
theorem Vo{s:ST}{x y:Gs}{n:Nat}{ks:List Int}{N:Nat}(h1:rOk s x)(h:vaJ s.sg n x y ks N):rOk s y:=⟨h1.1,h.1.1.1⟩
theorem a9T{s:ST}{x y:Gs}{n:Nat}{ks:List Int}{N:Nat}(hs:sgB s.sg)(h:vaJ s.sg n x y ks N):ks.length≤3001:=by
 have:=h.1.2.2.1;have:=h.1.1.1.1.2;have:=hs.1;omega
theorem a9U{s:ST}{x y:Gs}{n N:Nat}{ks:List Int}(h1:rOk s x)(h:vaJ s.sg n x y ks N)(hq:isG s.sg y 4 [46,46]=false):Ah s.sg x (pE s.sg (n+1) .value) (AX (Ax s.sg y [46,46]),As (Ax s.sg y [46,46]) ⟨10,[],ks,false⟩):=by
 rw[Dw hq];exact a9a h.1 hq h1.1
theorem a9V{s:ST}{x y:Gs}{n N:Nat}{ks:List Int}(h1:rOk s x)(h:vaJ s.sg n x y ks N)(hq:isG s.sg y 4 [46,46]=false):rOk s (Ax s.sg y [46,46]):=by
 rw[Dw hq];exact Vo h1 h
attribute [local irreducible] pE Bs Cy fnR Ah BG gsOk Av CK As Di Ev Ax DS Eh AX CL pkG isG nmG
end Go.My
end
section
namespace Go.My
open Go.Eng
theorem ET{k:Int}{t:List UInt8}{ks:List Int}{b:Bool}(ht:t.length≤3000)(hk:ks.length≤4000):Df ⟨k,t,ks,b⟩:=⟨ht,hk⟩
theorem Kc{α:Type}{sg:List Sg}{x:Gs}{f g:Ps→Option (α×Ps)}{y:α×Gs}(h:Ah sg x g y)(e:∀s,pur x=some s→f s=g s):Ah sg x f y:=by
 have e2:(pur x).bind f=(pur x).bind g:=by
  cases hp:pur x with
  |none=>rfl
  |some s=>exact e s hp
 obtain⟨⟨a1,a2,a3,a4,a5⟩,b⟩:=h
 exact⟨⟨a1,a2,a3,by rw[e2];exact a4,by rw[e2];exact a5⟩,b⟩
theorem Lo{α:Type}{sg:List Sg}{x:Gs}{k:Int}{m:List UInt8}{f g:Ps→Option (α×Ps)}{y:α×Gs}(hx:gsOk sg x)(hk:k≠0)(hm:isG sg x k m=true)(h:BG sg (Au x) g y)
 (e:∀s,pur x=some s→isT sg s k m=true→f s=g (adv s)):Ah sg x f y:=by
 have k1:=GJ (g':=g) (Dj (f:=f) hx) hk hm e
 have k2:=BS (k:=fun a s=>some (a,s)) k1 h (fun s _=>by cases g s<;>rfl)
 refine⟨GI k2,fun _=> ?_⟩
 have:=h.2.2.1
 simp only[Au] at this;omega
theorem Lp{sg:List Sg}{x y:Gs}{f:Ps→PR}{w:Nd}{m:List UInt8}(h:restP sg x f y (Bm sg m w) 0)(hw:Df w):Ah sg x f (CL sg y m,CK sg y m w):=by
 refine⟨Rh h hw,fun hb=> ?_⟩
 have:=(MW (m:=m) h.1 hw).2 hb
 have:=h.2.2.1
 simp only at*;omega
theorem Rk{sg:List Sg}{x y:Gs}{f:Ps→PR}{w:Nd}(h:restP sg x f y (Bc w) 0)(hw:Df w)(hp:y.bad=false→x.pos<y.pos):Ah sg x f (AX y,As y w):=by
 obtain⟨d1,d2,d3⟩:= @Jf y w
 exact⟨Rf h hw,fun hb=>by simp only[d2];exact hp (d3 hb)⟩
theorem a0Q{sg:List Sg}{x:Gs}{b:Bool}(h:gsOk sg x):restP sg x (CW sg b) (CO sg x) (fun s=>if isM sg s [61] then(Cg sg (adv s)).bind fun q=>Bm sg [59] ⟨12,Dc sg x,[q.1],b⟩ q.2 else Bm sg [59] ⟨12,Dc sg x,[],b⟩ s) 0:=
 BS (k:=fun t s=>if isM sg s [61] then(Cg sg (adv s)).bind fun q=>Bm sg [59] ⟨12,t,[q.1],b⟩ q.2 else Bm sg [59] ⟨12,t,[],b⟩ s) (Dj h) (MX h).1 (fun _ _=>rfl)
theorem Jg{sg:List Sg}{x:Gs}(hs:sgB sg):(Dc sg x).length≤3000:=by
 unfold Dc;split
 ·exact ON hs
 ·simp
theorem a9W{sg:List Sg}{x:Gs}{b:Bool}(hs:sgB sg)(h:gsOk sg x)(hq:isG sg (CO sg x) 4 [61]=false):
 Ah sg x (CW sg b) (CL sg (CO sg x) [59],CK sg (CO sg x) [59] ⟨12,Dc sg x,[],b⟩):=
 Lp (DT (a0Q h) (fun s hs=>by rw[if_neg (by simp [EQ hs hq])])) (ET (Jg hs) (by simp))
theorem a9X{sg:List Sg}{x:Gs}{b:Bool}{z:Int×Gs}(hs:sgB sg)(h:gsOk sg x)(hq:isG sg (CO sg x) 4 [61]=true)(hz:Ah sg (Au (CO sg x)) (Cg sg) z):
 Ah sg x (CW sg b) (CL sg z.2 [59],CK sg z.2 [59] ⟨12,Dc sg x,[z.1],b⟩):=by
 have k1:=GJ (g':=fun s=>(Cg sg s).bind fun q=>Bm sg [59] ⟨12,Dc sg x,[q.1],b⟩ q.2) (a0Q h) (by omega) hq (fun s hs ht=>by rw[if_pos (show isM sg s [61]=true from ht)])
 have k2:=BS (k:=fun k s=>Bm sg [59] ⟨12,Dc sg x,[k],b⟩ s) k1 hz.1 (fun _ _=>rfl)
 exact Lp k2 (ET (Jg hs) (by simp))
def GK(sg:List Sg)(b:Bool)(s:Ps):PR:=if isM sg s [59] then Bm sg [59] ⟨15,[],[],b⟩ s else(Cg sg s).bind fun p=>Bm sg [59] ⟨15,[],[p.1],b⟩ p.2
theorem a9Y{sg:List Sg}{x:Gs}{b:Bool}(h:gsOk sg x)(hq:isG sg x 4 [59]=true):Ah sg x (GK sg b) (CL sg x [59],CK sg x [59] ⟨15,[],[],b⟩):=
 Lp (DT (Dj h) (fun s hs=>by rw[GK,if_pos (Je hs hq)])) (ET (by simp) (by simp))
theorem a9Z{sg:List Sg}{x:Gs}{b:Bool}{z:Int×Gs}(h:gsOk sg x)(hq:isG sg x 4 [59]=false)(hz:Ah sg x (Cg sg) z):Ah sg x (GK sg b) (CL sg z.2 [59],CK sg z.2 [59] ⟨15,[],[z.1],b⟩):=by
 have k1:=DT (Dj (f:=GK sg b) h) (g':=fun s=>(Cg sg s).bind fun p=>Bm sg [59] ⟨15,[],[p.1],b⟩ p.2) (fun s hs=>by rw[GK,if_neg (by simp [EQ hs hq])])
 have k2:=BS (k:=fun k s=>Bm sg [59] ⟨15,[],[k],b⟩ s) k1 hz.1 (fun _ _=>rfl)
 exact Lp k2 (ET (by simp) (by simp))
theorem b0a{sg:List Sg}{x:Gs}{z:Int×Gs}(h:gsOk sg x)(hz:Ah sg (Av sg x [40]) (Cg sg) z):BG sg x (Db sg) (z.1,Av sg z.2 [41]):=by
 have k1:=Hj (g':=fun s1=>(Cg sg s1).bind fun p=>(BB sg [41] p.2).map fun s2=>(p.1,s2)) (Dj (f:=Db sg) h) (fun _ _=>rfl)
 have k2:=BS (k:=fun k s=>(BB sg [41] s).map fun s2=>(k,s2)) k1 hz.1 (fun _ _=>rfl)
 have k3:=Hj (g':=fun s=>some (z.1,s)) k2 (fun s _=>by cases BB sg [41] s<;>rfl)
 exact GI k3
theorem b0b{sg:List Sg}{one:Bool→Ps→PR}{m:List UInt8}{N:Nat}{ks:List Int}{s:Ps}(h:isM sg s m=true):Cz sg one m (N+1) ks s=some (ks,s):=by rw[Cz,if_pos h]
theorem b0c{sg:List Sg}{one:Bool→Ps→PR}{m:List UInt8}{N:Nat}{ks:List Int}{s:Ps}(h:isM sg s m=false):Cz sg one m (N+1) ks s=(one ((sgO sg s.pos).blank&&decide (0<ks.length)) s).bind fun p=>Cz sg one m N (ks++[p.1]) p.2:=by rw[Cz,if_neg (by simp [h])]
def Kd(sg:List Sg)(one:Bool→Ps→PR)(m:List UInt8)(x y:Gs)(ks:List Int)(N:Nat):Prop:=
 restP sg x (Cz sg one m (sg.length+1) []) y (Cz sg one m N ks) 0∧(y.bad=false→(sg.length:Int)-y.pos<N)∧(ks.length:Int)≤y.pos+1∧(y.bad=false→(ks.length:Int)≤y.pos)
theorem a0R{sg:List Sg}{one:Bool→Ps→PR}{m:List UInt8}{x:Gs}(h:gsOk sg x):Kd sg one m x x [] (sg.length+1):=by
 have:=h.1
 exact⟨Dj h,fun _=>by omega,by simp;omega,fun _=>by simp;omega⟩
theorem a0S{sg:List Sg}{one:Bool→Ps→PR}{m:List UInt8}{x y:Gs}{ks:List Int}{N:Nat}(h:Kd sg one m x y ks N)(hb:y.bad=true):BG sg x (Cz sg one m (sg.length+1) []) (ks,y):=OP h.1 hb
theorem a0T{sg:List Sg}{one:Bool→Ps→PR}{m:List UInt8}{x y:Gs}{ks:List Int}{N:Nat}(h:Kd sg one m x y ks N)(hb:y.bad=false):∃M,N=M+1:=by
 have h1:=h.1.1.1;have h2:=h.2.1 hb
 match N with
 |0=>omega
 |M+1=>exact⟨M,rfl⟩
theorem a0U{sg:List Sg}{one:Bool→Ps→PR}{m:List UInt8}{x y:Gs}{ks:List Int}{N:Nat}(h:Kd sg one m x y ks N)(hq:isG sg y 4 m=true):BG sg x (Cz sg one m (sg.length+1) []) (ks,y):=by
 obtain⟨M,rfl⟩:=a0T h (Dh hq (by omega)).1
 exact GI (DT h.1 (g':=fun s=>some (ks,s)) (fun s hs=>b0b (Je hs hq)))
theorem a0V{sg:List Sg}{one:Bool→Ps→PR}{m:List UInt8}{x y:Gs}{ks:List Int}{N:Nat}{z:Int×Gs}(h:Kd sg one m x y ks N)(hb:y.bad=false)(hq:isG sg y 4 m=false)
 (hz:Ah sg y (one ((pkG sg y 0).blank&&decide (0<ks.length))) z):∃M,N=M+1∧Kd sg one m x z.2 (ks++[z.1]) M:=by
 obtain⟨M,rfl⟩:=a0T h hb
 obtain⟨h1,h2,h3,h4⟩:=h
 have k1:=DT h1 (g':=fun s=>(one ((pkG sg y 0).blank&&decide (0<ks.length)) s).bind fun p=>Cz sg one m M (ks++[p.1]) p.2) (fun s hs=>by
  rw[b0c (EQ hs hq)]
  obtain⟨_,rfl⟩:=EP.1 hs
  rw[Jc hb];simp)
 have k2:=BS (k:=fun k s=>Cz sg one m M (ks++[k]) s) k1 hz.1 (fun _ _=>rfl)
 have e:=CS hz
 have:=h2 hb;have:=h4 hb
 exact⟨M,rfl,k2,fun hw=>by have:=e.2.2.2 hw;omega,by simp;omega,fun hw=>by have:=e.2.2.2 hw;simp;omega⟩
theorem b0d{sg:List Sg}{one:Bool→Ps→PR}{x:Gs}(h:gsOk sg x)(hd:x.deep≤20):restP sg x (BC sg one) (Av sg (gDp (if x.deep=20 then Bt x else x) 1) [123])
 (fun s1=>(Cz sg one [125] (sg.length+1) [] s1).bind fun p=>(Bm sg [125] ⟨18,[],p.1,false⟩ p.2).map fun q=>(q.1,dp q.2 (-1))) 1:=by
 have k0:restP sg x (BC sg one) (gDp (if x.deep=20 then Bt x else x) 1) (fun s=>(BB sg [123] s).bind fun s1=>(Cz sg one [125] (sg.length+1) [] s1).bind fun p=>(Bm sg [125] ⟨18,[],p.1,false⟩ p.2).map fun q=>(q.1,dp q.2 (-1))) 1:=by
  split
  ·rename_i h20
   have h2:=a0C (d:=0) (g':=BC sg one) (Dj (f:=BC sg one) h) (fun s hs=>by
    obtain⟨_,rfl⟩:=EP.1 hs
    rw[BC,if_pos (by simp only;omega)])
   refine Ln (d:=0) h2 ⟨by simp only[Bt];omega,by simp only[Bt];omega⟩ (fun s hs=> ?_)
   rw[Jd] at hs;cases hs
  ·rename_i h20
   refine Ln (d:=0) (Dj h) ⟨by have:=h.2.1.1;omega,by omega⟩ (fun s hs=> ?_)
   obtain⟨_,rfl⟩:=EP.1 hs
   rw[BC,if_neg (by simp only;omega)]
 exact Hj k0 (fun _ _=>rfl)
def ifR(sg:List Sg)(n:Nat)(b:Bool)(s:Ps):PR:=(Db sg s).bind fun p=>(BC sg (stR sg n) p.2).bind fun q=>
 if isW sg q.2 [101,108,115,101] then(BC sg (stR sg n) (adv q.2)).bind fun r=>Bc ⟨16,[],[p.1,q.1,r.1],b⟩ r.2 else Bc ⟨16,[],[p.1,q.1],b⟩ q.2
theorem a0W{sg:List Sg}{n:Nat}{b:Bool}{x:Gs}{c q:Int×Gs}(h:gsOk sg x)(hc:BG sg x (Db sg) c)(hq:Ah sg c.2 (BC sg (stR sg n)) q):
 restP sg x (ifR sg n b) q.2 (fun s=>if isW sg s [101,108,115,101] then(BC sg (stR sg n) (adv s)).bind fun r=>Bc ⟨16,[],[c.1,q.1,r.1],b⟩ r.2 else Bc ⟨16,[],[c.1,q.1],b⟩ s) 0:=by
 have k1:=BS (k:=fun a s=>(BC sg (stR sg n) s).bind fun q=>if isW sg q.2 [101,108,115,101] then(BC sg (stR sg n) (adv q.2)).bind fun r=>Bc ⟨16,[],[a,q.1,r.1],b⟩ r.2 else Bc ⟨16,[],[a,q.1],b⟩ q.2) (Dj (f:=ifR sg n b) h) hc (fun _ _=>rfl)
 exact BS (k:=fun k s=>if isW sg s [101,108,115,101] then(BC sg (stR sg n) (adv s)).bind fun r=>Bc ⟨16,[],[c.1,k,r.1],b⟩ r.2 else Bc ⟨16,[],[c.1,k],b⟩ s) k1 hq.1 (fun _ _=>rfl)
theorem b0e{sg:List Sg}{n:Nat}{b:Bool}{x:Gs}{c q:Int×Gs}(h:gsOk sg x)(hc:BG sg x (Db sg) c)(hq:Ah sg c.2 (BC sg (stR sg n)) q)(he:isG sg q.2 1 [101,108,115,101]=false):
 Ah sg x (ifR sg n b) (AX q.2,As q.2 ⟨16,[],[c.1,q.1],b⟩):=by
 have k:=DT (a0W (b:=b) h hc hq) (g':=Bc ⟨16,[],[c.1,q.1],b⟩) (fun s hs=>by rw[if_neg (by simp [Ew hs he])])
 refine Rk k (ET (by simp) (by simp)) (fun hb=> ?_)
 have:=(CS hq).2.2.2 hb;have:=hc.2.2.1;omega
theorem b0f{sg:List Sg}{n:Nat}{b:Bool}{x:Gs}{c q r:Int×Gs}(h:gsOk sg x)(hc:BG sg x (Db sg) c)(hq:Ah sg c.2 (BC sg (stR sg n)) q)(he:isG sg q.2 1 [101,108,115,101]=true)
 (hr:Ah sg (Au q.2) (BC sg (stR sg n)) r):Ah sg x (ifR sg n b) (AX r.2,As r.2 ⟨16,[],[c.1,q.1,r.1],b⟩):=by
 have k:=GJ (a0W (b:=b) h hc hq) (g':=fun s=>(BC sg (stR sg n) s).bind fun r=>Bc ⟨16,[],[c.1,q.1,r.1],b⟩ r.2) (by omega) he (fun s hs ht=>by rw[if_pos (show isW sg s [101,108,115,101]=true from ht)])
 have k2:=BS (k:=fun k s=>Bc ⟨16,[],[c.1,q.1,k],b⟩ s) k hr.1 (fun _ _=>rfl)
 refine Rk k2 (ET (by simp) (by simp)) (fun hb=> ?_)
 have:=(CS hr).2.2.2 hb;have:=hc.2.2.1;have:=(CS hq).2.1
 simp only[Au] at*;omega
def whR(sg:List Sg)(n:Nat)(b:Bool)(s:Ps):PR:=(Db sg s).bind fun p=>(BC sg (stR sg n) p.2).bind fun q=>Bc ⟨17,[],[p.1,q.1],b⟩ q.2
theorem b0g{sg:List Sg}{n:Nat}{b:Bool}{x:Gs}{c q:Int×Gs}(h:gsOk sg x)(hc:BG sg x (Db sg) c)(hq:Ah sg c.2 (BC sg (stR sg n)) q):
 Ah sg x (whR sg n b) (AX q.2,As q.2 ⟨17,[],[c.1,q.1],b⟩):=by
 have k1:=BS (k:=fun a s=>(BC sg (stR sg n) s).bind fun q=>Bc ⟨17,[],[a,q.1],b⟩ q.2) (Dj (f:=whR sg n b) h) hc (fun _ _=>rfl)
 have k2:=BS (k:=fun k s=>Bc ⟨17,[],[c.1,k],b⟩ s) k1 hq.1 (fun _ _=>rfl)
 refine Rk k2 (ET (by simp) (by simp)) (fun hb=> ?_)
 have:=(CS hq).2.2.2 hb;have:=hc.2.2.1;omega
def setR(sg:List Sg)(b:Bool)(s:Ps):PR:=(Eu sg s).bind fun p=>(BB sg [61] p.2).bind fun s1=>(Cg sg s1).bind fun q=>Bm sg [59] ⟨13,p.1,[q.1],b⟩ q.2
theorem b0h{sg:List Sg}{b:Bool}{x:Gs}{z:Int×Gs}(hs:sgB sg)(h:gsOk sg x)(hz:Ah sg (Av sg (CO sg x) [61]) (Cg sg) z):
 Ah sg x (setR sg b) (CL sg z.2 [59],CK sg z.2 [59] ⟨13,Dc sg x,[z.1],b⟩):=by
 have k1:=BS (k:=fun t s=>(BB sg [61] s).bind fun s1=>(Cg sg s1).bind fun q=>Bm sg [59] ⟨13,t,[q.1],b⟩ q.2) (Dj (f:=setR sg b) h) (MX h).1 (fun _ _=>rfl)
 have k2:=Hj (g':=fun s1=>(Cg sg s1).bind fun q=>Bm sg [59] ⟨13,Dc sg x,[q.1],b⟩ q.2) k1 (fun _ _=>rfl)
 have k3:=BS (k:=fun k s=>Bm sg [59] ⟨13,Dc sg x,[k],b⟩ s) k2 hz.1 (fun _ _=>rfl)
 exact Lp k3 (ET (Jg hs) (by simp))
def doR(sg:List Sg)(b:Bool)(s:Ps):PR:=(Cg sg s).bind fun p=>Bm sg [59] ⟨14,[],[p.1],b⟩ p.2
theorem b0i{sg:List Sg}{b:Bool}{x:Gs}{z:Int×Gs}(h:gsOk sg x)(hz:Ah sg x (Cg sg) z):Ah sg x (doR sg b) (CL sg z.2 [59],CK sg z.2 [59] ⟨14,[],[z.1],b⟩):=by
 have k3:=BS (k:=fun k s=>Bm sg [59] ⟨14,[],[k],b⟩ s) (Dj (f:=doR sg b) h) hz.1 (fun _ _=>rfl)
 exact Lp k3 (ET (by simp) (by simp))
theorem Jh{sg:List Sg}{n:Nat}{b:Bool}{s:Ps}:stR sg (n+1) b s=
 if(sgO sg s.pos).kind=5 then Et sg 19 b s
 else if isW sg s [118,97,114] then CW sg b (adv s)
 else if isW sg s [114,101,116,117,114,110] then GK sg b (adv s)
 else if isW sg s [105,102] then ifR sg n b (adv s)
 else if isW sg s [119,104,105,108,101] then whR sg n b (adv s)
 else if Cv sg s.pos&&isM sg (adv s) [61] then(Cg sg (adv (adv s))).bind fun p=>Bm sg [59] ⟨13,(sgO sg s.pos).text,[p.1],b⟩ p.2
 else doR sg b s:=rfl
theorem set_eq{sg:List Sg}{b:Bool}{s:Ps}(h:(Cv sg s.pos&&isM sg (adv s) [61])=true):(Cg sg (adv (adv s))).bind (fun p=>Bm sg [59] ⟨13,(sgO sg s.pos).text,[p.1],b⟩ p.2)=setR sg b s:=by
 simp only[Bool.and_eq_true] at h
 rw[setR,Eu,if_pos h.1]
 simp only[Option.bind_some]
 rw[BB,if_pos h.2];rfl
theorem Gl{sg:List Sg}{x:Gs}{s:Ps}(hs:pur x=some s):(sgO sg s.pos).kind=(pkG sg x 0).kind:=(Ri hs).symm
theorem b0j{sg:List Sg}{x:Gs}{n:Nat}{b:Bool}(hs:sgB sg)(h:gsOk sg x)(hk:(pkG sg x 0).kind=5):Ah sg x (stR sg (n+1) b) (AX x,Ev sg x 19 b):=
 Kc (OO hs h (fun _=>(Rj (by omega)).2)) (fun s hp=>by rw[Jh,if_pos (by rw[Gl hp];exact hk)])
theorem b0k{sg:List Sg}{x:Gs}{n:Nat}{b:Bool}{z:Int×Gs}(h:gsOk sg x)(hk:(pkG sg x 0).kind≠5)(hq:isG sg x 1 [118,97,114]=true)(hz:Ah sg (Au x) (CW sg b) z):Ah sg x (stR sg (n+1) b) z:=
 Lo h (by omega) hq hz.1 (fun s hp ht=>by rw[Jh,if_neg (by rw[Gl hp];exact hk),if_pos (show isW sg s _=true from ht)])
theorem a0X{sg:List Sg}{x:Gs}{n:Nat}{b:Bool}{z:Int×Gs}(h:gsOk sg x)(hk:(pkG sg x 0).kind≠5)(h1:isG sg x 1 [118,97,114]=false)(hq:isG sg x 1 [114,101,116,117,114,110]=true)(hz:Ah sg (Au x) (GK sg b) z):Ah sg x (stR sg (n+1) b) z:=
 Lo h (by omega) hq hz.1 (fun s hp ht=>by rw[Jh,if_neg (by rw[Gl hp];exact hk),if_neg (by simp [Ew hp h1]),if_pos (show isW sg s _=true from ht)])
theorem a0Y{sg:List Sg}{x:Gs}{n:Nat}{b:Bool}{z:Int×Gs}(h:gsOk sg x)(hk:(pkG sg x 0).kind≠5)(h1:isG sg x 1 [118,97,114]=false)(h2:isG sg x 1 [114,101,116,117,114,110]=false)(hq:isG sg x 1 [105,102]=true)
 (hz:Ah sg (Au x) (ifR sg n b) z):Ah sg x (stR sg (n+1) b) z:=
 Lo h (by omega) hq hz.1 (fun s hp ht=>by rw[Jh,if_neg (by rw[Gl hp];exact hk),if_neg (by simp [Ew hp h1]),if_neg (by simp [Ew hp h2]),if_pos (show isW sg s _=true from ht)])
theorem b0l{sg:List Sg}{x:Gs}{n:Nat}{b:Bool}{z:Int×Gs}(h:gsOk sg x)(hk:(pkG sg x 0).kind≠5)(h1:isG sg x 1 [118,97,114]=false)(h2:isG sg x 1 [114,101,116,117,114,110]=false)(h3:isG sg x 1 [105,102]=false)(hq:isG sg x 1 [119,104,105,108,101]=true)
 (hz:Ah sg (Au x) (whR sg n b) z):Ah sg x (stR sg (n+1) b) z:=
 Lo h (by omega) hq hz.1 (fun s hp ht=>by rw[Jh,if_neg (by rw[Gl hp];exact hk),if_neg (by simp [Ew hp h1]),if_neg (by simp [Ew hp h2]),if_neg (by simp [Ew hp h3]),if_pos (show isW sg s _=true from ht)])
def seG(sg:List Sg)(x:Gs):Bool:=nmG sg x 0&&(decide ((pkG sg x 1).kind=4)&&((pkG sg x 1).text==[61]))
theorem Vp{sg:List Sg}{x:Gs}{s:Ps}(hs:pur x=some s):(Cv sg s.pos&&isM sg (adv s) [61])=seG sg x:=by
 obtain⟨hb,rfl⟩:=EP.1 hs
 have:=Ll (sg:=sg) (n:=0) (Dg hb)
 simp only[Int.add_zero] at this
 rw[seG,this,Jc hb];rfl
theorem b0m{sg:List Sg}{x:Gs}{n:Nat}{b:Bool}{z:Int×Gs}(h:gsOk sg x)(hk:(pkG sg x 0).kind≠5)(h1:isG sg x 1 [118,97,114]=false)(h2:isG sg x 1 [114,101,116,117,114,110]=false)(h3:isG sg x 1 [105,102]=false)(h4:isG sg x 1 [119,104,105,108,101]=false)
 (hq:seG sg x=true) (hz:Ah sg x (setR sg b) z):Ah sg x (stR sg (n+1) b) z:=
 Kc hz (fun s hp=>by rw[Jh,if_neg (by rw[Gl hp];exact hk),if_neg (by simp [Ew hp h1]),if_neg (by simp [Ew hp h2]),if_neg (by simp [Ew hp h3]),if_neg (by simp [Ew hp h4]),if_pos (by rw[Vp hp];exact hq),set_eq (by rw[Vp hp];exact hq)])
theorem b0n{sg:List Sg}{x:Gs}{n:Nat}{b:Bool}{z:Int×Gs}(h:gsOk sg x)(hk:(pkG sg x 0).kind≠5)(h1:isG sg x 1 [118,97,114]=false)(h2:isG sg x 1 [114,101,116,117,114,110]=false)(h3:isG sg x 1 [105,102]=false)(h4:isG sg x 1 [119,104,105,108,101]=false)
 (hq:seG sg x=false) (hz:Ah sg x (doR sg b) z):Ah sg x (stR sg (n+1) b) z:=
 Kc hz (fun s hp=>by rw[Jh,if_neg (by rw[Gl hp];exact hk),if_neg (by simp [Ew hp h1]),if_neg (by simp [Ew hp h2]),if_neg (by simp [Ew hp h3]),if_neg (by simp [Ew hp h4]),if_neg (by rw[Vp hp];simp [hq])])
theorem b0o{sg:List Sg}{x:Gs}{b:Bool}{l:List Int×Gs}{q:Int×Gs}(hs:sgB sg)(h:gsOk sg x)(hl:BG sg (Av sg (CO sg x) [40]) (Bs sg (BN sg) [41] (sg.length+1) []) l)(hll:l.1.length≤3001)
 (hq:Ah sg (Av sg l.2 [41]) (EN sg) q):Ah sg x (Ef sg b) (AX q.2,As q.2 ⟨20,Dc sg x,l.1++[q.1],b⟩):=by
 have k1:=BS (k:=fun t s=>(BB sg [40] s).bind fun s1=>(Bs sg (BN sg) [41] (sg.length+1) [] s1).bind fun q=>(BB sg [41] q.2).bind fun s2=>(EN sg s2).bind fun r=>Bc ⟨20,t,q.1++[r.1],b⟩ r.2) (Dj (f:=Ef sg b) h) (MX h).1 (fun _ _=>rfl)
 have k2:=Hj (g':=fun s1=>(Bs sg (BN sg) [41] (sg.length+1) [] s1).bind fun q=>(BB sg [41] q.2).bind fun s2=>(EN sg s2).bind fun r=>Bc ⟨20,Dc sg x,q.1++[r.1],b⟩ r.2) k1 (fun _ _=>rfl)
 have k3:=BS (k:=fun ks s=>(BB sg [41] s).bind fun s2=>(EN sg s2).bind fun r=>Bc ⟨20,Dc sg x,ks++[r.1],b⟩ r.2) k2 hl (fun _ _=>rfl)
 have k4:=Hj (g':=fun s2=>(EN sg s2).bind fun r=>Bc ⟨20,Dc sg x,l.1++[r.1],b⟩ r.2) k3 (fun _ _=>rfl)
 have k5:=BS (k:=fun k s=>Bc ⟨20,Dc sg x,l.1++[k],b⟩ s) k4 hq.1 (fun _ _=>rfl)
 refine Rk k5 (ET (Jg hs) (by simp;omega)) (fun hb=> ?_)
 have:=(CS hq).2.2.2 hb;have:=k4.2.2.1;omega
theorem b0p{sg:List Sg}{x:Gs}{b:Bool}{l:List Int×Gs}(hs:sgB sg)(h:gsOk sg x)(hl:BG sg (Av sg (CO sg x) [123]) (Cz sg (CJ sg) [125] (sg.length+1) []) l)(hll:l.1.length≤3001):
 Ah sg x (Gh sg b) (CL sg l.2 [125],CK sg l.2 [125] ⟨21,Dc sg x,l.1,b⟩):=by
 have k1:=BS (k:=fun t s=>(BB sg [123] s).bind fun s1=>(Cz sg (CJ sg) [125] (sg.length+1) [] s1).bind fun q=>Bm sg [125] ⟨21,t,q.1,b⟩ q.2) (Dj (f:=Gh sg b) h) (MX h).1 (fun _ _=>rfl)
 have k2:=Hj (g':=fun s1=>(Cz sg (CJ sg) [125] (sg.length+1) [] s1).bind fun q=>Bm sg [125] ⟨21,Dc sg x,q.1,b⟩ q.2) k1 (fun _ _=>rfl)
 have k3:=BS (k:=fun ks s=>Bm sg [125] ⟨21,Dc sg x,ks,b⟩ s) k2 hl (fun _ _=>rfl)
 exact Lp k3 (ET (Jg hs) (by omega))
theorem b0q{sg:List Sg}{x:Gs}{b:Bool}(hs:sgB sg)(h:gsOk sg x)(hk:(pkG sg x 0).kind=5):Ah sg x (CJ sg b) (AX x,Ev sg x 19 b):=
 Kc (OO hs h (fun _=>(Rj (by omega)).2)) (fun s hp=>by rw[CJ,if_pos (by rw[Gl hp];exact hk)])
theorem b0r{sg:List Sg}{x:Gs}{b:Bool}{z:Int×Gs}(h:gsOk sg x)(hk:(pkG sg x 0).kind≠5)(hq:isG sg x 1 [118,97,114]=true)(hz:Ah sg (Au x) (CW sg b) z):Ah sg x (CJ sg b) z:=
 Lo h (by omega) hq hz.1 (fun s hp ht=>by rw[CJ,if_neg (by rw[Gl hp];exact hk),if_pos (show isW sg s _=true from ht)])
theorem b0s{sg:List Sg}{x:Gs}{b:Bool}{z:Int×Gs}(h:gsOk sg x)(hk:(pkG sg x 0).kind≠5)(hq:isG sg x 1 [118,97,114]=false)(hz:Ah sg x (Ef sg b) z):Ah sg x (CJ sg b) z:=
 Kc hz (fun s hp=>by rw[CJ,if_neg (by rw[Gl hp];exact hk),if_neg (by simp [Ew hp hq])])
theorem b0t{sg:List Sg}{x:Gs}{b:Bool}(hs:sgB sg)(h:gsOk sg x)(hk:(pkG sg x 0).kind=5):Ah sg x (CN sg b) (AX x,Ev sg x 19 b):=
 Kc (OO hs h (fun _=>(Rj (by omega)).2)) (fun s hp=>by rw[CN,if_pos (by rw[Gl hp];exact hk)])
theorem b0u{sg:List Sg}{x:Gs}{b:Bool}{z:Int×Gs}(h:gsOk sg x)(hk:(pkG sg x 0).kind≠5)(hq:isG sg x 1 [118,97,114]=true)(hz:Ah sg (Au x) (CW sg b) z):Ah sg x (CN sg b) z:=
 Lo h (by omega) hq hz.1 (fun s hp ht=>by rw[CN,if_neg (by rw[Gl hp];exact hk),if_pos (show isW sg s _=true from ht)])
theorem b0v{sg:List Sg}{x:Gs}{b:Bool}{z:Int×Gs}(h:gsOk sg x)(hk:(pkG sg x 0).kind≠5)(h1:isG sg x 1 [118,97,114]=false)(hq:isG sg x 1 [99,108,97,115,115]=true)(hz:Ah sg (Au x) (Gh sg b) z):Ah sg x (CN sg b) z:=
 Lo h (by omega) hq hz.1 (fun s hp ht=>by rw[CN,if_neg (by rw[Gl hp];exact hk),if_neg (by simp [Ew hp h1]),if_pos (show isW sg s _=true from ht)])
theorem b0w{sg:List Sg}{x:Gs}{b:Bool}{z:Int×Gs}(h:gsOk sg x)(hk:(pkG sg x 0).kind≠5)(h1:isG sg x 1 [118,97,114]=false)(hq:isG sg x 1 [99,108,97,115,115]=false)(hz:Ah sg x (Ef sg b) z):Ah sg x (CN sg b) z:=
 Kc hz (fun s hp=>by rw[CN,if_neg (by rw[Gl hp];exact hk),if_neg (by simp [Ew hp h1]),if_neg (by simp [Ew hp hq])])
def Fw(sg:List Sg)(y:Gs)(ks:List Int)(ms:List (Int×Int))(N:Nat):Prop:=
 gsOk sg y∧y.deep=0∧(pur y).bind (Hh sg N ks ms)=Hh sg (sg.length+1) [] [] ps0∧(y.bad=false→(sg.length:Int)-y.pos<N)∧(ks.length:Int)≤y.pos+1∧(y.bad=false→(ks.length:Int)≤y.pos)∧ms.length=ks.length
def gs0:Gs:=⟨0,0,false,[]⟩
theorem b0x{sg:List Sg}:gsOk sg gs0:=⟨by simp [gs0],by simp [gs0],by simp [gs0],by simp [gs0]⟩
theorem b0y{sg:List Sg}:Fw sg gs0 [] [] (sg.length+1):=⟨b0x,rfl,rfl,fun _=>by simp only[gs0];omega,by simp [gs0],fun _=>by simp [gs0],rfl⟩
theorem b0z{sg:List Sg}{y:Gs}{ks:List Int}{ms:List (Int×Int)}{N:Nat}{z:Int×Gs}(h:Fw sg y ks ms N)(hb:y.bad=false)(hl:y.pos<sg.length)(hz:Ah sg y (CN sg ((pkG sg y 0).blank&&decide (0<ks.length))) z):
 ∃M,N=M+1∧Fw sg z.2 (ks++[z.1]) (ms++[(y.pos,z.2.pos)]) M:=by
 obtain⟨h0,hd,h1,h2,h3,h4,h5⟩:=h
 have h2:=h2 hb;have h4:=h4 hb
 match N with
 |0=>omega
 |M+1=>
  have e:=CS hz
  obtain⟨⟨a1,a2,a3,a4,a5⟩,b⟩:=hz
  refine⟨M,rfl,a1,by omega,?_,fun hw=>by have:=e.2.2.2 hw;omega,by simp;omega,fun hw=>by have:=e.2.2.2 hw;simp;omega,by simp [h5]⟩
  rw[←h1,Dg hb,Option.bind_some,Hh,if_pos hl]
  rw[Dg hb] at a4 a5
  have eb:(sgO sg y.pos).blank=(pkG sg y 0).blank:=by rw[Jc hb];simp
  simp only[Option.bind_some] at a4 a5
  rw[eb,a4]
  cases hp:CN sg ((pkG sg y 0).blank&&decide (0<ks.length)) ⟨y.pos,y.deep,y.nodes⟩ with
  |none=>rfl
  |some p=>
   simp only[Option.map_some,Option.bind_some]
   have:=a5 p hp
   have hpos:z.2.pos=p.2.pos:=by
    rw[hp] at a4
    simp only[Option.map_some] at a4
    obtain⟨_,e2⟩:=EP.1 a4
    rw[e2]
   rw[this,hpos]
def Fj(sg:List Sg)(y:Gs)(ks:List Int):Gs:=As y ⟨22,[],ks,false⟩
theorem b0A{sg:List Sg}{y:Gs}{ks:List Int}{ms:List (Int×Int)}{N:Nat}(h:Fw sg y ks ms N)(hb:(Fj sg y ks).bad=true)(he:y.bad=true∨¬y.pos<sg.length):FM sg=none:=by
 obtain⟨h0,hd,h1,h2,h3,h4,h5⟩:=h
 rw[FM,←h1]
 cases hy:y.bad with
 |true=>rw[DR hy];rfl
 |false=>
  have h2:=h2 hy
  have he:¬y.pos<sg.length:=by rcases he with he|he
                               ·rw[hy] at he;cases he
                               ·exact he
  match N with
  |0=>have:=h0.1;omega
  |N+1=>
   rw[Dg hy,Option.bind_some,Hh,if_neg he,Option.bind_some]
   unfold Fj As at hb
   split at hb
   ·rename_i hf
    have h3:y.nodes.length=300:=by simpa [DB,hy] using hf
    rw[Bc,if_pos (by simp only;omega)];rfl
   ·simp only at hb;rw[hy] at hb;cases hb
theorem b0B{sg:List Sg}{y:Gs}{ks:List Int}{ms:List (Int×Int)}{N:Nat}(h:Fw sg y ks ms N)(hb:(Fj sg y ks).bad=false)(he:y.bad=true∨¬y.pos<sg.length):
 FM sg=if BO (Fj sg y ks).nodes then some (ms,(Fj sg y ks).nodes) else none:=by
 obtain⟨h0,hd,h1,h2,h3,h4,h5⟩:=h
 have hy:=(@Jf y ⟨22,[],ks,false⟩).2.2 hb
 have h2:=h2 hy
 have he:¬y.pos<sg.length:=by rcases he with he|he
                              ·rw[hy] at he;cases he
                              ·exact he
 rw[FM,←h1]
 match N with
 |0=>have:=h0.1;omega
 |N+1=>
  rw[Dg hy,Option.bind_some,Hh,if_neg he,Option.bind_some]
  unfold Fj As at hb ⊢
  split at hb
  ·simp [Bt] at hb
  ·rename_i hf
   rw[if_neg hf]
   have hf2:=Ra (by simpa using hf)
   have:=h0.2.2.1
   rw[Bc,if_neg (by simp only;omega)]
   simp only[Option.bind_some]
end Go.My
end
section
namespace Go.My
open Go.Eng Go.Proofs
variable {G:GInv}
theorem Lq{P:Program}{f:FuncId}{S:Sig}{fn:Func}{c:Code}(hfn:P.funcs[f]? =some fn)(hb:fn.body=some c)(hn:(fn.name== "runtime.NumGoroutine")=false)(hp:∀x,¬S.pre x):Am G P f S:=
 ⟨⟨⟨fn,hfn,hn,by simp [hb]⟩,fun x y hx _=>(hp x hx).elim⟩,fun x hx=>(hp x hx).elim⟩
theorem b0C{r:Nat}{s:ST}{g:Gs}(hr:1≤r)(h:wP r 0 s g):False:=by
 have h1:=h.1.1.2.1.2;have h2:=h.2;omega
theorem b0D{r:Nat}{s:ST}{g:Gs}(hr:1≤r)(h:vP r 0 s g):False:=by
 have h1:=h.1.1.2.1.2;have h2:=h.2;omega
theorem b0E{s:ST}{g:Gs}(h:rOk s g∧g.deep≤20):vP 11 peN s g:=by
 have h1:=h.1.2.1;have h2:=h.1.1.1
 exact⟨h,by unfold peN;omega⟩
def okD(s:ST)(x:Gs):Prop:=rOk s x∧x.deep≤20
def okN(s:ST)(x:Gs):Prop:=okD s x∧x.bad=false∧x.pos<s.sg.length
theorem a0Z{s:ST}{x:Gs}(h:okN s x):rOk s (Au x)∧(Au x).deep≤20:=⟨⟨h.1.1.1,Gj h.1.1.2 h.2.2⟩,h.1.2⟩
theorem a1a{s:ST}{x:Gs}(h:rOk s x):rOk s (CO s.sg x):=⟨h.1,(MX h.2).1.1⟩
theorem b0F{s:ST}{x:Gs}(h:rOk s x):(CO s.sg x).deep=x.deep∧x.pos≤(CO s.sg x).pos:=by
 have:=CS (MX h.2);exact⟨this.1,this.2.1⟩
theorem GL{s:ST}{x:Gs}{m:List UInt8}(h:rOk s x):rOk s (Av s.sg x m)∧(Av s.sg x m).deep=x.deep:=⟨⟨h.1,(Hk h.2).1⟩,(Hk h.2).2.1⟩
theorem Ke{a:Bool}{k:Int}(h:a=true):decide (k>0)=(a&&decide (0<k)):=by simp [h]
theorem Kf{a:Bool}{k:Int}(h:a=false):false=(a&&decide (0<k)):=by simp [h]
theorem b0G{s:ST}{x:Gs}(h:rOk s x)(hd:x.deep≤20)(hq:isG s.sg (CO s.sg x) 4 [61]=true):rOk s (Ax s.sg (CO s.sg x) [61])∧(Ax s.sg (CO s.sg x) [61]).deep≤20:=by
 rw[Ez hq]
 have a:=a1a h;have b:=b0F h
 refine⟨⟨h.1,Gj a.2 (Dh hq (by omega)).2⟩,?_⟩
 have e:(Au (CO s.sg x)).deep=(CO s.sg x).deep:=rfl
 omega
theorem b0H{s:ST}{x:Gs}{b:Bool}{z:Int×Gs}(h:rOk s x)(hq:isG s.sg (CO s.sg x) 4 [61]=true)(hz:Ah s.sg (Ax s.sg (CO s.sg x) [61]) (Cg s.sg) z):
 Ah s.sg x (CW s.sg b) (CL s.sg z.2 [59],CK s.sg z.2 [59] ⟨12,Dc s.sg x,[z.1],b⟩):=by
 rw[Ez hq] at hz;exact a9X h.1 h.2 hq hz
theorem b0I{s:ST}{x:Gs}(h:rOk s x)(hq:isG s.sg (CO s.sg x) 4 [61]=false):rOk s (Ax s.sg (CO s.sg x) [61]):=by
 rw[Dw hq];exact a1a h
theorem b0J{s:ST}{x:Gs}{b:Bool}(h:rOk s x)(hq:isG s.sg (CO s.sg x) 4 [61]=false):
 Ah s.sg x (CW s.sg b) (CL s.sg (Ax s.sg (CO s.sg x) [61]) [59],CK s.sg (Ax s.sg (CO s.sg x) [61]) [59] ⟨12,Dc s.sg x,[],b⟩):=by
 rw[Dw hq];exact a9W h.1 h.2 hq
theorem a1b{α:Type}{s:ST}{x:Gs}{f:Ps→Option (α×Ps)}{y:α×Gs}(h:okD s x)(hy:BG s.sg x f y):okD s y.2:=⟨⟨h.1.1,hy.1⟩,by have:=hy.2.1;have:=h.2;omega⟩
theorem a1c{s:ST}{x:Gs}{w:List UInt8}(h:okD s x)(hq:isG s.sg x 1 w=true):okN s x:=⟨h,(Dh hq (by omega)).1,(Dh hq (by omega)).2⟩
theorem a1d{s:ST}{x:Gs}{m:List UInt8}(h:okD s x)(hq:isG s.sg x 1 m=true):okD s (Au x):=⟨(a0Z (a1c h hq)).1,(a0Z (a1c h hq)).2⟩
theorem b0K{s:ST}{x:Gs}{n:Nat}{b:Bool}{c q:Int×Gs}(h:okD s x)(hk:(pkG s.sg x 0).kind≠5)(h1:isG s.sg x 1 [118,97,114]=false)(h2:isG s.sg x 1 [114,101,116,117,114,110]=false)(h3:isG s.sg x 1 [105,102]=false)(hq:isG s.sg x 1 [119,104,105,108,101]=true)
 (hc:BG s.sg (Au x) (Db s.sg) c) (hz:Ah s.sg c.2 (BC s.sg (stR s.sg n)) q):Ah s.sg x (stR s.sg (n+1) b) (AX q.2,As q.2 ⟨17,[],[c.1,q.1],b⟩):=
 b0l h.1.2 hk h1 h2 h3 hq (b0g (a1d h hq).1.2 hc hz)
theorem b0L{α:Type}{s:ST}{x:Gs}{n:Nat}{f:Ps→Option (α×Ps)}{y:α×Gs}(h:20-x.deep≤(n:Int))(hy:BG s.sg x f y):20-y.2.deep≤(n:Int):=by have:=hy.2.1;omega
theorem b0M{α:Type}{s:ST}{x:Gs}{n:Nat}{f:Ps→Option (α×Ps)}{y:α×Gs}(h:20-x.deep≤(n:Int))(hy:Ah s.sg x f y):20-y.2.deep≤(n:Int):=b0L h hy.1
attribute [local irreducible] pE Bs Cy fnR Ah BG gsOk Av CK As Di Ev Ax DS Eh AX CL pkG isG nmG CO Dc CW GK Db Cg BC stR Cz
end Go.My
end
section
namespace Go.My
open Go.Eng Go.Proofs
variable {G:GInv}
attribute [local irreducible] pE Bs Cy fnR Ah BG gsOk Av CK As Di Ev Ax DS Eh AX CL pkG isG nmG CO Dc CW GK Db Cg BC stR Cz EN Ef CJ CN Gh BN
end Go.My
end
section
namespace Go.My
open Go.Eng
def HJ(t:List UInt8)(i br:Int)(l:List Sg)(n:Nat):Prop:=
 (0≤i∧i≤t.length)∧(0≤br∧br≤i)∧(l.length:Int)≤i∧(t.length:Int)-i<n∧Dn t (t.length+1) 0 0=(Dn t n i br).map (l++ ·)
theorem b0N{t:List UInt8}:HJ t 0 0 [] (t.length+1):=by
 refine⟨by omega,by omega,by simp,by simp;omega,?_⟩
 cases Dn t (t.length+1) 0 0<;>simp
theorem Rl{t:List UInt8}{n:Nat}{i br:Int}{c:UInt8}(hc:t[i.toNat]? =some c):Dn t (n+1) i br=if c.toNat=32 then Dn t n (i+1) br
 else if c.toNat=10 then Dn t n (i+1) (br+1)
 else if(Be (t.drop i.toNat)).ok then(Dn t n (i+(Be (t.drop i.toNat)).size) 0).map (⟨(Be (t.drop i.toNat)).kind,(Be (t.drop i.toNat)).text,i,decide (br>1)⟩:: ·)
 else none:=by rw[Dn,hc]
theorem Rm{t:List UInt8}{i br:Int}{l:List Sg}{n:Nat}(h:HJ t i br l n)(hi:i<t.length):∃m,n=m+1:=by
 obtain⟨h1,h2,h3,h4,h5⟩:=h
 match n with
 |0=>omega
 |m+1=>exact⟨m,rfl⟩
theorem b0O{t:List UInt8}{i br:Int}{l:List Sg}{n:Nat}{c:UInt8}(hc:t[i.toNat]? =some c)(h:HJ t i br l (n+1))(hi:i<t.length)(h32:c.toNat=32):HJ t (i+1) br l n:=by
 obtain⟨h1,h2,h3,h4,h5⟩:=h
 refine⟨by omega,by omega,by omega,by omega,?_⟩
 rw[h5,Rl hc,if_pos h32]
theorem b0P{t:List UInt8}{i br:Int}{l:List Sg}{n:Nat}{c:UInt8}(hc:t[i.toNat]? =some c)(h:HJ t i br l (n+1))(hi:i<t.length)(h32:c.toNat=10):HJ t (i+1) (br+1) l n:=by
 obtain⟨h1,h2,h3,h4,h5⟩:=h
 refine⟨by omega,by omega,by omega,by omega,?_⟩
 rw[h5,Rl hc,if_neg (by omega),if_pos h32]
theorem b0Q{t:List UInt8}{i br:Int}{l:List Sg}{n:Nat}{c:UInt8}(hc:t[i.toNat]? =some c)(h:HJ t i br l (n+1))(hi:i<t.length)(h32:c.toNat≠32)(h10:c.toNat≠10)
 (hok:(Be (t.drop i.toNat)).ok=true) (hz:1≤(Be (t.drop i.toNat)).size∧(Be (t.drop i.toNat)).size≤t.length-i):
 HJ t (i+(Be (t.drop i.toNat)).size) 0 (l++[⟨(Be (t.drop i.toNat)).kind,(Be (t.drop i.toNat)).text,i,decide (br>1)⟩]) n:=by
 obtain⟨h1,h2,h3,h4,h5⟩:=h
 refine⟨by omega,by omega,by simp;omega,by omega,?_⟩
 rw[h5,Rl hc,if_neg h32,if_neg h10,if_pos hok]
 cases Dn t n (i+(Be (t.drop i.toNat)).size) 0<;>simp
theorem b0R{t:List UInt8}{i br:Int}{l:List Sg}{n:Nat}{c:UInt8}(hc:t[i.toNat]? =some c)(h:HJ t i br l (n+1))(hi:i<t.length)(h32:c.toNat≠32)(h10:c.toNat≠10)
 (hok:(Be (t.drop i.toNat)).ok=false) (hl:¬3000<t.length):Cj t=none:=by
 rw[Cj,if_neg hl,h.2.2.2.2,Rl hc,if_neg h32,if_neg h10,if_neg (by simp [hok])];rfl
theorem b0S{t:List UInt8}{i br:Int}{l:List Sg}{n:Nat}(h:HJ t i br l n)(hi:¬i<t.length)(hl:¬3000<t.length):Cj t=some l:=by
 obtain⟨h1,h2,h3,h4,h5⟩:=h
 rw[Cj,if_neg hl,h5]
 match n with
 |0=>omega
 |n+1=>rw[Dn,List.getElem?_eq_none (by omega)];simp
theorem b0T{t:List UInt8}(h:3000<t.length):Cj t=none:=if_pos h
end Go.My
end
section
namespace Go.My
open Go.Eng Go.Proofs
variable {G:GInv}
theorem Vq{p:UInt8→Bool}{b:UInt8}{s:List UInt8}(h:p b=true):1≤((b::s).takeWhile p).length:=by
 rw[List.takeWhile_cons,if_pos h];simp
theorem Rn{p:UInt8→Bool}{s:List UInt8}:(s.takeWhile p).length≤s.length:=(List.takeWhile_prefix p).length_le
theorem b0U{s:List UInt8}:(Ca s).length≤s.length:=by
 unfold Ca
 have:=(List.dropWhile_suffix (fun c:UInt8=>decide (c.toNat=32)) (l:=s.reverse)).length_le
 simpa using this
theorem a1e{s:List UInt8}(h:(Be s).ok=true):1≤(Be s).size∧(Be s).size≤s.length∧(Be s).text.length≤s.length:=by
 match s with
 |[]=>cases h
 |b::s=>
  unfold Be at h ⊢
  simp only at h ⊢
  split
  ·rename_i hb
   have:=Vq (s:=s) (p:=BD) (b:=b) (by simp [BD,hb]);have:=Rn (p:=BD) (s:=b::s);simp only;omega
  ·rename_i hb
   rw[if_neg hb] at h
   split
   ·rename_i hb2
    have:=Vq (s:=s) (p:=Bj) (b:=b) hb2;have:=Rn (p:=Bj) (s:=b::s);simp only;omega
   ·rename_i hb2
    rw[if_neg hb2] at h
    split
    ·rename_i hb3
     rw[if_pos hb3] at h
     simp only at h ⊢
     unfold CY at h ⊢
     split at h
     ·cases h
     ·simp only[List.length_take,List.length_cons] at*;omega
    ·rename_i hb3
     rw[if_neg hb3] at h
     split
     ·rename_i hb4
      have hb5:b=47:=by
       cases s with
       |nil=>simp at hb4
       |cons c s=>simp at hb4;exact hb4.1
      have h1:=Vq (s:=s) (p:=BM) (b:=b) (by subst hb5;rfl);have h2:=Rn (p:=BM) (s:=b::s);have h3:= @b0U ((b::s).takeWhile BM)
      simp only;omega
     ·rename_i hb4
      rw[if_neg hb4] at h
      split
      ·simp only[List.length_take,List.length_cons];omega
      ·rename_i hb5
       rw[if_neg hb5] at h
       split
       ·simp only[List.length_take,List.length_cons];omega
       ·rename_i hb6
        rw[if_neg hb6] at h
        cases h
def sgJ(t:List UInt8)(i br:Int)(l:List Sg)(n:Nat):Prop:=(HJ t i br l n∧¬3000<t.length)∧∀e∈l,e.text.length≤3000
theorem b0V{t:List UInt8}(h:¬(t.length:Int)>3000):sgJ t 0 0 [] (t.length+1):=⟨⟨b0N,by omega⟩,by simp⟩
theorem Nc{t:List UInt8}{i br:Int}{l:List Sg}{n:Nat}(h:sgJ t i br l n):((0≤i∧i≤t.length)∧(0≤br∧br≤i)∧(l.length:Int)≤i)∧t.length≤3000:=by
 have:=h.1.1;have:=h.1.2;exact⟨⟨h.1.1.1,h.1.1.2.1,h.1.1.2.2.1⟩,by omega⟩
theorem a1f{t:List UInt8}{i br:Int}{l:List Sg}{n:Nat}{c:UInt8}(hc:t[i.toNat]? =some c)(h:sgJ t i br l n)(hi:i<t.length)(h32:c.toNat=32):sgJ t (i+1) br l (n-1)∧n-1<n:=by
 obtain⟨m,rfl⟩:=Rm h.1.1 hi
 exact⟨⟨⟨b0O hc h.1.1 hi h32,h.1.2⟩,h.2⟩,by omega⟩
theorem a1g{t:List UInt8}{i br:Int}{l:List Sg}{n:Nat}{c:UInt8}(hc:t[i.toNat]? =some c)(h:sgJ t i br l n)(hi:i<t.length)(h32:c.toNat=10):sgJ t (i+1) (br+1) l (n-1)∧n-1<n:=by
 obtain⟨m,rfl⟩:=Rm h.1.1 hi
 exact⟨⟨⟨b0P hc h.1.1 hi h32,h.1.2⟩,h.2⟩,by omega⟩
theorem a1h{t:List UInt8}{i br:Int}{l:List Sg}{n:Nat}(h:sgJ t i br l n)(hok:(Be (t.drop i.toNat)).ok=true):1≤(Be (t.drop i.toNat)).size∧(Be (t.drop i.toNat)).size≤t.length-i∧(Be (t.drop i.toNat)).text.length≤3000:=by
 have a:=a1e hok
 have b:=(Nc h)
 simp only[List.length_drop] at a
 omega
theorem b0W{t:List UInt8}{i br:Int}{l:List Sg}{n:Nat}{c:UInt8}(hc:t[i.toNat]? =some c)(h:sgJ t i br l n)(hi:i<t.length)(h32:c.toNat≠32)(h10:c.toNat≠10)
 (hok:(Be (t.drop i.toNat)).ok=true):
 sgJ t (i+(Be (t.drop i.toNat)).size) 0 (l++[⟨(Be (t.drop i.toNat)).kind,(Be (t.drop i.toNat)).text,i,decide (br>1)⟩]) (n-1)∧n-1<n:=by
 obtain⟨m,rfl⟩:=Rm h.1.1 hi
 have hz:=a1h h hok
 refine⟨⟨⟨b0Q hc h.1.1 hi h32 h10 hok ⟨hz.1,hz.2.1⟩,h.1.2⟩,?_⟩,by omega⟩
 intro e he
 rcases List.mem_append.1 he with he|he
 ·exact h.2 e he
 ·simp at he;subst he;exact hz.2.2
theorem b0X{t:List UInt8}{i br:Int}{l:List Sg}{n:Nat}{c:UInt8}(hc:t[i.toNat]? =some c)(h:sgJ t i br l n)(hi:i<t.length)(h32:c.toNat≠32)(h10:c.toNat≠10)
 (hok:(Be (t.drop i.toNat)).ok=false):Cj t=none:=by
 obtain⟨m,rfl⟩:=Rm h.1.1 hi
 exact b0R hc h.1.1 hi h32 h10 hok h.1.2
def sgQ(t:List UInt8)(l:List Sg):Prop:=(Cj t=some l∧sgB l)∨(Cj t=none∧l=[])
theorem a1i{t:List UInt8}{i br:Int}{l:List Sg}{n:Nat}(h:sgJ t i br l n)(hi:¬i<t.length):(Cj t).isSome=true∧sgQ t l:=by
 have a:=b0S h.1.1 hi h.1.2
 have b:=Nc h
 exact⟨by rw[a];rfl,.inl ⟨a,by omega,h.2⟩⟩
theorem Ro{t:List UInt8}(h:Cj t=none):(Cj t).isSome=false∧sgQ t []:=⟨by rw[h];rfl,.inr ⟨h,rfl⟩⟩
theorem a1j{t:List UInt8}(h:(t.length:Int)>3000):Cj t=none:=b0T (by omega)
abbrev iF {α β:Type} (i:Int×Int×Bool×List Nd×α×β):Gs:=⟨i.1,i.2.1,i.2.2.1,i.2.2.2.1⟩
theorem b0Y{sg:List Sg}:Fw sg ⟨0,0,false,[]⟩ [] [] (sg.length+1):=b0y
theorem b0Z{sg:List Sg}{y:Gs}{ks:List Int}{ms:List (Int×Int)}{N:Nat}{b:Bool}{z:Int×Gs}(h:Fw sg y ks ms N)(hb:y.bad=false)(hl:y.pos<sg.length)(hz:Ah sg y (CN sg b) z)(e:b=((pkG sg y 0).blank&&decide (0<(ks.length:Int)))):
 Fw sg z.2 (ks++[z.1]) (ms++[(y.pos,z.2.pos)]) (N-1)∧N-1<N:=by
 subst e
 exact Na (b0z h hb hl (z:=z) (by
  have:decide (0<ks.length)=decide (0<(ks.length:Int)):=by simp
  rw[this];exact hz))
theorem b1a{s:ST}{y:Gs}{ks:List Int}{ms:List (Int×Int)}{N:Nat}(hs:sgB s.sg)(h:Fw s.sg y ks ms N):okD s y:=⟨⟨hs,h.1⟩,by have:=h.2.1;omega⟩
theorem a1k{sg:List Sg}{y:Gs}{ks:List Int}{ms:List (Int×Int)}{N:Nat}(hs:sgB sg)(h:Fw sg y ks ms N):ks.length≤3001∧ms.length=ks.length∧0≤y.pos∧y.pos≤sg.length:=by
 have h1:=h.1.1;have h2:=hs.1;have h3:=h.2.2.2.2.1;have h4:=h.2.2.2.2.2.2
 omega
attribute [local irreducible] pE Bs Cy fnR Ah BG gsOk Av CK As Di Ev Ax DS Eh AX CL pkG isG nmG CO Dc CW GK Db Cg BC stR Cz EN Ef CJ CN Gh BN Fw sgJ
end Go.My
end
section
namespace Go.My
open Go.Eng Go.Proofs
variable {G:GInv}
def rsQ(t:List UInt8)(sg:List Sg)(ms:List (Int×Int))(g:Gs):Prop:=(g.bad=true∧Cp t=none)∨((g.bad=false∧sgB sg∧Cj t=some sg)∧FM sg=some (ms,g.nodes)∧Bi g.nodes)
theorem a1l{sg:List Sg}{g:Gs}(h:gsOk sg g):Bi g.nodes∧g.nodes.length≤300:=by
 refine⟨⟨by have:=h.2.2.1;omega,fun x hx=> ?_⟩,h.2.2.1⟩
 have:=h.2.2.2 x hx
 exact⟨by have:=this.1;omega,by have:=this.2;omega⟩
theorem Nf{t:List UInt8}{l:List Sg}(h:sgQ t l)(hn:(Cj t).isSome=true):Cj t=some l∧sgB l:=by
 rcases h with h|h
 ·exact h
 ·rw[h.1] at hn;cases hn
theorem b1b{t:List UInt8}{l:List Sg}{y:Gs}{ks:List Int}{ms:List (Int×Int)}{N:Nat}(h:sgQ t l)(hn:(Cj t).isSome=true)(hf:Fw l y ks ms N∧(y.bad=true∨¬y.pos<l.length))(hb:(Fj l y ks).bad=true):rsQ t l ms (Fj l y ks):=by
 refine .inl ⟨hb,?_⟩
 rw[Cp,(Nf h hn).1]
 simp only[Option.bind_some,b0A hf.1 hb hf.2];rfl
theorem a1m{l:List Sg}{y:Gs}{ks:List Int}{ms:List (Int×Int)}{N:Nat}(hs:sgB l)(h:Fw l y ks ms N):Df ⟨22,[],ks,false⟩:=⟨by simp,by have:=(a1k hs h).1;simp only;omega⟩
theorem b1c{t:List UInt8}{l:List Sg}{y:Gs}{ks:List Int}{ms:List (Int×Int)}{N:Nat}(h:sgQ t l)(hn:(Cj t).isSome=true)(hf:Fw l y ks ms N∧(y.bad=true∨¬y.pos<l.length))(hb:(Fj l y ks).bad=false):
 rsQ t l ms ⟨(Fj l y ks).pos,(Fj l y ks).deep,!BO (Fj l y ks).nodes,(Fj l y ks).nodes⟩:=by
 have hk:=a1m (Nf h hn).2 hf.1
 have e:=b0B hf.1 hb hf.2
 cases htr:BO (Fj l y ks).nodes with
 |false=>
  rw[htr] at e
  refine .inl ⟨rfl,?_⟩
  rw[Cp,(Nf h hn).1]
  simp only[Option.bind_some,e];rfl
 |true=>
  rw[htr] at e
  exact .inr ⟨⟨rfl,(Nf h hn).2,(Nf h hn).1⟩,e,(a1l (OM hf.1.1 hk)).1⟩
theorem a1n{t:List UInt8}{l:List Sg}{ms:List (Int×Int)}{g:Gs}(h:rsQ t l ms g)(hb:g.bad=true):Cp t=none:=by
 rcases h with h|h
 ·exact h.2
 ·rw[h.1.1] at hb;cases hb
theorem b1d{t:List UInt8}{l:List Sg}{ms:List (Int×Int)}{g:Gs}(h:rsQ t l ms g)(hb:g.bad=false):Cp t=some g.nodes∧Bi g.nodes:=by
 rcases h with h|h
 ·rw[h.1] at hb;cases hb
 ·refine⟨?_,h.2.2⟩
  rw[Cp,h.1.2.2];simp only[Option.bind_some,h.2.1];rfl
attribute [local irreducible] gsOk Fw Fj Cp FM Cj BO
end Go.My
end
section
namespace Go.My
open Go.Eng Go.Proofs
variable {G:GInv}
def OX:List (List UInt8):=[[38,38],[124,124],[61,61],[61,62],[46,46]]
def Lr:List (List UInt8):=[[40],[41],[123],[125],[91],[93],[59],[44],[46],[61],[43],[45],[42],[60],[63],[58]]
def mks:List (List UInt8):=[[38,38],[124,124],[61,61],[61,62],[46,46],[40],[41],[123],[125],[91],[93],[59],[44],[46],[61],[43],[45],[42],[60],[63],[58]]
def FR(s:List UInt8):List UInt8:=(mks.find? fun m=>s.take m.length==m).getD []
theorem Vr{s:List UInt8}{k:Nat}:∀ {l:List (List UInt8)},(∀m∈l,m.length=k)→l.find? (fun m=>s.take m.length==m)=if l.elem (s.take k) then some (s.take k) else none
 |[],_=>rfl
 |m::l,h=>by
  have hm:=h m (by simp)
  rw[List.find?_cons,List.elem_cons,hm]
  cases he:(s.take k==m) with
  |true=>
   have:s.take k=m:=by simpa using he
   simp [this]
  |false=>
   rw[Vr (l:=l) (fun m hm=>h m (by simp [hm]))]
theorem a1o{s:List UInt8}:FR s=if OX.elem (s.take 2) then s.take 2 else if Lr.elem (s.take 1) then s.take 1 else []:=by
 have e:mks=OX++Lr:=rfl
 rw[FR,e,List.find?_append,Vr (k:=2) (l:=OX) (by decide),Vr (k:=1) (l:=Lr) (by decide)]
 split
 ·rfl
 ·split<;>rfl
theorem b1e{s:List UInt8}:OX.elem s=mk2 s:=by
 rw[Bool.eq_iff_iff];simp [OX,mk2]
theorem b1f{c:UInt8}:Lr.elem [c]=mk1.elem c:=by
 simp [Lr,mk1,List.elem_cons,List.elem_nil]
theorem a1p{c:UInt8}{s:List UInt8}:FR (c::s)=if BW ((c::s).take 2) then(c::s).take 2 else if BW ((c::s).take 1) then(c::s).take 1 else []:=by
 rw[a1o,b1e]
 have h1:Lr.elem ((c::s).take 1)=BW ((c::s).take 1):=by
  show Lr.elem [c]=BW [c]
  rw[b1f]
  simp [BW,mk2]
 rw[h1]
 cases s with
 |nil=>
  show(if mk2 [c]=true then [c] else if BW [c]=true then [c] else [])=if BW [c]=true then [c] else if BW [c]=true then [c] else []
  have:mk2 [c]=false:=by simp [mk2]
  rw[this];simp
 |cons d r=>
  have:BW ((c::d::r).take 2)=mk2 ((c::d::r).take 2):=by
   show BW [c,d]=mk2 [c,d]
   simp [BW]
  rw[this]
def HK(x:List UInt8×Int)(i:Int):Prop:=(0≤i∧i≤21)∧FR (x.1.drop x.2.toNat)=((mks.drop i.toNat).find? fun m=>(x.1.drop x.2.toNat).take m.length==m).getD []
theorem b1g{x:List UInt8×Int}:HK x 0:=⟨by omega,rfl⟩
theorem a1q{x:List UInt8×Int}{i:Int}{m:List UInt8}(h:HK x i)(ha:mks[i.toNat]? =some m)(hg:((x.1.drop x.2.toNat).take m.length==m)=false):HK x (i+1):=by
 have hlt:=(List.getElem?_eq_some_iff.1 ha).1
 have h21:mks.length=21:=rfl
 obtain⟨h1,h2⟩:=h
 refine⟨by omega,?_⟩
 rw[h2,List.drop_eq_getElem_cons hlt,(List.getElem?_eq_some_iff.1 ha).2,List.find?_cons_of_neg (by simpa using hg),show(i+1).toNat=i.toNat+1 by omega]
theorem b1h{x:List UInt8×Int}{i:Int}{m:List UInt8}(h:HK x i)(ha:mks[i.toNat]? =some m)(hg:((x.1.drop x.2.toNat).take m.length==m)=true):m=FR (x.1.drop x.2.toNat):=by
 have hlt:=(List.getElem?_eq_some_iff.1 ha).1
 rw[h.2,List.drop_eq_getElem_cons hlt,(List.getElem?_eq_some_iff.1 ha).2,List.find?_cons_of_pos (by simpa using hg)];rfl
theorem b1i{x:List UInt8×Int}{i:Int}(h:HK x i)(hi:¬i<21):[]=FR (x.1.drop x.2.toNat):=by
 have e:mks.drop i.toNat=[]:=List.drop_eq_nil_of_le (by have h21:mks.length=21:=rfl;rw[h21];omega)
 rw[h.2,e];rfl
theorem Rp{t:List UInt8}{a n:Int}(h0:0≤a)(hn:0≤n):List.drop a.toNat (List.take (a+n).toNat t)=(t.drop a.toNat).take n.toNat:=by
 rw[List.drop_take,show(a+n).toNat-a.toNat=n.toNat by omega]
theorem b1j{x:List UInt8×Int}{m:List UInt8}(h0:0≤x.2)(h2:x.2≤x.1.length)(hl:¬x.2+(m.length:Int)≤x.1.length):((x.1.drop x.2.toNat).take m.length==m)=false:=by
 have:((x.1.drop x.2.toNat).take m.length)≠m:=by
  intro e
  have:=congrArg List.length e
  simp at this;omega
 simpa using this
theorem b1k{x:List UInt8×Int}{m:List UInt8}(h0:0≤x.2)(h:List.drop (Int.toNat x.2) (List.take (Int.toNat (x.2+(m.length:Int))) x.1)=m):((x.1.drop x.2.toNat).take m.length==m)=true:=by
 rw[Rp h0 (by omega)] at h;simpa using h
theorem b1l{x:List UInt8×Int}{m:List UInt8}(h0:0≤x.2)(h:List.drop (Int.toNat x.2) (List.take (Int.toNat (x.2+(m.length:Int))) x.1)≠m):((x.1.drop x.2.toNat).take m.length==m)=false:=by
 rw[Rp h0 (by omega)] at h;simpa using h
theorem b1m{i:Int}{m:List UInt8}(ha:mks[i.toNat]? =some m):m.length≤2:=by
 have:∀m∈mks,m.length≤2:=by decide
 exact this m (List.mem_of_getElem? ha)
theorem a1r{x:List UInt8×Int}{i:Int}(h:HK x i):0≤i∧i≤21:=h.1
attribute [local irreducible] HK FR
def Ji:Sig:= {X:=Unit,args:=fun x=>[],pre:=fun x=>True,Y:=Unit,post:=fun x y=>True,res:=fun x y=> .sl false 0 1 (List UInt8) Ai mks,outs:=fun x y=>[],keep:=true}
theorem a1s:Am G Tryz.prog 63 Ji:=
 vcFun_okP [] [(39,⟨List UInt8,Ai⟩)] false (fun x=>[]) Tryz.func63 rfl (by decide) trivial (fun(x:Unit)=>True∧∃(x_1:List UInt8),#[(38:UInt8),(38:UInt8)].toList=x_1∧∃(x_2:List UInt8),#[(124:UInt8),(124:UInt8)].toList=x_2∧∃(x_3:List UInt8),#[(61:UInt8),(61:UInt8)].toList=x_3∧∃(x_4:List UInt8),#[(61:UInt8),(62:UInt8)].toList=x_4∧∃(x_5:List UInt8),#[(46:UInt8),(46:UInt8)].toList=x_5∧∃(x_6:List UInt8),#[(40:UInt8)].toList=x_6∧∃(x_7:List UInt8),#[(41:UInt8)].toList=x_7∧∃(x_8:List UInt8),#[(123:UInt8)].toList=x_8∧∃(x_9:List UInt8),#[(125:UInt8)].toList=x_9∧∃(x_10:List UInt8),#[(91:UInt8)].toList=x_10∧∃(x_11:List UInt8),#[(93:UInt8)].toList=x_11∧∃(x_12:List UInt8),#[(59:UInt8)].toList=x_12∧∃(x_13:List UInt8),#[(44:UInt8)].toList=x_13∧∃(x_14:List UInt8),#[(46:UInt8)].toList=x_14∧∃(x_15:List UInt8),#[(61:UInt8)].toList=x_15∧∃(x_16:List UInt8),#[(43:UInt8)].toList=x_16∧∃(x_17:List UInt8),#[(45:UInt8)].toList=x_17∧∃(x_18:List UInt8),#[(42:UInt8)].toList=x_18∧∃(x_19:List UInt8),#[(60:UInt8)].toList=x_19∧∃(x_20:List UInt8),#[(63:UInt8)].toList=x_20∧∃(x_21:List UInt8),#[(58:UInt8)].toList=x_21∧rA Ji x [AV.sl true 0 1 (List UInt8) Ai [x_1,x_2,x_3,x_4,x_5,x_6,x_7,x_8,x_9,x_10,x_11,x_12,x_13,x_14,x_15,x_16,x_17,x_18,x_19,x_20,x_21]]) (fun x=>by kernel_rfl) fun(x:Unit) (hx:True)=>(by
 dsimp only[rA,Ji,Aw,AR]
 (repeat' first|(with_reducible first|rfl|exact True.intro|apply AM|apply And.intro|((first|apply AC|apply AK|apply AD|apply AL)<;>intro _))|(apply AB<;>intro _)|apply AJ|refine Ag () ?_ ?_|((first|apply AQ|apply AP|apply AO|apply AN|apply AI|apply AH|apply AG|apply AF|apply AE)<;>try dsimp only)|apply Ag|(refine Prod.forall.2 ?_;intro _;try dsimp only)|(intro _;try dsimp only))
 all_goals first
  |rfl
  |(simp [Ba];done)
  |skip)
def Ls:Sig:= {X:=List UInt8×Int,args:=fun x=>[.str x.1,.int .i64 x.2],pre:=fun x=>0≤x.2∧x.2≤x.1.length∧x.1.length<2^62,Y:=Unit,post:=fun x y=>True,res:=fun x y=> .str (FR (x.1.drop x.2.toNat)),outs:=fun x y=>[.top,.top],keep:=false}
def OY(x:List UInt8×Int):LS:= {ι:=Int,inv:=fun i=>HK x i,regs:=fun i=>[(0,.str x.1),(1,.int .i64 x.2),(5,.sl false 0 1 (List UInt8) Ai mks),(6,.int .i64 i)],als:=[],meas:=fun i=>21-i.toNat}
theorem b1n:Am G Tryz.prog 55 Ls:=
 vcFun_okP [(63,0,Ji)] [(39,⟨List UInt8,Ai⟩)] false (fun x=>[(3,OY x)]) Tryz.func55 rfl (by decide) ⟨a1s,trivial⟩ (fun(x:List UInt8×Int)=>(∀(y:Unit),True→True∧True∧True∧True)∧cA Ji [] fun x_1 y=>eA (OY x) [.str x.1,.int .i64 x.2,AV.sl false 0 1 (List UInt8) Ai mks,.int .i64 (0:Int)]∧∀(i:Int),HK x i→Aa (decide (i<(↑(21:Nat):Int))) (((0:Int)≤i∧i<(↑(21:Nat):Int))∧∀(e:List UInt8),mks[Int.toNat i]? =some e→true=true∧true=true∧inR IntKind.i64 (x.2+(↑(List.length e):Int))∧Aa (decide (x.2+(↑(List.length e):Int)≤(↑(List.length x.1):Int))) (inR IntKind.i64 (x.2+(↑(List.length e):Int))∧((0:Int)≤x.2∧x.2≤x.2+(↑(List.length e):Int)∧x.2+(↑(List.length e):Int)≤(↑(List.length x.1):Int))∧((0:Int)≤i∧i<(↑(21:Nat):Int))∧∀(e_1:List UInt8),mks[Int.toNat i]? =some e_1→Aa (List.drop (Int.toNat x.2) (List.take (Int.toNat (x.2+(↑(List.length e):Int))) x.1)==e_1) (((0:Int)≤i∧i<(↑(21:Nat):Int))∧∀(e:List UInt8),mks[Int.toNat i]? =some e→rA Ls x [.str e,.top,.top]) (inR IntKind.i64 (i+(1:Int))∧eN (OY x) i [.str x.1,.int .i64 x.2,AV.sl false 0 1 (List UInt8) Ai mks,.int .i64 (i+(1:Int))])) (inR IntKind.i64 (i+(1:Int))∧eN (OY x) i [.str x.1,.int .i64 x.2,AV.sl false 0 1 (List UInt8) Ai mks,.int .i64 (i+(1:Int))])) (rA Ls x [.str #[].toList,.top,.top])) (fun x=>by kernel_rfl) fun(x:List UInt8×Int) (hx:0≤x.2∧x.2≤x.1.length∧x.1.length<2^62)=>(by
 dsimp only[cA,eA,eN,OY,rA,Ls,Ji,Aw,AR,mvL,lnL,mvE,lnE,Br]
 obtain⟨h1,h2,h3⟩:=hx
 (repeat' first|(with_reducible first|rfl|exact True.intro|apply AM|apply And.intro|((first|apply AC|apply AK|apply AD|apply AL)<;>intro _))|(apply AB<;>intro _)|apply AJ|refine Ag () ?_ ?_|((first|apply AQ|apply AP|apply AO|apply AN|apply AI|apply AH|apply AG|apply AF|apply AE)<;>try dsimp only)|apply Ag|(refine Prod.forall.2 ?_;intro _;try dsimp only)|(intro _;try dsimp only))
 all_goals(try(repeat(rename mks[_]? =some _=>hq;revert hq;rename mks[_]? =some _=>hr;intro hq;rw[hr] at hq;cases hq)))
 all_goals first
  |rfl
  |exact b1g
  |exact a1q ‹_› ‹_› (b1j h1 h2 ‹_›)
  |exact a1q ‹_› ‹_› (b1l h1 ‹_›)
  |exact b1h ‹_› ‹_› (b1k h1 ‹_›)
  |exact b1i ‹_› (by omega)
  |(have hq:=a1r (show HK _ _ by assumption);(try simp only[AS]);omega)
  |(have hq:=a1r (show HK _ _ by assumption);have hm:=b1m ‹_›;(try simp only[AS]);omega)
  |skip)
def rwI(p:UInt8→Bool)(x:List UInt8×Int)(i:Int):Prop:=(x.2≤i∧i≤x.1.length)∧∀e∈(x.1.drop x.2.toNat).take (i-x.2).toNat,p e=true
theorem b1o{p:UInt8→Bool}{x:List UInt8×Int}(h:x.2≤x.1.length):rwI p x x.2:=by
 refine⟨⟨by omega,h⟩,fun e he=> ?_⟩
 rw[show(x.2-x.2).toNat=0 by omega] at he;simp at he
theorem Vs{p:UInt8→Bool}{x:List UInt8×Int}{i:Int}{c:UInt8}(h0:0≤x.2)(h:rwI p x i)(hi:i<x.1.length)(hc:x.1[i.toNat]? =some c)(hp:p c=true):rwI p x (i+1):=by
 obtain⟨⟨a,b⟩,h2⟩:=h
 exact⟨by omega,Qr h2 (by rw[Ow h0 a];exact hc) hp (by omega)⟩
theorem a1t{p:UInt8→Bool}{x:List UInt8×Int}{i:Int}(h0:0≤x.2)(h:rwI p x i)(he:¬i<x.1.length∨∃c,x.1[i.toNat]? =some c∧p c=false):((x.1.drop x.2.toNat).takeWhile p)=List.drop (Int.toNat x.2) (List.take (Int.toNat i) x.1)∧((((x.1.drop x.2.toNat).takeWhile p).length:Nat):Int)=i-x.2:=by
 obtain⟨⟨a,b⟩,h2⟩:=h
 have e:=IW h2 (by
  rcases he with he|⟨c,hc,hp⟩
  ·left;simp;omega
  ·right;exact⟨c,by rw[Ow h0 a];exact hc,hp⟩)
 rw[←e,List.drop_take]
 refine⟨by congr 1;omega,?_⟩
 simp;omega
theorem b1p{p:UInt8→Bool}{x:List UInt8×Int}{i:Int}(h:rwI p x i):x.2≤i∧i≤x.1.length:=h.1
def sgR(x:List UInt8×Int)(k:Int)(t:List UInt8)(p:Int)(b:Bool)(n:Int):Prop:=
 ((Be (x.1.drop x.2.toNat)).ok=true∧(k=(Be (x.1.drop x.2.toNat)).kind∧t=(Be (x.1.drop x.2.toNat)).text∧p=x.2∧b=false)∧n=(Be (x.1.drop x.2.toNat)).size)∨((Be (x.1.drop x.2.toNat)).ok=false∧n=0)
theorem Rq{x:List UInt8×Int}{c:UInt8}(hc:x.1[x.2.toNat]? =some c):x.1.drop x.2.toNat=c::x.1.drop (x.2.toNat+1):=by
 have hlt:=(List.getElem?_eq_some_iff.1 hc).1
 rw[List.drop_eq_getElem_cons hlt,(List.getElem?_eq_some_iff.1 hc).2]
theorem b1q{x:List UInt8×Int}(h0:0≤x.2)(h:(Cs (x.1.drop x.2.toNat):Int)>0):sgR x 5 (Ca (List.drop (Int.toNat x.2) (List.take (Int.toNat (x.2+(Cs (x.1.drop x.2.toNat):Int))) x.1))) x.2 false (Cs (x.1.drop x.2.toNat)):=by
 rw[Rp h0 (by omega)]
 unfold sgR
 generalize x.1.drop x.2.toNat=s at*
 unfold Cs at h ⊢
 split at h
 ·rename_i h2
  split at h
  ·rename_i hp
   rw[if_pos h2,if_pos hp]
   match s with
   |[]=>simp at h2
   |[_]=>simp at h2
   |b::c::r=>
    simp at h2
    obtain⟨rfl,rfl⟩:=h2
    left
    simp only[Be,show Cf 47=false by decide,show Bj 47=false by decide,Bool.false_eq_true,if_false,show(47:UInt8).toNat≠39 by decide,List.take_succ_cons,List.take_zero,if_true]
    refine⟨hp,⟨trivial,?_,trivial,trivial⟩,trivial⟩
    congr 1
    have:=List.takeWhile_prefix BM (l:=47::47::r)
    rw[Int.toNat_natCast]
    exact(List.prefix_iff_eq_take.1 this).symm
  ·simp at h
 ·simp at h
theorem b1r{s:List UInt8}{c:UInt8}(h:¬(Cs (c::s):Int)>0)(h2:(c::s).take 2=[47,47]):((c::s).takeWhile BM).all BZ=false:=by
 cases hp:((c::s).takeWhile BM).all BZ with
 |false=>rfl
 |true=>
  exfalso
  apply h
  rw[Cs,if_pos h2,if_pos hp]
  match s with
  |[]=>simp at h2
  |d::r=>
   simp at h2
   obtain⟨rfl,rfl⟩:=h2
   have:BM 47=true:=by decide
   simp [List.takeWhile_cons,this];omega
theorem Rr{x:List UInt8×Int}{i:Int}{c:UInt8}(h0:0≤x.2)(hc:x.1[x.2.toNat]? =some c)(hf:Cf c=true)(h:rwI BD x i)(he:¬i<x.1.length∨∃c,x.1[i.toNat]? =some c∧BD c=false):
 (i-x.2>30→sgR x 0 [] 0 false 0)∧(¬i-x.2>30→sgR x 1 (List.drop (Int.toNat x.2) (List.take (Int.toNat i) x.1)) x.2 false (i-x.2)):=by
 obtain⟨e1,e2⟩:=a1t h0 h he
 have e:=Rq hc
 have es:Be (x.1.drop x.2.toNat)=⟨1,(x.1.drop x.2.toNat).takeWhile BD,((x.1.drop x.2.toNat).takeWhile BD).length,decide (((x.1.drop x.2.toNat).takeWhile BD).length≤30)⟩:=by
  rw[e];simp only[Be,hf,if_true]
 unfold sgR
 rw[es]
 refine⟨fun h3=> .inr ⟨by simp;omega,rfl⟩,fun h3=> .inl ⟨by simp;omega,⟨rfl,e1.symm,rfl,rfl⟩,by simp only;omega⟩⟩
theorem OZ{x:List UInt8×Int}{i:Int}{c:UInt8}(h0:0≤x.2)(hc:x.1[x.2.toNat]? =some c)(hf:Cf c=false)(hg:Bj c=true)(h:rwI Bj x i)(he:¬i<x.1.length∨∃c,x.1[i.toNat]? =some c∧Bj c=false):
 (i-x.2>12→sgR x 0 [] 0 false 0)∧(¬i-x.2>12→sgR x 2 (List.drop (Int.toNat x.2) (List.take (Int.toNat i) x.1)) x.2 false (i-x.2)):=by
 obtain⟨e1,e2⟩:=a1t h0 h he
 have e:=Rq hc
 have es:Be (x.1.drop x.2.toNat)=⟨2,(x.1.drop x.2.toNat).takeWhile Bj,((x.1.drop x.2.toNat).takeWhile Bj).length,decide (((x.1.drop x.2.toNat).takeWhile Bj).length≤12)⟩:=by
  rw[e];simp only[Be,hf,hg,Bool.false_eq_true,if_false,if_true]
 unfold sgR
 rw[es]
 refine⟨fun h3=> .inr ⟨by simp;omega,rfl⟩,fun h3=> .inl ⟨by simp;omega,⟨rfl,e1.symm,rfl,rfl⟩,by simp only;omega⟩⟩
theorem b1s{x:List UInt8×Int}{c:UInt8}(h0:0≤x.2)(hc:x.1[x.2.toNat]? =some c)(hf:Cf c=false)(hg:Bj c=false)(hq:(c.toNat:Int)=39):
 sgR x 3 (List.drop (Int.toNat x.2) (List.take (Int.toNat (x.2+(CB (x.1.drop x.2.toNat):Int))) x.1)) x.2 false (CB (x.1.drop x.2.toNat)):=by
 rw[Rp h0 (by omega)]
 have e:=Rq hc
 have hq2:isQ c=true:=by simp [isQ];omega
 unfold sgR
 rw[e]
 have es:Be (c::x.1.drop (x.2.toNat+1))=⟨3,(CY (c::x.1.drop (x.2.toNat+1))).1,(CY (c::x.1.drop (x.2.toNat+1))).1.length,(CY (c::x.1.drop (x.2.toNat+1))).2⟩:=by
  simp only[Be,hf,hg,Bool.false_eq_true,if_false,show c.toNat=39 by omega,if_true]
 rw[es]
 by_cases hz:CB (c::x.1.drop (x.2.toNat+1))=0
 ·right
  refine⟨?_,by rw[hz];rfl⟩
  cases hb:(CY (c::x.1.drop (x.2.toNat+1))).2 with
  |false=>rfl
  |true=>exact((Qq hq2).1 hb hz).elim
 ·left
  obtain⟨l1,l2⟩:=YN hq2 hz
  refine⟨(Qq hq2).2 hz,⟨rfl,?_,rfl,rfl⟩,?_⟩
  ·simp only[l1,Int.toNat_natCast]
  ·simp only[l1,List.length_take];omega
theorem b1t{x:List UInt8×Int}{c:UInt8}(h0:0≤x.2)(hc:x.1[x.2.toNat]? =some c)(hn:¬(Cs (x.1.drop x.2.toNat):Int)>0)(hf:Cf c=false)(hg:Bj c=false)(hq:(c.toNat:Int)≠39):
 sgR x 4 (FR (x.1.drop x.2.toNat)) x.2 false (FR (x.1.drop x.2.toNat)).length:=by
 have e:=Rq hc
 unfold sgR
 rw[e] at hn ⊢
 generalize x.1.drop (x.2.toNat+1)=s at*
 by_cases h2:(c::s).take 2=[47,47]
 ·right
  have e0:FR (c::s)=[]:=by
   rw[a1p,h2,if_neg (by decide)]
   have:(c::s).take 1=[47]:=by
    have:=congrArg (List.take 1) h2
    simpa using this
   rw[this,if_neg (by decide)]
  have hp:=b1r hn h2
  refine⟨?_,by rw[e0];rfl⟩
  simp only[Be,hf,hg,Bool.false_eq_true,if_false,if_neg (show¬c.toNat=39 by omega),h2,if_true]
  exact hp
 ·have es:Be (c::s)=if BW ((c::s).take 2) then⟨4,(c::s).take 2,((c::s).take 2).length,true⟩ else if BW ((c::s).take 1) then⟨4,(c::s).take 1,1,true⟩ else⟨0,[],0,false⟩:=by
   simp only[Be,hf,hg,Bool.false_eq_true,if_false,if_neg (show¬c.toNat=39 by omega),if_neg h2]
  rw[es,a1p]
  split
  ·left;exact⟨rfl,⟨rfl,rfl,rfl,rfl⟩,rfl⟩
  ·split
   ·left;exact⟨rfl,⟨rfl,rfl,rfl,rfl⟩,by simp⟩
   ·right;exact⟨rfl,rfl⟩
end Go.My
end
