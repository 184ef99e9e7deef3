/- A part of the proof: the engine and the contracts, joined. -/
import Derived.Test.YtjmoahjpdapjkaaGreatDoorQG
section
set_option linter.unusedVariables false
set_option linter.unusedSimpArgs false
namespace Go.My
open Go.Eng
theorem Zg{sg:List Sg}{n:Nat}{s:Ps}:pE sg (n+1) .pick s=if 20≤s.deep then none else(pE sg n (.chain 0) (dp s 1)).bind fun p=>
 if isM sg p.2 [63] then(pE sg n .pick (adv p.2)).bind fun a=>(BC sg [58] a.2).bind fun s1=>(pE sg n .pick s1).bind fun b=>(AZ ⟨8,[],[p.1,a.1,b.1],false⟩ b.2).map fun q=>(q.1,dp q.2 (-1))
 else some (p.1,dp p.2 (-1)):=rfl
theorem a7L{sg:List Sg}{n l:Nat}{s:Ps}:pE sg (n+1) (.chain l) s=if l=6 then pE sg n .fin s else(pE sg n (.chain (l+1)) s).bind fun p=>DV sg l (pE sg n (.chain (l+1))) (2*sg.length+4) [] [p.1] p.2:=rfl
theorem En{α:Type}{sg:List Sg}{x:Gs}{f:Ps→Option (α×Ps)}{y:α×Gs}(h:Ae sg x f y):gsOk sg y.2:=h.1.1
theorem Cw{α:Type}{sg:List Sg}{x:Gs}{f:Ps→Option (α×Ps)}{y:α×Gs}(h:Ae sg x f y):y.2.deep=x.deep∧x.pos≤y.2.pos∧y.2.pos≤sg.length∧(y.2.bad=false→x.bad=false∧x.pos<y.2.pos):=by
 refine⟨h.1.2.1,h.1.2.2.1,h.1.1.1.2,fun hb=>⟨?_,h.2 hb⟩⟩
 cases hx:x.bad with
 |false=>rfl
 |true=>
  have:=h.1.2.2.2.1
  rw[DC hx,CR hb] at this;cases this
theorem GM{g:Gs}{x:Nd}:(Ah g x).deep=g.deep∧(Ah g x).pos=g.pos∧((Ah g x).bad=false→g.bad=false):=by
 unfold Ah;split
 ·rename_i h;exact⟨rfl,rfl,fun hb=>by simp [Bc] at hb⟩
 ·exact⟨rfl,rfl,fun hb=>hb⟩
theorem PN{sg:List Sg}{x y:Gs}{f:Ps→PR}{w:Nd}(h:restP sg x f y (AZ w) 0)(hw:Cq w):Bh sg x f (Au y,Ah y w):=by
 have h2:=BI (k:=fun a s=>some (a,s)) h (Nz h.1 hw) (fun s _=>by cases AZ w s<;>rfl)
 exact Fq h2
theorem PO{sg:List Sg}{x y:Gs}{f:Ps→PR}{w:Nd}{m:List UInt8}(h:restP sg x f y (Bl sg m w) 0)(hw:Cq w):Bh sg x f (Bw sg y m,Bn sg y m w):=by
 have h2:=BI (k:=fun a s=>some (a,s)) h (Jz h.1 hw).1 (fun s _=>by cases Bl sg m w s<;>rfl)
 exact Fq h2
theorem a7M{sg:List Sg}{x:Gs}{n:Nat}(h:gsOk sg x)(hd:x.deep≤20):restP sg x (pE sg (n+1) .pick) (gDp (if x.deep=20 then Bc x else x) 1)
 (fun s=>(pE sg n (.chain 0) s).bind fun p=>if isM sg p.2 [63] then(pE sg n .pick (adv p.2)).bind fun a=>(BC sg [58] a.2).bind fun s1=>(pE sg n .pick s1).bind fun b=>(AZ ⟨8,[],[p.1,a.1,b.1],false⟩ b.2).map fun q=>(q.1,dp q.2 (-1)) else some (p.1,dp p.2 (-1))) 1:=by
 split
 ·rename_i h20
  have h2:=Zb (d:=0) (g':=pE sg (n+1) .pick) (Df (f:=pE sg (n+1) .pick) h) (fun s hs=>by
   obtain⟨_,rfl⟩:=Eh.1 hs
   rw[Zg,if_pos (by simp only;omega)])
  refine JB (d:=0) h2 ⟨by simp only[Bc];omega,by simp only[Bc];omega⟩ (fun s hs=> ?_)
  rw[IG] at hs;cases hs
 ·rename_i h20
  refine JB (d:=0) (Df h) ⟨by have:=h.2.1.1;omega,by omega⟩ (fun s hs=> ?_)
  obtain⟨_,rfl⟩:=Eh.1 hs
  rw[Zg,if_neg (by simp only;omega)]
theorem Zh{sg:List Sg}{x:Gs}{n:Nat}{z:Int×Gs}(h:gsOk sg x)(hd:x.deep≤20)(h1:Ae sg (gDp (if x.deep=20 then Bc x else x) 1) (pE sg n (.chain 0)) z):
 restP sg x (pE sg (n+1) .pick) z.2 (fun s=>if isM sg s [63] then(pE sg n .pick (adv s)).bind fun a=>(BC sg [58] a.2).bind fun s1=>(pE sg n .pick s1).bind fun b=>(AZ ⟨8,[],[z.1,a.1,b.1],false⟩ b.2).map fun q=>(q.1,dp q.2 (-1)) else some (z.1,dp s (-1))) 1:=
 BI (k:=fun k s=>if isM sg s [63] then(pE sg n .pick (adv s)).bind fun a=>(BC sg [58] a.2).bind fun s1=>(pE sg n .pick s1).bind fun b=>(AZ ⟨8,[],[k,a.1,b.1],false⟩ b.2).map fun q=>(q.1,dp q.2 (-1)) else some (k,dp s (-1))) (a7M h hd) h1.1 (fun _ _=>rfl)
theorem NE{x:Gs}:(gDp (if x.deep=20 then Bc x else x) 1).pos=x.pos∧(gDp (if x.deep=20 then Bc x else x) 1).deep=x.deep+1∧((gDp (if x.deep=20 then Bc x else x) 1).bad=false→x.bad=false∧x.deep≠20):=by
 split
 ·exact⟨rfl,rfl,fun h=>by simp [gDp,Bc] at h⟩
 ·rename_i h;exact⟨rfl,rfl,fun h2=>⟨h2,h⟩⟩
theorem a7N{sg:List Sg}{x:Gs}{n:Nat}{z:Int×Gs}(h:gsOk sg x)(hd:x.deep≤20)(h1:Ae sg (gDp (if x.deep=20 then Bc x else x) 1) (pE sg n (.chain 0)) z)(hq:isG sg z.2 4 [63]=false):
 Ae sg x (pE sg (n+1) .pick) (z.1,gDp z.2 (-1)):=by
 have h2:=Dq (Zh h hd h1) (g':=fun s=>some (z.1,dp s (-1))) (fun s hs=>by rw[if_neg (by simp [Ek hs hq])])
 obtain⟨e1,e2,e3,e4⟩:=Cw h1
 obtain⟨p1,p2,p3⟩:= @NE x
 refine⟨Fq (JB (e:= -1) h2 ?_ (fun s hs=>rfl)),fun hb=> ?_⟩
 ·have:=h.2.1;omega
 ·have:=e4 hb;show x.pos<z.2.pos;omega
theorem a7O{sg:List Sg}{x:Gs}{n:Nat}{z a b:Int×Gs}(h:gsOk sg x)(hd:x.deep≤20)(h1:Ae sg (gDp (if x.deep=20 then Bc x else x) 1) (pE sg n (.chain 0)) z)(hq:isG sg z.2 4 [63]=true)
 (h2:Ae sg (Aj z.2) (pE sg n .pick) a) (h3:Ae sg (Al sg a.2 [58]) (pE sg n .pick) b):
 Ae sg x (pE sg (n+1) .pick) (Au b.2,gDp (Ah b.2 ⟨8,[],[z.1,a.1,b.1],false⟩) (-1)):=by
 have k1:=FK (g':=fun s=>(pE sg n .pick s).bind fun a=>(BC sg [58] a.2).bind fun s1=>(pE sg n .pick s1).bind fun b=>(AZ ⟨8,[],[z.1,a.1,b.1],false⟩ b.2).map fun q=>(q.1,dp q.2 (-1)))
  (Zh h hd h1) (by omega) hq (fun s hs ht=>by rw[if_pos (show isM sg s [63]=true from ht)])
 have k2:=BI (k:=fun a s=>(BC sg [58] s).bind fun s1=>(pE sg n .pick s1).bind fun b=>(AZ ⟨8,[],[z.1,a,b.1],false⟩ b.2).map fun q=>(q.1,dp q.2 (-1))) k1 h2.1 (fun _ _=>rfl)
 have k3:=GL (g':=fun s1=>(pE sg n .pick s1).bind fun b=>(AZ ⟨8,[],[z.1,a.1,b.1],false⟩ b.2).map fun q=>(q.1,dp q.2 (-1))) k2 (fun _ _=>rfl)
 have k4:=BI (k:=fun b s=>(AZ ⟨8,[],[z.1,a.1,b],false⟩ s).map fun q=>(q.1,dp q.2 (-1))) k3 h3.1 (fun _ _=>rfl)
 have hw:Cq ⟨8,[],[z.1,a.1,b.1],false⟩:=⟨by simp,by simp⟩
 have k5:=BI (k:=fun k s=>some (k,dp s (-1))) k4 (Nz k4.1 hw) (fun s _=>by cases AZ ⟨8,[],[z.1,a.1,b.1],false⟩ s<;>rfl)
 simp only at k5
 obtain⟨d1,d2,d3⟩:= @GM b.2 ⟨8,[],[z.1,a.1,b.1],false⟩
 refine⟨Fq (JB (e:= -1) k5 ?_ (fun s hs=>rfl)),fun hb=> ?_⟩
 ·have:=k5.2.1;have:=h.2.1;omega
 ·have hb2:=d3 hb
  obtain⟨p1,p2,p3⟩:= @NE x
  have e1:=Cw h1;have e2:=Cw h2;have e3:=Cw h3
  have e4:=Mh (m:=[58]) (En h2)
  have e5:=(Mh (m:=[58]) (En h2)).1.2.2.1
  show x.pos<(Ah b.2 ⟨8,[],[z.1,a.1,b.1],false⟩).pos
  have ea:(Aj z.2).pos=z.2.pos+1:=rfl
  have:=e3.2.1
  omega
def JD(sg:List Sg)(n:Nat)(x y:Gs)(ks:List Int)(N:Nat):Prop:=
 restP sg x (pE sg (n+1) .value) y (fun s=>(EJ sg (pE sg n .value) N ks s).bind fun q=>AZ ⟨10,[],q.1,false⟩ q.2) 0∧(sg.length:Int)-y.pos<N∧(ks.length:Int)≤y.pos+1∧(y.bad=false→x.pos<y.pos)
theorem a7P{sg:List Sg}{x:Gs}{n:Nat}{z:Int×Gs}(h:gsOk sg x)(h1:Ae sg x (pE sg n .pick) z)(hq:isG sg z.2 4 [46,46]=false):Ae sg x (pE sg (n+1) .value) z:=by
 have k1:=BI (k:=fun k s=>if isM sg s [46,46] then(EJ sg (pE sg n .value) (sg.length+1) [k] s).bind fun q=>AZ ⟨10,[],q.1,false⟩ q.2 else some (k,s)) (Df (f:=pE sg (n+1) .value) h) h1.1 (fun _ _=>rfl)
 have k2:=Dq k1 (g':=fun s=>some (z.1,s)) (fun s hs=>by rw[if_neg (by simp [Ek hs hq])])
 exact⟨Fq k2,h1.2⟩
theorem a7Q{sg:List Sg}{x:Gs}{n:Nat}{z:Int×Gs}(h:gsOk sg x)(h1:Ae sg x (pE sg n .pick) z)(hq:isG sg z.2 4 [46,46]=true):JD sg n x z.2 [z.1] (sg.length+1):=by
 have k1:=BI (k:=fun k s=>if isM sg s [46,46] then(EJ sg (pE sg n .value) (sg.length+1) [k] s).bind fun q=>AZ ⟨10,[],q.1,false⟩ q.2 else some (k,s)) (Df (f:=pE sg (n+1) .value) h) h1.1 (fun _ _=>rfl)
 have k2:=Dq k1 (g':=fun s=>(EJ sg (pE sg n .value) (sg.length+1) [z.1] s).bind fun q=>AZ ⟨10,[],q.1,false⟩ q.2) (fun s hs=>by rw[if_pos (Hq hs hq)])
 have:=k2.1.1
 exact⟨k2,by omega,by simp;omega,h1.2⟩
theorem a7R{sg:List Sg}{x y:Gs}{n N:Nat}{ks:List Int}{w:Int×Gs}(hs:sgB sg)(h:JD sg n x y ks N)(hq:isG sg y 4 [46,46]=true)
 (h2:Ae sg (Cu sg (Aj y)) (CL sg (pE sg n .value) (Da sg (Aj y))) w):∃M,N=M+1∧JD sg n x w.2 (ks++[w.1]) M:=by
 obtain⟨h1,hN,hk,hb⟩:=h
 obtain⟨hl1,hl⟩:=Ct hq (by omega)
 match N with
 |0=>omega
 |M+1=>
  refine⟨M,rfl,?_⟩
  have k1:=FK (g':=fun s=>((Bu sg s).bind fun p=>(CL sg (pE sg n .value) p.1 p.2).bind fun q=>EJ sg (pE sg n .value) M (ks++[q.1]) q.2).bind fun q=>AZ ⟨10,[],q.1,false⟩ q.2)
   h1 (by omega) hq (fun s hs ht=>by rw[EJ,if_pos (show isM sg s [46,46]=true from ht)])
  have k2:=BI (k:=fun k s=>((CL sg (pE sg n .value) k s).bind fun q=>EJ sg (pE sg n .value) M (ks++[q.1]) q.2).bind fun q=>AZ ⟨10,[],q.1,false⟩ q.2) k1 (IH hs k1.1).1 (fun s _=>by simp only[Option.bind_assoc])
  have k3:=BI (k:=fun k s=>(EJ sg (pE sg n .value) M (ks++[k]) s).bind fun q=>AZ ⟨10,[],q.1,false⟩ q.2) k2 h2.1 (fun s _=>by simp only[Option.bind_assoc])
  have e0:(Aj y).pos≤(Cu sg (Aj y)).pos:=(IH hs k1.1).1.2.2.1
  have e1:=Cw h2
  have ea:(Aj y).pos=y.pos+1:=rfl
  refine⟨k3,by omega,by simp;omega,fun hb2=> ?_⟩
  have:=h1.2.2.1
  omega
theorem a7S{sg:List Sg}{x y:Gs}{n N:Nat}{ks:List Int}(h:JD sg n x y ks N)(hq:isG sg y 4 [46,46]=false)(hs:sgB sg):Ae sg x (pE sg (n+1) .value) (Au y,Ah y ⟨10,[],ks,false⟩):=by
 obtain⟨h1,hN,hk,hb⟩:=h
 have hp:=h1.1.1
 match N with
 |0=>omega
 |M+1=>
  have k1:=Dq h1 (g':=AZ ⟨10,[],ks,false⟩) (fun s hs=>by rw[EJ,if_neg (by simp [Ek hs hq])];rfl)
  have:=hs.1
  refine⟨PN k1 ⟨by simp,by simp only;omega⟩,fun hb2=> ?_⟩
  obtain⟨d1,d2,d3⟩:= @GM y ⟨10,[],ks,false⟩
  simp only[d2];exact hb (d3 hb2)
theorem Zi{sg:List Sg}{one:Ps→PR}{m:List UInt8}{a:List Int}:∀(n:Nat) (ks:List Int) (s:Ps),Bg sg one m n (a++ks) s=(Bg sg one m n ks s).map fun p=>(a++p.1,p.2)
 |0,ks,s=>rfl
 |n+1,ks,s=>by
  rw[Bg,Bg]
  split
  ·rfl
  ·cases one s with
   |none=>rfl
   |some p=>
    simp only[Option.bind_some]
    split
    ·rw[List.append_assoc,Zi n (ks++[p.1])]
    ·simp
def EA(sg:List Sg)(one:Ps→PR)(m:List UInt8)(x y:Gs)(ks:List Int)(N:Nat):Prop:=
 restP sg x (Bg sg one m (sg.length+1) []) y (Bg sg one m N ks) 0∧(sg.length:Int)-y.pos<N∧(ks.length:Int)≤y.pos
theorem TD{sg:List Sg}{one:Ps→PR}{m:List UInt8}{x:Gs}(h:gsOk sg x):EA sg one m x x [] (sg.length+1):=by
 have:=h.1
 exact⟨Df h,by omega,by simp;omega⟩
theorem TE{sg:List Sg}{one:Ps→PR}{m:List UInt8}{x y:Gs}{ks:List Int}{N:Nat}(h:EA sg one m x y ks N)(hb:y.bad=true):Bh sg x (Bg sg one m (sg.length+1) []) (ks,y):=ND h.1 hb
theorem TF{sg:List Sg}{one:Ps→PR}{m:List UInt8}{x y:Gs}{ks:List Int}{N:Nat}(h:EA sg one m x y ks N)(hq:isG sg y 4 m=true):Bh sg x (Bg sg one m (sg.length+1) []) (ks,y):=by
 obtain⟨h1,hN,hk⟩:=h
 have:=h1.1.1
 match N with
 |0=>omega
 |M+1=>exact Fq (Dq h1 (g':=fun s=>some (ks,s)) (fun s hs=>a7I (Hq hs hq)))
theorem Zj{sg:List Sg}{one:Ps→PR}{m:List UInt8}{x y:Gs}{ks:List Int}{M:Nat}{z:Int×Gs}(h:EA sg one m x y ks (M+1))(hq:isG sg y 4 m=false)(hz:Ae sg y one z):
 restP sg x (Bg sg one m (sg.length+1) []) z.2 (fun s=>if isM sg s [44] then Bg sg one m M (ks++[z.1]) (adv s) else some (ks++[z.1],s)) 0:=by
 have k1:=Dq h.1 (g':=fun s=>(one s).bind fun p=>if isM sg p.2 [44] then Bg sg one m M (ks++[p.1]) (adv p.2) else some (ks++[p.1],p.2)) (fun s hs=>a7J (Ek hs hq))
 exact BI (k:=fun k s=>if isM sg s [44] then Bg sg one m M (ks++[k]) (adv s) else some (ks++[k],s)) k1 hz.1 (fun _ _=>rfl)
theorem Zk{sg:List Sg}{one:Ps→PR}{m:List UInt8}{x y:Gs}{ks:List Int}{N:Nat}(h:EA sg one m x y ks N):∃M,N=M+1:=by
 obtain⟨h1,hN,hk⟩:=h
 have:=h1.1.1
 match N with
 |0=>omega
 |M+1=>exact⟨M,rfl⟩
theorem a7T{sg:List Sg}{one:Ps→PR}{m:List UInt8}{x y:Gs}{ks:List Int}{N:Nat}{z:Int×Gs}(h:EA sg one m x y ks N)(hq:isG sg y 4 m=false)(hz:Ae sg y one z)(hc:isG sg z.2 4 [44]=false):
 Bh sg x (Bg sg one m (sg.length+1) []) (ks++[z.1],z.2):=by
 obtain⟨M,rfl⟩:=Zk h
 exact Fq (Dq (Zj h hq hz) (g':=fun s=>some (ks++[z.1],s)) (fun s hs=>by rw[if_neg (by simp [Ek hs hc])]))
theorem a7U{sg:List Sg}{one:Ps→PR}{m:List UInt8}{x y:Gs}{ks:List Int}{N:Nat}{z:Int×Gs}(h:EA sg one m x y ks N)(hq:isG sg y 4 m=false)(hz:Ae sg y one z)(hc:isG sg z.2 4 [44]=true):
 ∃M,N=M+1∧EA sg one m x (Aj z.2) (ks++[z.1]) M:=by
 obtain⟨M,rfl⟩:=Zk h
 have k1:=FK (g':=Bg sg one m M (ks++[z.1])) (Zj h hq hz) (by omega) hc (fun s hs ht=>by rw[if_pos (show isM sg s [44]=true from ht)])
 have e:=Cw hz
 obtain⟨h1,hN,hk⟩:=h
 refine⟨M,rfl,k1,?_,?_⟩
 ·simp only[Aj];omega
 ·simp only[Aj,List.length_append,List.length_cons,List.length_nil];omega
theorem a7V{sg:List Sg}{val:Ps→PR}{x:Gs}{k:Int}{l:List Int×Gs}(hx:gsOk sg x)(hl:Bh sg (Al sg x [40]) (Bg sg val [41] (sg.length+1) []) l)(hll:l.1.length≤3001):
 Ae sg x (CL sg val k) (Bw sg l.2 [41],Bn sg l.2 [41] ⟨5,[],k::l.1,false⟩):=by
 have k1:=GL (g':=fun s=>(Bg sg val [41] (sg.length+1) [k] s).bind fun p=>Bl sg [41] ⟨5,[],p.1,false⟩ p.2) (Df (f:=CL sg val k) hx) (fun _ _=>rfl)
 have k2:=BI (k:=fun ks s=>Bl sg [41] ⟨5,[],k::ks,false⟩ s) k1 hl (fun s _=>by
  rw[show([k]:List Int)=[k]++[] from rfl,Zi]
  cases Bg sg val [41] (sg.length+1) [] s<;>rfl)
 have hw:Cq ⟨5,[],k::l.1,false⟩:=⟨by simp,by simp;omega⟩
 refine⟨PO k2 hw,fun hb=> ?_⟩
 have:=(Jz (m:=[41]) hl.1 hw).2 hb
 have e1:=hl.2.2.1
 have e2:=(Mh (m:=[40]) hx).1.2.2.1
 simp only at this ⊢
 omega
end Go.My
end
section
set_option linter.unusedVariables false
set_option linter.unusedSimpArgs false
namespace Go.My
open Go.Eng
def chF(sg:List Sg)(n l N:Nat)(t:List UInt8)(ks:List Int):Ps→PR:=DV sg l (pE sg n (.chain (l+1))) N t ks
def chO(sg:List Sg)(n l:Nat)(x y:Gs)(k:Int)(N:Nat):Prop:=
 restP sg x (pE sg (n+1) (.chain l)) y (chF sg n l N [] [k]) 0∧2*((sg.length:Int)-y.pos)+3≤N∧(y.bad=false→x.pos<y.pos)
def chN(sg:List Sg)(n l:Nat)(m:List UInt8)(x y:Gs)(ks:List Int)(N:Nat):Prop:=
 restP sg x (pE sg (n+1) (.chain l)) y (chF sg n l N m ks) 0∧(2*((sg.length:Int)-y.pos)+4≤N∨(isG sg y 4 m=true∧2*((sg.length:Int)-y.pos)+3≤N))∧(ks.length:Int)≤y.pos+1∧(y.bad=false→x.pos<y.pos)
theorem a7W{sg:List Sg}{x:Gs}{n:Nat}{z:Int×Gs}(h1:Ae sg x (pE sg n .fin) z):Ae sg x (pE sg (n+1) (.chain 6)) z:=h1
theorem Zl{sg:List Sg}{x:Gs}{n l:Nat}{z:Int×Gs}(h:gsOk sg x)(hl:l≠6)(h1:Ae sg x (pE sg n (.chain (l+1))) z):chO sg n l x z.2 z.1 (2*sg.length+4):=by
 have k1:=Dq (Df (f:=pE sg (n+1) (.chain l)) h) (g':=fun s=>(pE sg n (.chain (l+1)) s).bind fun p=>DV sg l (pE sg n (.chain (l+1))) (2*sg.length+4) [] [p.1] p.2) (fun s _=>by rw[a7L,if_neg hl])
 have k2:=BI (k:=fun k s=>chF sg n l (2*sg.length+4) [] [k] s) k1 h1.1 (fun _ _=>rfl)
 have:=k2.1.1
 exact⟨k2,by omega,h1.2⟩
def Bx(sg:List Sg)(l:Nat)(g:Gs):List UInt8:=((Bs l).find? fun m=>isG sg g 4 m).getD []
theorem Fs{sg:List Sg}{l:Nat}{g:Gs}{s:Ps}(hs:pur g=some s):Fp sg l s=Bx sg l g:=by
 unfold Fp Bx
 congr 2
 funext m
 exact(PE hs).symm
theorem chMG_t{sg:List Sg}{l:Nat}{g:Gs}(hb:g.bad=true):Bx sg l g=[]:=by
 unfold Bx
 rw[List.find?_eq_none.2 (by intro m _;rw[YR (DC hb) (by omega)];simp)];rfl
theorem PP{l:Nat}{m:List UInt8}(h:m∈Bs l):m≠[]:=by
 unfold Bs at h
 split at h<;>simp at h<;>(first|(subst h;simp)|(rcases h with rfl|rfl<;>simp))
theorem GN{sg:List Sg}{l:Nat}{g:Gs}(h:Bx sg l g≠[]):isG sg g 4 (Bx sg l g)=true∧Bx sg l g∈Bs l:=by
 unfold Bx at h ⊢
 cases hf:(Bs l).find? fun m=>isG sg g 4 m with
 |none=>rw[hf] at h;exact(h rfl).elim
 |some m=>exact⟨by simpa using List.find?_some hf,by simpa using List.mem_of_find?_eq_some hf⟩
theorem a7X{sg:List Sg}{g:Gs}{m m':List UInt8}(h:isG sg g 4 m=true)(h':isG sg g 4 m'=true):m=m':=by
 simp [isG] at h h';rw[←h.2,h'.2]
theorem Zm{sg:List Sg}{l:Nat}{g:Gs}{m:List UInt8}(hm:m∈Bs l)(h:isG sg g 4 m=true):Bx sg l g=m:=by
 unfold Bx
 cases hf:(Bs l).find? fun m=>isG sg g 4 m with
 |none=>exact(List.find?_eq_none.1 hf m hm (by simpa using h)).elim
 |some m'=>exact(a7X (by simpa using List.find?_some hf) h)
theorem a7Y{sg:List Sg}{n l:Nat}{x y:Gs}{k:Int}{N:Nat}(h:chO sg n l x y k N)(hm:Bx sg l y=[]):Ae sg x (pE sg (n+1) (.chain l)) (k,y):=by
 obtain⟨h1,hN,hb⟩:=h
 have:=h1.1.1
 match N with
 |0=>omega
 |N+1=>
  exact⟨Fq (Dq h1 (g':=fun s=>some (k,s)) (fun s hs=>by rw[chF,DV,if_neg (by simp),if_pos (by rw[Fs hs,hm])];rfl)),hb⟩
theorem a7Z{sg:List Sg}{n l:Nat}{x y:Gs}{k:Int}{N:Nat}(h:chO sg n l x y k N)(hm:Bx sg l y≠[]):chN sg n l (Bx sg l y) x y [k] N:=by
 obtain⟨h1,hN,hb⟩:=h
 have:=h1.1.1
 match N with
 |0=>omega
 |N+1=>
  refine⟨Dq h1 (fun s hs=> ?_),.inr ⟨(GN hm).1,hN⟩,by simp;omega,hb⟩
  rw[chF,chF,DV,DV,if_neg (by simp),if_neg (by rw[Fs hs];exact hm),if_neg (by rw[Fs hs];simp)]
theorem a8a{sg:List Sg}{n l:Nat}{m:List UInt8}{x y:Gs}{ks:List Int}{N:Nat}{z:Int×Gs}(hml:m∈Bs l)(h:chN sg n l m x y ks N)(hq:isG sg y 4 m=true)(hz:Ae sg (Aj y) (pE sg n (.chain (l+1))) z):
 ∃M,N=M+1∧chN sg n l m x z.2 (ks++[z.1]) M:=by
 obtain⟨h1,hN,hk,hb⟩:=h
 have hp:=h1.1.1
 have hN2:2*((sg.length:Int)-y.pos)+3≤N:=by rcases hN with h|h<;>omega
 match N with
 |0=>omega
 |M+1=>
  refine⟨M,rfl,?_⟩
  have hmg:=Zm hml hq
  have k1:=FK (g':=fun s=>(pE sg n (.chain (l+1)) s).bind fun p=>chF sg n l M m (ks++[p.1]) p.2) h1 (by omega) hq (fun s hs ht=>by
   rw[chF,DV,if_neg (by rw[Fs hs,hmg];simp),if_neg (by rw[Fs hs,hmg];exact PP hml),Fs hs,hmg];rfl)
  have k2:=BI (k:=fun k s=>chF sg n l M m (ks++[k]) s) k1 hz.1 (fun _ _=>rfl)
  have e:=Cw hz
  simp only[Aj] at e
  have:=h1.2.2.1
  refine⟨k2,.inl (by omega),by simp;omega,fun hb2=>by omega⟩
theorem a8b{sg:List Sg}{n l:Nat}{m:List UInt8}{x y:Gs}{ks:List Int}{N:Nat}(hml:m∈Bs l)(hs:sgB sg)(h:chN sg n l m x y ks N)(hq:isG sg y 4 m=false):
 ∃M,N=M+1∧chO sg n l x (Ah y ⟨7,m,ks,false⟩) (Au y) M:=by
 obtain⟨h1,hN,hk,hb⟩:=h
 have hp:=h1.1.1
 have hN2:2*((sg.length:Int)-y.pos)+4≤N:=by
  rcases hN with h|h
  ·exact h
  ·rw[hq] at h;cases h.1
 match N with
 |0=>omega
 |M+1=>
  have hw:Cq ⟨7,m,ks,false⟩:=by
   refine⟨?_,by have:=hs.1;simp only;omega⟩
   simp only
   unfold Bs at hml
   split at hml<;>simp at hml<;>(first|(subst hml;simp)|(rcases hml with rfl|rfl<;>simp))
  have k1:=Dq h1 (g':=fun s=>(AZ ⟨7,m,ks,false⟩ s).bind fun p=>chF sg n l M [] [p.1] p.2) (fun s hs=>by
   rw[chF,DV,if_pos ⟨PP hml,fun e=>by
    rw[Fs hs] at e
    have:=(GN (sg:=sg) (l:=l) (g:=y) (by rw[e];exact PP hml)).1
    rw[e,hq] at this;cases this⟩];rfl)
  have k2:=BI (k:=fun k s=>chF sg n l M [] [k] s) k1 (Nz h1.1 hw) (fun _ _=>rfl)
  obtain⟨d1,d2,d3⟩:= @GM y ⟨7,m,ks,false⟩
  refine⟨M,rfl,k2,by rw[d2];omega,fun hb2=>by rw[d2];exact hb (d3 hb2)⟩
def enI(sg:List Sg)(n:Nat)(x y:Gs)(k:Int)(N:Nat):Prop:=
 restP sg x (pE sg (n+1) .fin) y (EX sg (pE sg n .value) N k) 0∧(y.bad=false→(sg.length:Int)-y.pos<N)∧(y.bad=false→x.pos<y.pos)
theorem a8c{sg:List Sg}{x:Gs}{n:Nat}{z:Int×Gs}(h:gsOk sg x)(h1:Ae sg x (pE sg n .base) z):enI sg n x z.2 z.1 (sg.length+1):=by
 have k1:=BI (k:=fun k s=>EX sg (pE sg n .value) (sg.length+1) k s) (Df (f:=pE sg (n+1) .fin) h) h1.1 (fun _ _=>rfl)
 have:=k1.1.1
 exact⟨k1,fun _=>by omega,h1.2⟩
theorem NF{sg:List Sg}{n:Nat}{x y:Gs}{k:Int}{N:Nat}(h:enI sg n x y k N)(hb:y.bad=false):∃M,N=M+1:=by
 have h1:=h.1.1.1;have h2:=h.2.1 hb
 match N with
 |0=>omega
 |M+1=>exact⟨M,rfl⟩
theorem Zn{sg:List Sg}{n:Nat}{x y:Gs}{k a:Int}{N:Nat}(h:enI sg n x y k N)(hb:y.bad=true):Ae sg x (pE sg (n+1) .fin) (a,y):=
 ⟨ND h.1 hb,fun hb2=>by simp only at hb2;rw[hb] at hb2;cases hb2⟩
theorem a8d{sg:List Sg}{n:Nat}{x y:Gs}{k:Int}{N:Nat}{w:Int×Gs}(h:enI sg n x y k N)(hq:isG sg y 4 [40]=true)(hw:Ae sg y (CL sg (pE sg n .value) k) w):
 ∃M,N=M+1∧enI sg n x w.2 w.1 M:=by
 have hl:=Ct hq (by omega)
 obtain⟨M,rfl⟩:=NF h hl.1
 obtain⟨h1,hN,hb⟩:=h
 have k1:=Dq h1 (g':=fun s=>(CL sg (pE sg n .value) k s).bind fun p=>EX sg (pE sg n .value) M p.1 p.2) (fun s hs=>by rw[EX,if_pos (Hq hs hq)])
 have k2:=BI (k:=fun k s=>EX sg (pE sg n .value) M k s) k1 hw.1 (fun _ _=>rfl)
 have e:=Cw hw
 have hN2:=hN hl.1;have hb2:=hb hl.1
 exact⟨M,rfl,k2,fun hwb=>by have:=e.2.2.2 hwb;omega,fun hwb=>by have:=e.2.2.2 hwb;omega⟩
theorem Zo{sg:List Sg}{n:Nat}{x y:Gs}{k:Int}{N:Nat}(hs:sgB sg)(h:enI sg n x y k N)(hp:isG sg y 4 [40]=false)(hq:isG sg y 4 [46]=true)(hn:nmG sg (Aj y) 0=true):
 ∃M,N=M+1∧enI sg n x (BW (Ah (Aj y) ⟨6,(pkG sg (Aj y) 0).text,[k],false⟩)) (Au (Aj y)) M:=by
 have hl:=Ct hq (by omega)
 obtain⟨M,rfl⟩:=NF h hl.1
 obtain⟨h1,hN,hb⟩:=h
 have hw:Cq ⟨6,(pkG sg (Aj y) 0).text,[k],false⟩:=⟨JA hs,by simp⟩
 have hn2:=Ia hn
 have k1:=FK (g':=fun s=>(Ef (AZ ⟨6,(pkG sg (Aj y) 0).text,[k],false⟩ s)).bind fun p=>EX sg (pE sg n .value) M p.1 p.2) h1 (by omega) hq (fun s hs ht=>by
  obtain⟨hb0,rfl⟩:=Eh.1 hs
  rw[EX,if_neg (by simp [Ek hs hp]),if_pos (show isM sg _ [46]=true from ht)]
  have e1:CY sg (y.pos+1)=true:=by
   have:=Jy (sg:=sg) (n:=0) (g:=Aj y) (CR hn2.1)
   rw[hn] at this;simpa [Aj] using this.symm
  have e2:(pkG sg (Aj y) 0)=sgO sg (y.pos+1):=by rw[Gk hn2.1];simp [Aj]
  rw[if_pos e1,e2])
 have hg:=Tx k1.1 hw (fun _=>by omega)
 have k2:=BI (k:=fun k s=>EX sg (pE sg n .value) M k s) k1 hg.1 (fun _ _=>rfl)
 have e:=Cw hg
 have hN2:=hN hl.1;have hb2:=hb hl.1
 simp only[Aj] at e
 exact⟨M,rfl,k2,fun hwb=>by have:=e.2.2.2 hwb;simp only[Aj] at*;omega,fun hwb=>by have:=e.2.2.2 hwb;simp only[Aj] at*;omega⟩
theorem Zp{sg:List Sg}{n:Nat}{x y:Gs}{k a:Int}{N:Nat}(h:enI sg n x y k N)(hp:isG sg y 4 [40]=false)(hq:isG sg y 4 [46]=true)(hn:nmG sg (Aj y) 0=false):
 Ae sg x (pE sg (n+1) .fin) (a,Bc (Aj y)):=by
 have hl:=Ct hq (by omega)
 obtain⟨M,rfl⟩:=NF h hl.1
 obtain⟨h1,hN,hb⟩:=h
 have k1:=FK (g':=fun _=>none) h1 (by omega) hq (fun s hs ht=>by
  obtain⟨hb0,rfl⟩:=Eh.1 hs
  rw[EX,if_neg (by simp [Ek hs hp]),if_pos (show isM sg _ [46]=true from ht)]
  have e1:CY sg (y.pos+1)=false:=by
   have:=Jy (sg:=sg) (n:=0) (g:=Aj y) (CR (by simpa [Aj] using hb0))
   rw[hn] at this;simpa [Aj] using this.symm
  rw[if_neg (by simp [e1])])
 exact⟨Za k1 (fun _ _=>rfl),fun hb2=>by simp [Bc] at hb2⟩
theorem Zq{sg:List Sg}{n:Nat}{x y:Gs}{k:Int}{N:Nat}(h:enI sg n x y k N)(hb:y.bad=false)(hp:isG sg y 4 [40]=false)(hq:isG sg y 4 [46]=false):Ae sg x (pE sg (n+1) .fin) (k,y):=by
 obtain⟨M,rfl⟩:=NF h hb
 exact⟨Fq (Dq h.1 (g':=fun s=>some (k,s)) (fun s hs=>by rw[EX,if_neg (by simp [Ek hs hp]),if_neg (by simp [Ek hs hq])])),h.2.2⟩
theorem PQ{sg:List Sg}{g:Gs}{s:Ps}(hs:pur g=some s):(pkG sg g 0).kind=(sgO sg s.pos).kind:=by
 obtain⟨h,rfl⟩:=Eh.1 hs
 rw[Gk h];simp
theorem NG{sg:List Sg}{g:Gs}(h:(pkG sg g 0).kind≠0):g.bad=false∧g.pos<sg.length:=by
 unfold pkG at h
 split at h
 ·simp [Ew] at h
 ·rename_i hh;simp only[Int.add_zero] at hh;exact⟨by cases hb:g.bad<;>simp_all,by omega⟩
theorem TG{sg:List Sg}{x:Gs}{n:Nat}(hs:sgB sg)(h:gsOk sg x)(hk:(pkG sg x 0).kind=1):Ae sg x (pE sg (n+1) .base) (Da sg x,Cu sg x):=by
 obtain⟨a,b⟩:=IH hs h
 have e:(pur x).bind (pE sg (n+1) .base)=(pur x).bind (Bu sg):=by
  cases hp:pur x with
  |none=>rfl
  |some s=>simp only[Option.bind_some];rw[pE,if_pos (by rw[←PQ hp];exact hk)]
 obtain⟨a1,a2,a3,a4,a5⟩:=a
 exact⟨⟨a1,a2,a3,by rw[e];exact a4,by rw[e];exact a5⟩,b⟩
theorem TH{sg:List Sg}{x:Gs}{n:Nat}{k:Int}(hs:sgB sg)(h:gsOk sg x)(hk:(pkG sg x 0).kind=k)(hk2:k=2∨k=3):Ae sg x (pE sg (n+1) .base) (Au x,CS sg x k false):=by
 have hl:=NG (sg:=sg) (g:=x) (by rw[hk];omega)
 obtain⟨a,b⟩:=NA (k:=k) (b:=false) hs h (fun _=>hl.2)
 have e:(pur x).bind (pE sg (n+1) .base)=(pur x).bind (DM sg k false):=by
  cases hp:pur x with
  |none=>rfl
  |some s=>
   simp only[Option.bind_some]
   have:=PQ (sg:=sg) hp
   rcases hk2 with rfl|rfl
   ·rw[pE,if_neg (by omega),if_pos (by omega)]
   ·rw[pE,if_neg (by omega),if_neg (by omega),if_pos (by omega)]
 obtain⟨a1,a2,a3,a4,a5⟩:=a
 exact⟨⟨a1,a2,a3,by rw[e];exact a4,by rw[e];exact a5⟩,b⟩
theorem Ml{sg:List Sg}{x:Gs}{s:Ps}{n:Nat}(hs:pur x=some s)(h1:(pkG sg x 0).kind≠1)(h2:(pkG sg x 0).kind≠2)(h3:(pkG sg x 0).kind≠3):pE sg (n+1) .base s=
 if isM sg s [91] then(Bg sg (pE sg n .value) [93] (sg.length+1) [] (adv s)).bind fun p=>Bl sg [93] ⟨4,[],p.1,false⟩ p.2
 else if isM sg s [40]&&Eg sg s then(Bg sg (Bu sg) [41] (sg.length+1) [] (adv s)).bind fun p=>(BC sg [41] p.2).bind fun s1=>(BC sg [61,62] s1).bind fun s2=>(pE sg n .pick s2).bind fun q=>AZ ⟨9,[],p.1++[q.1],false⟩ q.2
 else if isM sg s [40] then(pE sg n .value (adv s)).bind fun p=>Bl sg [41] ⟨11,[],[p.1],false⟩ p.2
 else none:=by
 have:=PQ (sg:=sg) hs
 rw[pE,if_neg (by omega),if_neg (by omega),if_neg (by omega)]
theorem Zs{sg:List Sg}{x:Gs}{n:Nat}{l:List Int×Gs}(h:gsOk sg x)(h1:(pkG sg x 0).kind≠1)(h2:(pkG sg x 0).kind≠2)(h3:(pkG sg x 0).kind≠3)(hq:isG sg x 4 [91]=true)
 (hl:Bh sg (Aj x) (Bg sg (pE sg n .value) [93] (sg.length+1) []) l) (hll:l.1.length≤3001):
 Ae sg x (pE sg (n+1) .base) (Bw sg l.2 [93],Bn sg l.2 [93] ⟨4,[],l.1,false⟩):=by
 have k1:=FK (g':=fun s=>(Bg sg (pE sg n .value) [93] (sg.length+1) [] s).bind fun p=>Bl sg [93] ⟨4,[],p.1,false⟩ p.2) (Df (f:=pE sg (n+1) .base) h) (by omega) hq
  (fun s hs ht=>by rw[Ml hs h1 h2 h3,if_pos (show isM sg s [91]=true from ht)])
 have k2:=BI (k:=fun ks s=>Bl sg [93] ⟨4,[],ks,false⟩ s) k1 hl (fun _ _=>rfl)
 have hw:Cq ⟨4,[],l.1,false⟩:=⟨by simp,by simp only;omega⟩
 refine⟨PO k2 hw,fun hb=> ?_⟩
 have:=(Jz (m:=[93]) hl.1 hw).2 hb
 have e1:=hl.2.2.1
 simp only[Aj] at this e1 ⊢
 omega
theorem Zt{sg:List Sg}{x:Gs}{n:Nat}{z:Int×Gs}(h:gsOk sg x)(h1:(pkG sg x 0).kind≠1)(h2:(pkG sg x 0).kind≠2)(h3:(pkG sg x 0).kind≠3)(hn:isG sg x 4 [91]=false)(hq:isG sg x 4 [40]=true)
 (ha:∀s,pur x=some s→Eg sg s=false) (hz:Ae sg (Aj x) (pE sg n .value) z):
 Ae sg x (pE sg (n+1) .base) (Bw sg z.2 [41],Bn sg z.2 [41] ⟨11,[],[z.1],false⟩):=by
 have k1:=FK (g':=fun s=>(pE sg n .value s).bind fun p=>Bl sg [41] ⟨11,[],[p.1],false⟩ p.2) (Df (f:=pE sg (n+1) .base) h) (by omega) hq
  (fun s hs ht=>by rw[Ml hs h1 h2 h3,if_neg (by simp [Ek hs hn]),if_neg (by simp [ha s hs]),if_pos (show isM sg s [40]=true from ht)])
 have k2:=BI (k:=fun k s=>Bl sg [41] ⟨11,[],[k],false⟩ s) k1 hz.1 (fun _ _=>rfl)
 have hw:Cq ⟨11,[],[z.1],false⟩:=⟨by simp,by simp⟩
 refine⟨PO k2 hw,fun hb=> ?_⟩
 have:=(Jz (m:=[41]) hz.1.1 hw).2 hb
 have e1:=hz.1.2.2.1
 simp only[Aj] at this e1 ⊢
 omega
theorem Zu{sg:List Sg}{x:Gs}{n:Nat}{a:Int}(h:gsOk sg x)(h1:(pkG sg x 0).kind≠1)(h2:(pkG sg x 0).kind≠2)(h3:(pkG sg x 0).kind≠3)(hn:isG sg x 4 [91]=false)(hq:isG sg x 4 [40]=false):
 Ae sg x (pE sg (n+1) .base) (a,Bc x):=
 ⟨Za (Df h) (fun s hs=>by rw[Ml hs h1 h2 h3,if_neg (by simp [Ek hs hn]),if_neg (by simp [Ek hs hq]),if_neg (by simp [Ek hs hq])]),fun hb=>by simp [Bc] at hb⟩
def fnR(sg:List Sg)(n:Nat)(s:Ps):PR:=(BC sg [40] s).bind fun s0=>(Bg sg (Bu sg) [41] (sg.length+1) [] s0).bind fun p=>(BC sg [41] p.2).bind fun s1=>(BC sg [61,62] s1).bind fun s2=>(pE sg n .pick s2).bind fun q=>AZ ⟨9,[],p.1++[q.1],false⟩ q.2
theorem a8e{sg:List Sg}{x:Gs}{n:Nat}{z:Int×Gs}(h1:(pkG sg x 0).kind≠1)(h2:(pkG sg x 0).kind≠2)(h3:(pkG sg x 0).kind≠3)(hn:isG sg x 4 [91]=false)(hq:isG sg x 4 [40]=true)
 (ha:∀s,pur x=some s→Eg sg s=true) (hz:Ae sg x (fnR sg n) z):Ae sg x (pE sg (n+1) .base) z:=by
 have e:(pur x).bind (pE sg (n+1) .base)=(pur x).bind (fnR sg n):=by
  cases hp:pur x with
  |none=>rfl
  |some s=>
   simp only[Option.bind_some]
   rw[Ml hp h1 h2 h3,if_neg (by simp [Ek hp hn]),if_pos (by simp [Hq hp hq,ha s hp]),fnR,BC,if_pos (Hq hp hq)];rfl
 obtain⟨⟨a1,a2,a3,a4,a5⟩,b⟩:=hz
 exact⟨⟨a1,a2,a3,by rw[e];exact a4,by rw[e];exact a5⟩,b⟩
theorem Zv{sg:List Sg}{x:Gs}{n:Nat}{l:List Int×Gs}{z:Int×Gs}(h:gsOk sg x)(hl:Bh sg (Al sg x [40]) (Bg sg (Bu sg) [41] (sg.length+1) []) l)(hll:l.1.length≤3001)
 (hz:Ae sg (Al sg (Al sg l.2 [41]) [61,62]) (pE sg n .pick) z):Ae sg x (fnR sg n) (Au z.2,Ah z.2 ⟨9,[],l.1++[z.1],false⟩):=by
 have k1:=GL (g':=fun s0=>(Bg sg (Bu sg) [41] (sg.length+1) [] s0).bind fun p=>(BC sg [41] p.2).bind fun s1=>(BC sg [61,62] s1).bind fun s2=>(pE sg n .pick s2).bind fun q=>AZ ⟨9,[],p.1++[q.1],false⟩ q.2) (Df (f:=fnR sg n) h) (fun _ _=>rfl)
 have k2:=BI (k:=fun ks s=>(BC sg [41] s).bind fun s1=>(BC sg [61,62] s1).bind fun s2=>(pE sg n .pick s2).bind fun q=>AZ ⟨9,[],ks++[q.1],false⟩ q.2) k1 hl (fun _ _=>rfl)
 have k3:=GL (g':=fun s1=>(BC sg [61,62] s1).bind fun s2=>(pE sg n .pick s2).bind fun q=>AZ ⟨9,[],l.1++[q.1],false⟩ q.2) k2 (fun _ _=>rfl)
 have k4:=GL (g':=fun s2=>(pE sg n .pick s2).bind fun q=>AZ ⟨9,[],l.1++[q.1],false⟩ q.2) k3 (fun _ _=>rfl)
 have k5:=BI (k:=fun k s=>AZ ⟨9,[],l.1++[k],false⟩ s) k4 hz.1 (fun _ _=>rfl)
 have hw:Cq ⟨9,[],l.1++[z.1],false⟩:=⟨by simp,by simp;omega⟩
 refine⟨PN k5 hw,fun hb=> ?_⟩
 obtain⟨d1,d2,d3⟩:= @GM z.2 ⟨9,[],l.1++[z.1],false⟩
 have e1:=Cw hz
 have e2:=k4.2.2.1
 have:=e1.2.2.2 (d3 hb)
 simp only[d2];omega
end Go.My
end
section
set_option linter.unusedVariables false
set_option linter.unusedSimpArgs false
namespace Go.My
open Go.Eng Go.Proofs
variable {G:GInv}
abbrev iG {α:Type} (i:Int×Int×Bool×List Nd×α×Nat):Gs:=⟨i.1,i.2.1,i.2.2.1,i.2.2.2.1⟩
def vP(r n:Nat)(s:ST)(g:Gs):Prop:=(rOk s g∧g.deep≤20)∧12*((s.sg.length:Int)-g.pos)+r≤n
def wP(r n:Nat)(s:ST)(g:Gs):Prop:=(rOk s g∧(g.bad=false→g.deep≤20))∧12*((s.sg.length:Int)-g.pos)+r≤n
def JE(n:Nat):Sig:= {X:=ST×Int×Int×Bool×List Nd,args:=fun x=>[rdG x.1 (xg x)],pre:=fun x=>vP 11 n x.1 (xg x),Y:=Int×Int×Int×Bool×List Nd,post:=fun x y=>Ae x.1.sg (xg x) (pE x.1.sg n .value) (yS y),res:=fun x y=> .int .i64 y.1,outs:=fun x y=>[rdG x.1 (yG y.2)],keep:=true}
def Hr(n:Nat):Sig:= {X:=ST×Int×Int×Bool×List Nd,args:=fun x=>[rdG x.1 (xg x)],pre:=fun x=>vP 10 n x.1 (xg x),Y:=Int×Int×Int×Bool×List Nd,post:=fun x y=>Ae x.1.sg (xg x) (pE x.1.sg n .pick) (yS y),res:=fun x y=> .int .i64 y.1,outs:=fun x y=>[rdG x.1 (yG y.2)],keep:=true}
def JF(n:Nat):Sig:= {X:=ST×Int×Int×Bool×List Nd×Int,args:=fun x=>[rdG x.1 (xh x),.int .i64 x.2.2.2.2.2],pre:=fun x=>wP (9-x.2.2.2.2.2.toNat) n x.1 (xh x)∧0≤x.2.2.2.2.2∧x.2.2.2.2.2≤6,Y:=Int×Int×Int×Bool×List Nd,post:=fun x y=>Ae x.1.sg (xh x) (pE x.1.sg n (.chain x.2.2.2.2.2.toNat)) (yS y),res:=fun x y=> .int .i64 y.1,outs:=fun x y=>[rdG x.1 (yG y.2),.top],keep:=true}
def PS(n:Nat):Sig:= {X:=ST×Int×Int×Bool×List Nd,args:=fun x=>[rdG x.1 (xg x)],pre:=fun x=>wP 2 n x.1 (xg x),Y:=Int×Int×Int×Bool×List Nd,post:=fun x y=>Ae x.1.sg (xg x) (pE x.1.sg n .fin) (yS y),res:=fun x y=> .int .i64 y.1,outs:=fun x y=>[rdG x.1 (yG y.2)],keep:=true}
def PT(n:Nat):Sig:= {X:=ST×Int×Int×Bool×List Nd,args:=fun x=>[rdG x.1 (xg x)],pre:=fun x=>wP 1 n x.1 (xg x),Y:=Int×Int×Int×Bool×List Nd,post:=fun x y=>Ae x.1.sg (xg x) (pE x.1.sg n .base) (yS y),res:=fun x y=> .int .i64 y.1,outs:=fun x y=>[rdG x.1 (yG y.2)],keep:=true}
structure rAll (G:GInv) (n:Nat):Prop where
 val:Aq G Go.Proofs.Tryz.prog 164 (JE n)
 pick:Aq G Go.Proofs.Tryz.prog 180 (Hr n)
 chain:Aq G Go.Proofs.Tryz.prog 190 (JF n)
 fin:Aq G Go.Proofs.Tryz.prog 193 (PS n)
 base:Aq G Go.Proofs.Tryz.prog 196 (PT n)
theorem GP{I:Nat→Prop}{N:Nat}(h:∃M,N=M+1∧I M):I (N-1)∧N-1<N:=by
 obtain⟨M,rfl,h⟩:=h
 exact⟨by simpa using h,by omega⟩
theorem CT{sg:List Sg}{g:Gs}{m:List UInt8}(h:isG sg g 4 m=false):Ai sg g m=g:=by simp [Ai,h]
theorem CU{sg:List Sg}{g:Gs}{m:List UInt8}(h:isG sg g 4 m=true):Ai sg g m=Aj g:=by simp [Ai,h]
theorem a8f{α:Type}{sg:List Sg}{x:Gs}{f:Ps→Option (α×Ps)}{y:α×Gs}(h:Ae sg x f y)(hb:y.2.bad=false):x.bad=false:=((Cw h).2.2.2 hb).1
abbrev GQ (sg:List Sg) (one:Ps→PR) (m:List UInt8) (x y:Gs) (ks:List Int) (N:Nat):Prop:=EA sg one m x y ks N∧(y.bad=false→x.bad=false)
theorem TI{sg:List Sg}{one:Ps→PR}{m:List UInt8}{x y:Gs}{ks:List Int}{N:Nat}{z:Int×Gs}(h:GQ sg one m x y ks N)(hz:Ae sg y one z)(hq:isG sg y 4 m=false)(hc:isG sg z.2 4 [44]=false):
 Bh sg x (Bg sg one m (sg.length+1) []) (ks++[z.1],Ai sg z.2 [44]):=by rw[CT hc];exact a7T h.1 hq hz hc
theorem NH{sg:List Sg}{one:Ps→PR}{m:List UInt8}{x y:Gs}{ks:List Int}{N:Nat}{z:Int×Gs}(h:GQ sg one m x y ks N)(hz:Ae sg y one z)(hq:isG sg y 4 m=false)(hc:isG sg z.2 4 [44]=true):
 GQ sg one m x (Ai sg z.2 [44]) (ks++[z.1]) (N-1)∧N-1<N:=by
 rw[CU hc]
 obtain⟨a,b⟩:=GP (a7U h.1 hq hz hc)
 exact⟨⟨a,fun hb=>h.2 (a8f hz hb)⟩,b⟩
theorem CG(g:Gs):(⟨g.pos,g.deep,g.bad,g.nodes⟩:Gs)=g:=rfl
theorem a8g{sg:List Sg}{m:List UInt8}{x y:Gs}{ks:List Int}{N:Nat}(hs:sgB sg)(h:GQ sg (Bu sg) m x y ks N)(hq:isG sg y 4 m=false)(hc:isG sg (Cu sg y) 4 [44]=false):
 Bh sg x (Bg sg (Bu sg) m (sg.length+1) []) (ks++[Da sg y],Ai sg (Cu sg y) [44]):=TI h (IH hs h.1.1.1) hq hc
theorem TJ{sg:List Sg}{m:List UInt8}{x y:Gs}{ks:List Int}{N:Nat}(hs:sgB sg)(h:GQ sg (Bu sg) m x y ks N)(hq:isG sg y 4 m=false)(hc:isG sg (Cu sg y) 4 [44]=true):
 GQ sg (Bu sg) m x (Ai sg (Cu sg y) [44]) (ks++[Da sg y]) (N-1)∧N-1<N:=NH h (IH hs h.1.1.1) hq hc
theorem a8h{s:ST}{m:List UInt8}{x y:Gs}{ks:List Int}{N:Nat}(hr:sgB s.sg)(h:GQ s.sg (Bu s.sg) m x y ks N):rOk s (Cu s.sg y):=⟨hr,En (IH hr h.1.1.1)⟩
theorem TK{s:ST}{one:Ps→PR}{m:List UInt8}{x y:Gs}{ks:List Int}{N:Nat}(hr:sgB s.sg)(h:GQ s.sg one m x y ks N):ks.length≤3000:=by
 have h1:=h.1.2.2;have h2:=h.1.1.1.1.2;have h3:=hr.1;omega
theorem Zw{s:ST}{one:Ps→PR}{m:List UInt8}{x y:Gs}{ks:List Int}{N n:Nat}(hr:sgB s.sg)(h:GQ s.sg one m x y ks N)(hb:y.bad=false)(hd:x.bad=false→x.deep≤20)(hn:12*((s.sg.length:Int)-x.pos)+11≤n):vP 11 n s y:=by
 have h1:=h.1.1;have h2:=hd (h.2 hb);have h3:=h1.2.1;have h4:=h1.2.2.1
 exact⟨⟨⟨hr,h1.1⟩,by omega⟩,by omega⟩
theorem TL{s:ST}{one:Ps→PR}{m:List UInt8}{x y:Gs}{ks:List Int}{N:Nat}(hr:sgB s.sg)(h:GQ s.sg one m x y ks N):rOk s y:=⟨hr,h.1.1.1⟩
theorem a8i{s:ST}{x:Gs}{n:Nat}(h1:rOk s x)(h2:x.bad=false→x.deep≤20)(h3:12*((s.sg.length:Int)-x.pos)+11≤n):wP 11 n s (Al s.sg x [40]):=by
 obtain⟨⟨a1,a2,a3,a4⟩,a5⟩:=Mh (m:=[40]) h1.2
 refine⟨⟨⟨h1.1,a1⟩,fun hb=> ?_⟩,by omega⟩
 rw[a2]
 refine h2 ?_
 cases hx:x.bad with
 |false=>rfl
 |true=>rw[DC hx,CR hb] at a4;cases a4
theorem Zx{s:ST}{x:Gs}{one:Ps→PR}{k:Int}{l:List Int×Gs}(h1:rOk s x)(h:Bh s.sg (Al s.sg x [40]) (Bg s.sg one [41] (s.sg.length+1) []) l∧l.1.length≤3001):rOk s l.2∧Cq ⟨5,[],[k]++l.1,false⟩:=
 ⟨⟨h1.1,h.1.1⟩,by simp,by have:=h.2;simp;omega⟩
theorem Zy{sg:List Sg}{x:Gs}{one:Ps→PR}{k:Int}{l:List Int×Gs}(hx:gsOk sg x)(h:Bh sg (Al sg x [40]) (Bg sg one [41] (sg.length+1) []) l∧l.1.length≤3001):
 Ae sg x (CL sg one k) (Bw sg l.2 [41],Bn sg l.2 [41] ⟨5,[],[k]++l.1,false⟩):=a7V hx h.1 h.2
attribute [local irreducible] pE Bg CL fnR Ae Bh gsOk Al Bn Ah BW CS Ai Cu Da Au Bw pkG isG nmG
def Hs(n:Nat):Sig:= {X:=ST×Int×Int×Bool×List Nd×List UInt8,args:=fun x=>[rdG x.1 (xh x),.str x.2.2.2.2.2,.top],pre:=fun x=>wP 11 n x.1 (xh x),Y:=List Int×Int×Int×Bool×List Nd,post:=fun x y=>Bh x.1.sg (xh x) (Bg x.1.sg (pE x.1.sg n .value) x.2.2.2.2.2 (x.1.sg.length+1) []) (yS y)∧y.1.length≤3001,res:=fun x y=>Ad y.1,outs:=fun x y=>[rdG x.1 (yG y.2),.top,.top],keep:=true,caps:=[(2,.yield 164,0)]}
def a8j(n:Nat)(x:ST×Int×Int×Bool×List Nd×List UInt8):LS:= {ι:=Int×Int×Bool×List Nd×List Int×Nat,inv:=fun i=>EA x.1.sg (pE x.1.sg n .value) x.2.2.2.2.2 (xh x) (iG i) i.2.2.2.2.1 i.2.2.2.2.2∧(i.2.2.1=false→x.2.2.2.1=false),regs:=fun i=>[(0,rdG x.1 (iG i)),(1,.str x.2.2.2.2.2),(7,Ad i.2.2.2.2.1)],als:=[],meas:=fun i=>i.2.2.2.2.2,clos:=[(2,.yield 164,0)]}
set_option maxHeartbeats 4000000 in
theorem Zz(n:Nat)(h:rAll G n):Aq G Tryz.prog 138 (Hs n):=
 vcFun_okP [(166,0,Cr),(163,0,CF),(164,0,(JE n))] [(45,⟨Int,Ba⟩)] false (fun x=>[(2,a8j n x)]) Tryz.func138 rfl (by decide) ⟨Hp,II,h.val,trivial⟩ (fun(x:ST×Int×Int×Bool×List Nd×List UInt8)=>True∧(∃(i:Int×Int×Bool×List Nd×List Int×Nat),(EA x.1.sg (pE x.1.sg n NT.value) x.2.2.2.2.2 (xh x) (iG i) i.2.2.2.2.1 i.2.2.2.2.2∧(i.2.2.1=false→x.2.2.2.1=false))∧((sgs x.1.sg=sgs x.1.sg∧x.1.z=x.1.z∧(xh x).pos=(iG i).pos∧(xh x).deep=(iG i).deep∧(xh x).bad=(iG i).bad∧As (xh x).nodes=As (iG i).nodes∧mbs x.1.ms=mbs x.1.ms∧x.2.2.2.2.2=x.2.2.2.2.2∧i.2.2.2.2.1=[]∧True)∧True)∧True∧True)∧∀(i:Int×Int×Bool×List Nd×List Int×Nat),EA x.1.sg (pE x.1.sg n NT.value) x.2.2.2.2.2 (xh x) (iG i) i.2.2.2.2.1 i.2.2.2.2.2∧(i.2.2.1=false→x.2.2.2.1=false)→Aa (!(iG i).bad) (cA Cr [rdG x.1 (iG i),.str x.2.2.2.2.2] fun x_1 y=>Aa (!isG x_1.1.sg (xh x_1) (4:Int) x_1.2.2.2.2.2) (cA (JE n) [rdG x_1.1 (xh x_1)] fun x_2 y=>∃(x_3:Int),y.1=x_3∧∃(zs:List Int),Ad [x_3]=Ad zs∧Bt Ba∧AW (List.length i.2.2.2.2.1+List.length zs) (8:Nat)∧cA CF [rdG x_2.1 (yG y.2),.str #[(44:UInt8)].toList] fun x_4 y=>Aa (!isG x_4.1.sg (xh x_4) (4:Int) x_4.2.2.2.2.2) (rA (Hs n) x [Ad (i.2.2.2.2.1++zs),rdG x_4.1 (Ai x_4.1.sg (xh x_4) x_4.2.2.2.2.2),.top,.top]) (∃(i':Int×Int×Bool×List Nd×List Int×Nat),(EA x.1.sg (pE x.1.sg n NT.value) x.2.2.2.2.2 (xh x) (iG i') i'.2.2.2.2.1 i'.2.2.2.2.2∧(i'.2.2.1=false→x.2.2.2.1=false))∧i'.2.2.2.2.2<i.2.2.2.2.2∧((sgs x_4.1.sg=sgs x.1.sg∧x_4.1.z=x.1.z∧(Ai x_4.1.sg (xh x_4) x_4.2.2.2.2.2).pos=(iG i').pos∧(Ai x_4.1.sg (xh x_4) x_4.2.2.2.2.2).deep=(iG i').deep∧(Ai x_4.1.sg (xh x_4) x_4.2.2.2.2.2).bad=(iG i').bad∧As (Ai x_4.1.sg (xh x_4) x_4.2.2.2.2.2).nodes=As (iG i').nodes∧mbs x_4.1.ms=mbs x.1.ms∧x.2.2.2.2.2=x.2.2.2.2.2∧Ad (i.2.2.2.2.1++zs)=Ad i'.2.2.2.2.1∧True)∧True)∧True∧True)) (rA (Hs n) x [Ad i.2.2.2.2.1,rdG x_1.1 (xh x_1),.top,.top])) (rA (Hs n) x [Ad i.2.2.2.2.1,rdG x.1 (iG i),.top,.top])) (fun x=>by kernel_rfl) fun(x:ST×Int×Int×Bool×List Nd×List UInt8) (hx:wP 11 n x.1 (xh x))=>(by
 dsimp only[cA,mbs,Bf,Ad,As,rA,rdG,Cr,Hs,CF,JE,Br,sgs,Av,Az,mvL,lnL,mvE,lnE]
 obtain⟨s,p,d,b,ns,e⟩:=x;dsimp only[xg,xh] at hx ⊢
 obtain⟨⟨h1,h2⟩,h3⟩:=hx
 (repeat' first|(with_reducible first|rfl|exact True.intro|apply AK|apply And.intro|((first|apply AA|apply AI|apply AB|apply AJ)<;>intro _))|(apply Ax<;>intro _)|apply AH|refine Af () ?_ ?_|((first|apply AO|apply AN|apply AM|apply AL|apply AG|apply AF|apply AE|apply AD|apply AC)<;>try dsimp only)|apply Af|(refine Prod.forall.2 ?_;intro _;try dsimp only)|(intro _;try dsimp only))
 all_goals(try dsimp only[xg,xh,yG,yS,iG] at*)
 all_goals(try simp only[CG] at*)
 all_goals first
  |(show Nat;skip)
  |rfl
  |assumption
  |exact TD h1.2
  |exact TL h1.1 ‹_›
  |exact Zw (x:=⟨p,d,b,ns⟩) h1.1 ‹_› ‹_› h2 h3
  |exact TE (And.left ‹_›) ‹_›
  |exact TF (And.left ‹_›) ‹_›
  |exact TI ‹_› ‹_› ‹_› ‹_›
  |exact(NH ‹_› ‹_› ‹_› ‹_›).1.1
  |exact(NH ‹_› ‹_› ‹_› ‹_›).1.2 ‹_›
  |exact⟨h1.1,(En ‹_›)⟩
  |(have hq:=TK h1.1 (show GQ _ _ _ _ _ _ _ by assumption);(try simp only[AW,List.length_append,List.length_cons,List.length_nil]);omega)
  |skip
 all_goals first
  |exact(NH ‹_› ‹_› ‹_› ‹_›).2
  |skip)
def FM:Sig:= {X:=ST×Int×Int×Bool×List Nd×List UInt8,args:=fun x=>[rdG x.1 (xh x),.str x.2.2.2.2.2,.top],pre:=fun x=>rOk x.1 (xh x),Y:=List Int×Int×Int×Bool×List Nd,post:=fun x y=>Bh x.1.sg (xh x) (Bg x.1.sg (Bu x.1.sg) x.2.2.2.2.2 (x.1.sg.length+1) []) (yS y)∧y.1.length≤3001,res:=fun x y=>Ad y.1,outs:=fun x y=>[rdG x.1 (yG y.2),.top,.top],keep:=true,caps:=[(2,.yield 139,0)]}
def a8k(x:ST×Int×Int×Bool×List Nd×List UInt8):LS:= {ι:=Int×Int×Bool×List Nd×List Int×Nat,inv:=fun i=>EA x.1.sg (Bu x.1.sg) x.2.2.2.2.2 (xh x) (iG i) i.2.2.2.2.1 i.2.2.2.2.2∧(i.2.2.1=false→x.2.2.2.1=false),regs:=fun i=>[(0,rdG x.1 (iG i)),(1,.str x.2.2.2.2.2),(7,Ad i.2.2.2.2.1)],als:=[],meas:=fun i=>i.2.2.2.2.2,clos:=[(2,.yield 139,0)]}
theorem TM:Aq G Tryz.prog 138 FM:=
 vcFun_okP [(166,0,Cr),(163,0,CF),(139,0,Gm)] [(45,⟨Int,Ba⟩)] false (fun x=>[(2,a8k x)]) Tryz.func138 rfl (by decide) ⟨Hp,II,TA,trivial⟩ (fun(x:ST×Int×Int×Bool×List Nd×List UInt8)=>True∧(∃(i:Int×Int×Bool×List Nd×List Int×Nat),(EA x.1.sg (Bu x.1.sg) x.2.2.2.2.2 (xh x) (iG i) i.2.2.2.2.1 i.2.2.2.2.2∧(i.2.2.1=false→x.2.2.2.1=false))∧((sgs x.1.sg=sgs x.1.sg∧x.1.z=x.1.z∧(xh x).pos=(iG i).pos∧(xh x).deep=(iG i).deep∧(xh x).bad=(iG i).bad∧As (xh x).nodes=As (iG i).nodes∧mbs x.1.ms=mbs x.1.ms∧x.2.2.2.2.2=x.2.2.2.2.2∧i.2.2.2.2.1=[]∧True)∧True)∧True∧True)∧∀(i:Int×Int×Bool×List Nd×List Int×Nat),EA x.1.sg (Bu x.1.sg) x.2.2.2.2.2 (xh x) (iG i) i.2.2.2.2.1 i.2.2.2.2.2∧(i.2.2.1=false→x.2.2.2.1=false)→Aa (!(iG i).bad) (cA Cr [rdG x.1 (iG i),.str x.2.2.2.2.2] fun x_1 y=>Aa (!isG x_1.1.sg (xh x_1) (4:Int) x_1.2.2.2.2.2) (cA Gm [rdG x_1.1 (xh x_1)] fun x_2 y=>∃(x_3:Int),Da x_2.1.sg (xg x_2)=x_3∧∃(zs:List Int),Ad [x_3]=Ad zs∧Bt Ba∧AW (List.length i.2.2.2.2.1+List.length zs) (8:Nat)∧cA CF [rdG x_2.1 (Cu x_2.1.sg (xg x_2)),.str #[(44:UInt8)].toList] fun x_4 y=>Aa (!isG x_4.1.sg (xh x_4) (4:Int) x_4.2.2.2.2.2) (rA FM x [Ad (i.2.2.2.2.1++zs),rdG x_4.1 (Ai x_4.1.sg (xh x_4) x_4.2.2.2.2.2),.top,.top]) (∃(i':Int×Int×Bool×List Nd×List Int×Nat),(EA x.1.sg (Bu x.1.sg) x.2.2.2.2.2 (xh x) (iG i') i'.2.2.2.2.1 i'.2.2.2.2.2∧(i'.2.2.1=false→x.2.2.2.1=false))∧i'.2.2.2.2.2<i.2.2.2.2.2∧((sgs x_4.1.sg=sgs x.1.sg∧x_4.1.z=x.1.z∧(Ai x_4.1.sg (xh x_4) x_4.2.2.2.2.2).pos=(iG i').pos∧(Ai x_4.1.sg (xh x_4) x_4.2.2.2.2.2).deep=(iG i').deep∧(Ai x_4.1.sg (xh x_4) x_4.2.2.2.2.2).bad=(iG i').bad∧As (Ai x_4.1.sg (xh x_4) x_4.2.2.2.2.2).nodes=As (iG i').nodes∧mbs x_4.1.ms=mbs x.1.ms∧x.2.2.2.2.2=x.2.2.2.2.2∧Ad (i.2.2.2.2.1++zs)=Ad i'.2.2.2.2.1∧True)∧True)∧True∧True)) (rA FM x [Ad i.2.2.2.2.1,rdG x_1.1 (xh x_1),.top,.top])) (rA FM x [Ad i.2.2.2.2.1,rdG x.1 (iG i),.top,.top])) (fun x=>by kernel_rfl) fun(x:ST×Int×Int×Bool×List Nd×List UInt8) (hx:rOk x.1 (xh x))=>(by
 dsimp only[cA,mbs,Bf,Ad,As,rA,rdG,Cr,FM,Gm,CF,Br,sgs,Av,Az,mvL,lnL,mvE,lnE]
 obtain⟨s,p,d,b,ns,e⟩:=x;dsimp only[xg,xh] at hx ⊢
 have h1:rOk s ⟨p,d,b,ns⟩:=hx
 (repeat' first|(with_reducible first|rfl|exact True.intro|apply AK|apply And.intro|((first|apply AA|apply AI|apply AB|apply AJ)<;>intro _))|(apply Ax<;>intro _)|apply AH|refine Af () ?_ ?_|((first|apply AO|apply AN|apply AM|apply AL|apply AG|apply AF|apply AE|apply AD|apply AC)<;>try dsimp only)|apply Af|(refine Prod.forall.2 ?_;intro _;try dsimp only)|(intro _;try dsimp only))
 all_goals(try dsimp only[xg,xh,yG,yS,iG] at*)
 all_goals(try simp only[CG] at*)
 all_goals first
  |(show Nat;skip)
  |rfl
  |assumption
  |exact TD h1.2
  |exact TL h1.1 ‹_›
  |exact a8h h1.1 ‹_›
  |exact TE (And.left ‹_›) ‹_›
  |exact TF (And.left ‹_›) ‹_›
  |exact a8g h1.1 ‹_› ‹_› ‹_›
  |exact(TJ h1.1 ‹_› ‹_› ‹_›).1.1
  |exact(TJ h1.1 ‹_› ‹_› ‹_›).1.2 ‹_›
  |exact⟨h1.1,(En ‹_›)⟩
  |(have hq:=TK h1.1 (show GQ _ _ _ _ _ _ _ by assumption);(try simp only[AW,List.length_append,List.length_cons,List.length_nil]);omega)
  |skip
 all_goals first
  |exact(TJ h1.1 ‹_› ‹_› ‹_›).2
  |skip)
def IL(n:Nat):Sig:= {X:=ST×Int×Int×Bool×List Nd×Int,args:=fun x=>[rdG x.1 (xh x),.int .i64 x.2.2.2.2.2],pre:=fun x=>wP 11 n x.1 (xh x),Y:=Int×Int×Int×Bool×List Nd,post:=fun x y=>Ae x.1.sg (xh x) (CL x.1.sg (pE x.1.sg n .value) x.2.2.2.2.2) (yS y),res:=fun x y=> .int .i64 y.1,outs:=fun x y=>[rdG x.1 (yG y.2),.top],keep:=true}
theorem ZA(n:Nat)(h:rAll G n):Aq G Tryz.prog 181 (IL n):=
 vcFun_okP [(137,0,Cv),(138,164+1,(Hs n)),(165,0,Cz)] [(45,⟨Int,Ba⟩)] false (fun x=>[]) Tryz.func181 rfl (by decide) ⟨IJ,(Zz n h),KN,trivial⟩ (fun(x:ST×Int×Int×Bool×List Nd×Int)=>True∧cA Cv [rdG x.1 (xh x),.str #[(40:UInt8)].toList] fun x_1 y=>∃(x_2:Int),x.2.2.2.2.2=x_2∧(True∧True)∧cA (Hs n) [rdG x_1.1 (Al x_1.1.sg (xh x_1) x_1.2.2.2.2.2),.str #[(41:UInt8)].toList,AV.clo (Fn.yield (164:Nat)) [AV.al (0:Nat)]] fun x_3 y=>∃(zs:List Int),Ad y.1=Ad zs∧Bt Ba∧AW (List.length [x_2]+List.length zs) (8:Nat)∧cA Cz [rdG x_3.1 (yG y.2),.str #[(41:UInt8)].toList,.agg [.int .i64 (5:Int),.str #[].toList,Ad ([x_2]++zs),.bool false]] fun x_4 y=>rA (IL n) x [.int .i64 (Bw x_4.1.sg (xh x_4) x_4.2.2.2.2.2.1),rdG x_4.1 (Bn x_4.1.sg (xh x_4) x_4.2.2.2.2.2.1 {kind:=x_4.2.2.2.2.2.2.1,text:=x_4.2.2.2.2.2.2.2.1,kids:=x_4.2.2.2.2.2.2.2.2.1,blank:=x_4.2.2.2.2.2.2.2.2.2}),.top]) (fun x=>by kernel_rfl) fun(x:ST×Int×Int×Bool×List Nd×Int) (hx:wP 11 n x.1 (xh x))=>(by
 dsimp only[cA,mbs,Bf,Ad,As,rA,rdG,IL,Cz,Hs,Cv,Br,sgs,Av,Az,mvL,lnL,mvE,lnE]
 obtain⟨s,p,d,b,ns,e⟩:=x;dsimp only[xg,xh] at hx ⊢
 obtain⟨⟨h1,h2⟩,h3⟩:=hx
 (repeat' first|(with_reducible first|rfl|exact True.intro|apply AK|apply And.intro|((first|apply AA|apply AI|apply AB|apply AJ)<;>intro _))|(apply Ax<;>intro _)|apply AH|refine Af () ?_ ?_|((first|apply AO|apply AN|apply AM|apply AL|apply AG|apply AF|apply AE|apply AD|apply AC)<;>try dsimp only)|apply Af|(refine Prod.forall.2 ?_;intro _;try dsimp only)|(intro _;try dsimp only))
 all_goals(try dsimp only[xg,xh,yG,yS,iG] at*)
 all_goals(try simp only[CG] at*)
 all_goals first
  |rfl
  |exact h1
  |exact a8i h1 h2 h3
  |exact(Zx (k:=e) h1 ‹_›).1
  |exact(Zx h1 ‹_›).2
  |(have hq:=And.right (show Bh _ _ _ _∧_ by assumption);(try simp only[AW,List.length_append,List.length_cons,List.length_nil]);omega)
  |exact Zy h1.2 ‹_›
  |skip)
end Go.My
end
section
set_option linter.unusedVariables false
set_option linter.unusedSimpArgs false
namespace Go.My
open Go.Eng Go.Proofs
variable {G:GInv}
theorem KO{sg:List Sg}{f:Ps→PR}{x:Gs}{y:Int×Gs}(h:Ae sg x f y)(hb:x.bad=false→x.deep≤20):y.2.bad=false→y.2.deep≤20:=fun hy=>by
 have:=Cw h;have h2:=hb (this.2.2.2 hy).1;omega
theorem Ft{sg:List Sg}{x:Gs}{m:List UInt8}(h:gsOk sg x):gsOk sg (Al sg x m)∧(Al sg x m).deep=x.deep∧x.pos≤(Al sg x m).pos∧((Al sg x m).bad=false→x.bad=false):=by
 obtain⟨a1,a2,a3,a4⟩:=(Mh (m:=m) h).1
 refine⟨a1,a2,a3,fun hb=> ?_⟩
 cases hx:x.bad with
 |false=>rfl
 |true=>rw[DC hx,CR hb] at a4;cases a4
theorem a8l{s:ST}{x:Gs}(h:rOk s x):rOk s (Al s.sg x [40]):=⟨h.1,(Ft h.2).1⟩
theorem a8m{s:ST}{x:Gs}{one:Ps→PR}{l:List Int×Gs}(h:rOk s x)(hl:Bh s.sg (Al s.sg x [40]) (Bg s.sg one [41] (s.sg.length+1) []) l∧l.1.length≤3001):rOk s l.2:=⟨h.1,hl.1.1⟩
theorem a8n{s:ST}{x:Gs}{one:Ps→PR}{l:List Int×Gs}(h:rOk s x)(hl:Bh s.sg (Al s.sg x [40]) (Bg s.sg one [41] (s.sg.length+1) []) l∧l.1.length≤3001):rOk s (Al s.sg l.2 [41]):=⟨h.1,(Ft hl.1.1).1⟩
theorem ZB{s:ST}{x:Gs}{n:Nat}{one:Ps→PR}{l:List Int×Gs}(h:rOk s x)(hd:x.deep≤20)(hq:isG s.sg x 4 [40]=true)(hn:12*((s.sg.length:Int)-x.pos)≤n+2)(hl:Bh s.sg (Al s.sg x [40]) (Bg s.sg one [41] (s.sg.length+1) []) l∧l.1.length≤3001):
 vP 10 n s (Al s.sg (Al s.sg l.2 [41]) [61,62]):=by
 have a:=Ft (m:=[40]) h.2;have b:=Ft (m:=[41]) hl.1.1;have c:=Ft (m:=[61,62]) b.1
 have e1:=hl.1.2.1;have e2:=hl.1.2.2.1
 have e3:(Al s.sg x [40]).pos=x.pos+1:=by rw[Al,if_pos hq];rfl
 exact⟨⟨⟨h.1,c.1⟩,by omega⟩,by omega⟩
theorem Dg{s:ST}{x y:Gs}{f:Ps→PR}{z:Int×Gs}(h:rOk s x)(hz:Ae s.sg y f z):rOk s z.2:=⟨h.1,En hz⟩
theorem a8o{s:ST}{x:Gs}{n:Nat}{l:List Int×Gs}{z:Int×Gs}(h:rOk s x)(hl:Bh s.sg (Al s.sg x [40]) (Bg s.sg (Bu s.sg) [41] (s.sg.length+1) []) l∧l.1.length≤3001)
 (hz:Ae s.sg (Al s.sg (Al s.sg l.2 [41]) [61,62]) (pE s.sg n .pick) z):Ae s.sg x (fnR s.sg n) (Au z.2,Ah z.2 ⟨9,[],l.1++[z.1],false⟩):=Zv h.2 hl.1 hl.2 hz
theorem ZC{e:Int}{v:List (List UInt8)}(ha:[[[124,124]],[[38,38]],[[61,61]],[[60]],[[43],[45]],[[42]]][e.toNat]? =some v)(h0:0≤e)(h5:e≤5):v=Bs e.toNat:=by
 have:e=0∨e=1∨e=2∨e=3∨e=4∨e=5:=by omega
 rcases this with rfl|rfl|rfl|rfl|rfl|rfl<;>(simp at ha;rw[←ha];rfl)
theorem ZD{l:Nat}:(Bs l).length≤2:=by
 unfold Bs;split<;>simp
def mkP(sg:List Sg)(g:Gs)(l:Nat)(i:Int):Prop:=(0≤i∧i≤(Bs l).length)∧Bx sg l g=(((Bs l).drop i.toNat).find? fun m=>isG sg g 4 m).getD []
theorem a8p{sg:List Sg}{g:Gs}{l:Nat}:mkP sg g l 0:=⟨by omega,rfl⟩
theorem a8q{sg:List Sg}{g:Gs}{l:Nat}{i:Int}{m:List UInt8}(h:mkP sg g l i)(ha:(Bs l)[i.toNat]? =some m)(hg:isG sg g 4 m=true):m=Bx sg l g:=by
 rw[h.2,List.drop_eq_getElem_cons (List.getElem?_eq_some_iff.1 ha).1,(List.getElem?_eq_some_iff.1 ha).2,List.find?_cons_of_pos hg];rfl
theorem a8r{sg:List Sg}{g:Gs}{l:Nat}{i:Int}{m:List UInt8}(h:mkP sg g l i)(ha:(Bs l)[i.toNat]? =some m)(hg:isG sg g 4 m=false):mkP sg g l (i+1):=by
 have hlt:=(List.getElem?_eq_some_iff.1 ha).1
 obtain⟨h1,h2⟩:=h
 refine⟨by omega,?_⟩
 rw[h2,List.drop_eq_getElem_cons hlt,(List.getElem?_eq_some_iff.1 ha).2,List.find?_cons_of_neg (by simp [hg]),show(i+1).toNat=i.toNat+1 by omega]
theorem a8s{sg:List Sg}{g:Gs}{l:Nat}{i:Int}(h:mkP sg g l i)(hi:¬i<((Bs l).length:Int)):[]=Bx sg l g:=by
 rw[h.2,List.drop_eq_nil_of_le (by omega)];rfl
def faI(sg:List Sg)(p:Int)(i:Int)(N:Nat):Prop:=(1≤i∧i≤sg.length+2∧(sg.length:Int)-p-i<N)∧Dc sg (sg.length+1) (p+1)=Dc sg N (p+i)
theorem a8t{sg:List Sg}{p:Int}(h:0≤p):faI sg p 1 (sg.length+1):=⟨by omega,rfl⟩
theorem TN{sg:List Sg}{g:Gs}{i:Int}(hb:g.bad=false):nmG sg g i=CY sg (g.pos+i):=Jy (CR hb)
theorem ZE{sg:List Sg}{g:Gs}{i:Int}{N:Nat}(hp:0≤g.pos)(h:faI sg g.pos i N)(hb:g.bad=false)(hn:nmG sg g i=true)(ht:((pkG sg g (i+1)).text==[44])=true):faI sg g.pos (i+1+1) (N-1)∧N-1<N:=by
 have ht:(pkG sg g (i+1)).text=[44]:=by simpa using ht
 obtain⟨⟨h1,h2,h3⟩,h4⟩:=h
 have hl:=(Ia hn).2
 rw[TN hb] at hn
 rw[Gk hb] at ht
 match N with
 |0=>omega
 |N+1=>
  refine⟨⟨⟨by omega,by omega,by simp;omega⟩,?_⟩,by omega⟩
  rw[h4,Dc,if_pos hn,if_pos (by rw[show g.pos+i+1=g.pos+(i+1) by omega];exact ht)]
  simp only[Nat.add_sub_cancel];congr 1;omega
theorem a8u{sg:List Sg}{g:Gs}{i:Int}{N:Nat}(h:faI sg g.pos i N)(hb:g.bad=false)(hn:nmG sg g i=false):Eg sg ⟨g.pos,g.deep,g.nodes⟩=(((pkG sg g i).text==[41])&&((pkG sg g (i+1)).text==[61,62])):=by
 rw[TN hb] at hn
 have e:Dc sg (sg.length+1) (g.pos+1)=g.pos+i:=by
  rw[h.2]
  match N with
  |0=>rfl
  |N+1=>rw[Dc,if_neg (by simp [hn])]
 simp only[Eg,e,Gk hb,show g.pos+(i+1)=g.pos+i+1 by omega]
theorem a8v{sg:List Sg}{g:Gs}{i:Int}{N:Nat}(h:faI sg g.pos i N)(hb:g.bad=false)(hn:nmG sg g i=true)(ht:((pkG sg g (i+1)).text==[44])=false):
 Eg sg ⟨g.pos,g.deep,g.nodes⟩=(((pkG sg g (i+1)).text==[41])&&((pkG sg g (i+1+1)).text==[61,62])):=by
 have ht:(pkG sg g (i+1)).text≠[44]:=by simpa using ht
 have hl:=(Ia hn).2
 rw[TN hb] at hn
 rw[Gk hb] at ht
 have e:Dc sg (sg.length+1) (g.pos+1)=g.pos+(i+1):=by
  obtain⟨⟨h1,h2,h3⟩,h4⟩:=h
  rw[h4]
  match N with
  |0=>omega
  |N+1=>rw[Dc,if_pos hn,if_neg (by rw[show g.pos+i+1=g.pos+(i+1) by omega];exact ht)];omega
 simp only[Eg,e,Gk hb,show g.pos+(i+1+1)=g.pos+(i+1)+1 by omega]
attribute [local irreducible] pE Bg CL fnR Ae Bh gsOk Al Bn Ah BW CS Ai Cu Da Au Bw pkG isG nmG
def KP:Sig:= {X:=ST×Int×Int×Bool×List Nd×Int,args:=fun x=>[rdG x.1 (xh x),.int .i64 x.2.2.2.2.2],pre:=fun x=>rOk x.1 (xh x)∧0≤x.2.2.2.2.2∧x.2.2.2.2.2≤5,Y:=Unit,post:=fun x y=>True,res:=fun x y=> .str (Bx x.1.sg x.2.2.2.2.2.toNat (xh x)),outs:=fun x y=>[rdG x.1 (xh x),.top],keep:=true}
def PU(x:ST×Int×Int×Bool×List Nd×Int):LS:= {ι:=Int,inv:=fun i=>mkP x.1.sg (xh x) x.2.2.2.2.2.toNat i,regs:=fun i=>[(0,rdG x.1 (xh x)),(18,.sl false 0 1 (List UInt8) Bo (Bs x.2.2.2.2.2.toNat)),(19,.int .i64 (Bs x.2.2.2.2.2.toNat).length),(20,.int .i64 i)],als:=[],meas:=fun i=>(Bs x.2.2.2.2.2.toNat).length-i.toNat}
theorem a8w:Aq G Tryz.prog 194 KP:=
 vcFun_okP [(166,0,Cr)] [(41,⟨List UInt8,Bo⟩),(152,⟨List (List UInt8),fun l=>[.sl false 0 1 (List UInt8) Bo l]⟩)] false (fun x=>[(3,PU x)]) Tryz.func194 rfl (by decide) ⟨Hp,trivial⟩ (fun(x:ST×Int×Int×Bool×List Nd×Int)=>True∧∃(x_1:List UInt8),#[(124:UInt8),(124:UInt8)].toList=x_1∧∃(x_2:List UInt8),#[(38:UInt8),(38:UInt8)].toList=x_2∧∃(x_3:List UInt8),#[(61:UInt8),(61:UInt8)].toList=x_3∧∃(x_4:List UInt8),#[(60:UInt8)].toList=x_4∧∃(x_5:List UInt8),#[(43:UInt8)].toList=x_5∧∃(x_6:List UInt8),#[(45:UInt8)].toList=x_6∧∃(x_7:List UInt8),#[(42:UInt8)].toList=x_7∧∃(x_8:List (List UInt8)),AV.sl false (0:Nat) (1:Nat) (List UInt8) (fun(x:List UInt8)=>fzL (Bo x)) [x_1]=AV.sl false (0:Nat) (1:Nat) (List UInt8) Bo x_8∧∃(x_9:List (List UInt8)),AV.sl false (0:Nat) (1:Nat) (List UInt8) (fun(x:List UInt8)=>fzL (Bo x)) [x_2]=AV.sl false (0:Nat) (1:Nat) (List UInt8) Bo x_9∧∃(x_10:List (List UInt8)),AV.sl false (0:Nat) (1:Nat) (List UInt8) (fun(x:List UInt8)=>fzL (Bo x)) [x_3]=AV.sl false (0:Nat) (1:Nat) (List UInt8) Bo x_10∧∃(x_11:List (List UInt8)),AV.sl false (0:Nat) (1:Nat) (List UInt8) (fun(x:List UInt8)=>fzL (Bo x)) [x_4]=AV.sl false (0:Nat) (1:Nat) (List UInt8) Bo x_11∧∃(x_12:List (List UInt8)),AV.sl false (0:Nat) (1:Nat) (List UInt8) (fun(x:List UInt8)=>fzL (Bo x)) [x_5,x_6]=AV.sl false (0:Nat) (1:Nat) (List UInt8) Bo x_12∧∃(x_13:List (List UInt8)),AV.sl false (0:Nat) (1:Nat) (List UInt8) (fun(x:List UInt8)=>fzL (Bo x)) [x_7]=AV.sl false (0:Nat) (1:Nat) (List UInt8) Bo x_13∧((0:Int)≤x.2.2.2.2.2∧x.2.2.2.2.2<(↑(List.length [x_8,x_9,x_10,x_11,x_12,x_13]):Int))∧Int.toNat x.2.2.2.2.2<List.length [x_8,x_9,x_10,x_11,x_12,x_13]∧∀(x_14:List (List UInt8)),[x_8,x_9,x_10,x_11,x_12,x_13][Int.toNat x.2.2.2.2.2]? =some x_14→eA (PU x) [rdG x.1 (xh x),AV.sl false (0:Nat) (1:Nat) (List UInt8) Bo x_14,.int .i64 (↑(List.length x_14):Int),.int .i64 (0:Int)]∧∀(i:Int),mkP x.1.sg (xh x) (Int.toNat x.2.2.2.2.2) i→Aa (decide (i<(↑(List.length (Bs (Int.toNat x.2.2.2.2.2))):Int))) (((0:Int)≤i∧i<(↑(List.length (Bs (Int.toNat x.2.2.2.2.2))):Int))∧∀(e:List UInt8),(Bs (Int.toNat x.2.2.2.2.2))[Int.toNat i]? =some e→cA Cr [rdG x.1 (xh x),.str e] fun x_15 y=>Aa (isG x_15.1.sg (xh x_15) (4:Int) x_15.2.2.2.2.2) (rA KP x [.str e,rdG x_15.1 (xh x_15),.top]) (inR IntKind.i64 (i+(1:Int))∧eN (PU x) i [rdG x_15.1 (xh x_15),AV.sl false (0:Nat) (1:Nat) (List UInt8) Bo (Bs (Int.toNat x.2.2.2.2.2)),.int .i64 (↑(List.length (Bs (Int.toNat x.2.2.2.2.2))):Int),.int .i64 (i+(1:Int))])) (rA KP x [.str #[].toList,rdG x.1 (xh x),.top])) (fun x=>by kernel_rfl) fun(x:ST×Int×Int×Bool×List Nd×Int) (hx:rOk x.1 (xh x)∧0≤x.2.2.2.2.2∧x.2.2.2.2.2≤5)=>(by
 dsimp only[cA,eA,eN,PU,mbs,Bf,As,rA,rdG,Cr,KP,Br,sgs,Av,Az,mvL,lnL,mvE,lnE,BA]
 obtain⟨s,p,d,b,ns,e⟩:=x;dsimp only[xg,xh] at hx ⊢
 obtain⟨h1,h2,h3⟩:=hx
 (repeat' first|(with_reducible first|rfl|exact True.intro|apply AK|apply And.intro|((first|apply AA|apply AI|apply AB|apply AJ)<;>intro _))|(apply Ax<;>intro _)|apply AH|refine Af () ?_ ?_|((first|apply AO|apply AN|apply AM|apply AL|apply AG|apply AF|apply AE|apply AD|apply AC)<;>try dsimp only)|apply Af|(refine Prod.forall.2 ?_;intro _;try dsimp only)|(intro _;try dsimp only))
 all_goals(try dsimp only[xg,xh,yG,yS,iG] at*)
 all_goals first
  |rfl
  |exact h1
  |exact a8p
  |exact ZC ‹_› h2 h3
  |(rename _=some _=>ha;rw[ZC ha h2 h3];done)
  |exact a8q ‹_› ‹_› ‹_›
  |exact a8r ‹_› ‹_› ‹_›
  |exact a8s ‹_› ‹_›
  |((try simp only[List.length_cons,List.length_nil]);omega)
  |(have hq:=And.left (show mkP _ _ _ _ by assumption);have hl:= @ZD e.toNat;(try simp only[AR]);omega)
  |((try simp only[AW,List.length_cons,List.length_nil]);omega)
  |skip)
def IM:Sig:= {X:=ST×Int×Int×Bool×List Nd,args:=fun x=>[rdG x.1 (xg x)],pre:=fun x=>rOk x.1 (xg x)∧(xg x).bad=false,Y:=Unit,post:=fun x y=>True,res:=fun x y=> .bool (Eg x.1.sg ⟨(xg x).pos,(xg x).deep,(xg x).nodes⟩),outs:=fun x y=>[rdG x.1 (xg x)],keep:=true}
def PV(x:ST×Int×Int×Bool×List Nd):LS:= {ι:=Int×Nat,inv:=fun i=>faI x.1.sg (xg x).pos i.1 i.2,regs:=fun i=>[(0,rdG x.1 (xg x)),(3,.int .i64 i.1)],als:=[],meas:=fun i=>i.2}
theorem a8x:Aq G Tryz.prog 197 IM:=
 vcFun_okP [(167,0,Ei),(141,0,Ez)] [] false (fun x=>[(2,PV x)]) Tryz.func197 rfl (by decide) ⟨NB,PI,trivial⟩ (fun(x:ST×Int×Int×Bool×List Nd)=>True∧eA (PV x) [rdG x.1 (xg x),.int .i64 (1:Int)]∧∀(i:Int×Nat),faI x.1.sg (xg x).pos i.1 i.2→cA Ei [rdG x.1 (xg x),.int .i64 i.1] fun x_1 y=>Aa (nmG x_1.1.sg (xh x_1) x_1.2.2.2.2.2) (inR IntKind.i64 (i.1+(1:Int))∧cA Ez [rdG x_1.1 (xh x_1),.int .i64 (i.1+(1:Int))] fun x_2 y=>Aa (!(pkG x_2.1.sg (xh x_2) x_2.2.2.2.2.2).text== #[(44:UInt8)].toList) (cA Ez [rdG x_2.1 (xh x_2),.int .i64 (i.1+(1:Int))] fun x_3 y=>Aa ((pkG x_3.1.sg (xh x_3) x_3.2.2.2.2.2).text== #[(41:UInt8)].toList) (inR IntKind.i64 (i.1+(1:Int)+(1:Int))∧cA Ez [rdG x_3.1 (xh x_3),.int .i64 (i.1+(1:Int)+(1:Int))] fun x_4 y=>rA IM x [.bool ((pkG x_4.1.sg (xh x_4) x_4.2.2.2.2.2).text== #[(61:UInt8),(62:UInt8)].toList),rdG x_4.1 (xh x_4)]) (rA IM x [.bool false,rdG x_3.1 (xh x_3)])) (inR IntKind.i64 (i.1+(1:Int)+(1:Int))∧eN (PV x) i [rdG x_2.1 (xh x_2),.int .i64 (i.1+(1:Int)+(1:Int))])) (cA Ez [rdG x_1.1 (xh x_1),.int .i64 i.1] fun x_2 y=>Aa ((pkG x_2.1.sg (xh x_2) x_2.2.2.2.2.2).text== #[(41:UInt8)].toList) (inR IntKind.i64 (i.1+(1:Int))∧cA Ez [rdG x_2.1 (xh x_2),.int .i64 (i.1+(1:Int))] fun x_3 y=>rA IM x [.bool ((pkG x_3.1.sg (xh x_3) x_3.2.2.2.2.2).text== #[(61:UInt8),(62:UInt8)].toList),rdG x_3.1 (xh x_3)]) (rA IM x [.bool false,rdG x_2.1 (xh x_2)]))) (fun x=>by kernel_rfl) fun(x:ST×Int×Int×Bool×List Nd) (hx:rOk x.1 (xg x)∧(xg x).bad=false)=>(by
 dsimp only[cA,eA,eN,PV,mbs,Bf,As,rA,rdG,IM,Ei,Ez,Br,sgs,Av,Az,mvL,lnL,mvE,lnE,BA]
 obtain⟨s,p,d,b,ns⟩:=x;dsimp only[xg,xh] at hx ⊢
 obtain⟨h1,h2⟩:=hx;subst h2
 have hs:=DD h1;dsimp only at hs
 (repeat' first|(with_reducible first|rfl|exact True.intro|apply AK|apply And.intro|((first|apply AA|apply AI|apply AB|apply AJ)<;>intro _))|(apply Ax<;>intro _)|apply AH|refine Af () ?_ ?_|((first|apply AO|apply AN|apply AM|apply AL|apply AG|apply AF|apply AE|apply AD|apply AC)<;>try dsimp only)|apply Af|(refine Prod.forall.2 ?_;intro _;try dsimp only)|(intro _;try dsimp only))
 all_goals(try dsimp only[xg,xh,yG,yS,iG] at*)
 all_goals first
  |(show Nat;skip)
  |rfl
  |exact h1
  |exact a8t hs.1.1.1
  |exact(ZE (g:=⟨p,d,false,ns⟩) hs.1.1.1 ‹_› rfl ‹_› ‹_›).1
  |(have he:=a8u (g:=⟨p,d,false,ns⟩) ‹_› rfl ‹_›;dsimp only at he;rw[he];simp [*];done)
  |(have he:=a8v (g:=⟨p,d,false,ns⟩) ‹_› rfl ‹_› ‹_›;dsimp only at he;rw[he];simp [*];done)
  |(have hq:=And.left (show faI _ _ _ _ by assumption);(try simp only[AR]);omega)
  |skip
 all_goals first
  |exact(ZE (g:=⟨p,d,false,ns⟩) hs.1.1.1 ‹_› rfl ‹_› ‹_›).2
  |skip)
def Mm(n:Nat):Sig:= {X:=ST×Int×Int×Bool×List Nd,args:=fun x=>[rdG x.1 (xg x)],pre:=fun x=>((rOk x.1 (xg x)∧(xg x).deep≤20)∧isG x.1.sg (xg x) 4 [40]=true)∧12*((x.1.sg.length:Int)-(xg x).pos)≤n+2,Y:=Int×Int×Int×Bool×List Nd,post:=fun x y=>Ae x.1.sg (xg x) (fnR x.1.sg n) (yS y),res:=fun x y=> .int .i64 y.1,outs:=fun x y=>[rdG x.1 (yG y.2)],keep:=true}
theorem a8y(n:Nat)(h:rAll G n):Aq G Tryz.prog 198 (Mm n):=
 vcFun_okP [(137,0,Cv),(138,139+1,FM),(180,0,(Hr n)),(104,0,BR)] [(45,⟨Int,Ba⟩)] false (fun x=>[]) Tryz.func198 rfl (by decide) ⟨IJ,TM,h.pick,Gl,trivial⟩ (fun(x:ST×Int×Int×Bool×List Nd)=>True∧cA Cv [rdG x.1 (xg x),.str #[(40:UInt8)].toList] fun x_1 y=>(True∧True)∧cA FM [rdG x_1.1 (Al x_1.1.sg (xh x_1) x_1.2.2.2.2.2),.str #[(41:UInt8)].toList,AV.clo (Fn.yield (139:Nat)) [AV.al (0:Nat)]] fun x_2 y=>cA Cv [rdG x_2.1 (yG y.2),.str #[(41:UInt8)].toList] fun x_3 y_1=>cA Cv [rdG x_3.1 (Al x_3.1.sg (xh x_3) x_3.2.2.2.2.2),.str #[(61:UInt8),(62:UInt8)].toList] fun x_4 y_2=>cA (Hr n) [rdG x_4.1 (Al x_4.1.sg (xh x_4) x_4.2.2.2.2.2)] fun x_5 y_3=>∃(x_6:Int),y_3.1=x_6∧∃(zs:List Int),Ad [x_6]=Ad zs∧Bt Ba∧AW (List.length y.1+List.length zs) (8:Nat)∧cA BR [rdG x_5.1 (yG y_3.2),.agg [.int .i64 (9:Int),.str #[].toList,Ad (y.1++zs),.bool false]] fun x_7 y=>rA (Mm n) x [.int .i64 (Au (xh x_7)),rdG x_7.1 (Ah (xh x_7) {kind:=x_7.2.2.2.2.2.1,text:=x_7.2.2.2.2.2.2.1,kids:=x_7.2.2.2.2.2.2.2.1,blank:=x_7.2.2.2.2.2.2.2.2})]) (fun x=>by kernel_rfl) fun(x:ST×Int×Int×Bool×List Nd) (hx:((rOk x.1 (xg x)∧(xg x).deep≤20)∧isG x.1.sg (xg x) 4 [40]=true)∧12*((x.1.sg.length:Int)-(xg x).pos)≤n+2)=>(by
 dsimp only[cA,mbs,Bf,Ad,As,rA,rdG,BR,Mm,FM,Hr,Cv,Br,sgs,Av,Az,mvL,lnL,mvE,lnE]
 obtain⟨s,p,d,b,ns⟩:=x;dsimp only[xg,xh] at hx ⊢
 obtain⟨⟨⟨h1,h2⟩,hq⟩,h3⟩:=hx
 (repeat' first|(with_reducible first|rfl|exact True.intro|apply AK|apply And.intro|((first|apply AA|apply AI|apply AB|apply AJ)<;>intro _))|(apply Ax<;>intro _)|apply AH|refine Af () ?_ ?_|((first|apply AO|apply AN|apply AM|apply AL|apply AG|apply AF|apply AE|apply AD|apply AC)<;>try dsimp only)|apply Af|(refine Prod.forall.2 ?_;intro _;try dsimp only)|(intro _;try dsimp only))
 all_goals(try dsimp only[xg,xh,yG,yS,iG] at*)
 all_goals(try simp only[CG] at*)
 all_goals first
  |rfl
  |exact h1
  |exact a8l h1
  |exact a8m h1 ‹_›
  |exact a8n h1 ‹_›
  |exact ZB h1 h2 hq h3 ‹_›
  |exact Dg h1 ‹_›
  |exact a8o h1 ‹_› ‹_›
  |(have hq2:=And.right (show Bh _ _ _ _∧_ by assumption);(try simp only[AW,List.length_append,List.length_cons,List.length_nil]);omega)
  |skip)
end Go.My
end
section
set_option linter.unusedVariables false
set_option linter.unusedSimpArgs false
namespace Go.My
open Go.Eng Go.Proofs
variable {G:GInv}
theorem ZF{sg:List Sg}{x:Gs}{a:Bool}(h:Eg sg ⟨x.pos,x.deep,x.nodes⟩=a):∀s,pur x=some s→Eg sg s=a:=fun s hs=>by
 obtain⟨_,rfl⟩:=Eh.1 hs;exact h
theorem PW{s:ST}{x:Gs}{n r:Nat}{k:Int}{m:List UInt8}(hq:isG s.sg x k m=true)(hk:k≠0)(h1:rOk s x)(h2:x.bad=false→x.deep≤20)(h3:12*((s.sg.length:Int)-x.pos)+1≤(n+1:Nat))(hr:r≤12):wP r n s (Aj x)∧vP r n s (Aj x):=by
 have hl:=Ct hq hk
 have ha:=EL h1.2 hl.2
 have hd:=h2 hl.1
 have e:(Aj x).pos=x.pos+1:=rfl
 have e2:(Aj x).deep=x.deep:=rfl
 have a:12*((s.sg.length:Int)-(Aj x).pos)+r≤n:=by omega
 exact⟨⟨⟨⟨h1.1,ha⟩,fun _=>by omega⟩,a⟩,⟨⟨⟨h1.1,ha⟩,by omega⟩,a⟩⟩
theorem ZG{s:ST}{x:Gs}{n:Nat}(hq:isG s.sg x 4 [40]=true)(h1:rOk s x)(h2:x.bad=false→x.deep≤20)(h3:12*((s.sg.length:Int)-x.pos)+1≤(n+1:Nat)):
 x.deep≤20∧12*((s.sg.length:Int)-x.pos)≤n+2:=⟨h2 (Ct hq (by omega)).1,by omega⟩
theorem ZH{s:ST}{x y:Gs}{f:Ps→PL}{l:List Int×Gs}{k:Int}(h1:rOk s x)(hl:Bh s.sg y f l∧l.1.length≤3001):rOk s l.2∧Cq ⟨k,[],l.1,false⟩:=⟨⟨h1.1,hl.1.1⟩,by simp,by have:=hl.2;simp only;omega⟩
theorem a8z{s:ST}{x:Gs}{n:Nat}{l:List Int×Gs}(h:rOk s x)(h1:(pkG s.sg x 0).kind≠1)(h2:(pkG s.sg x 0).kind≠2)(h3:(pkG s.sg x 0).kind≠3)(hq:isG s.sg x 4 [91]=true)
 (hl:Bh s.sg (Aj x) (Bg s.sg (pE s.sg n .value) [93] (s.sg.length+1) []) l∧l.1.length≤3001):
 Ae s.sg x (pE s.sg (n+1) .base) (Bw s.sg l.2 [93],Bn s.sg l.2 [93] ⟨4,[],l.1,false⟩):=Zs h.2 h1 h2 h3 hq hl.1 hl.2
theorem a8A{s:ST}{x:Gs}{n:Nat}{z:Int×Gs}(h:rOk s x)(h1:(pkG s.sg x 0).kind≠1)(h2:(pkG s.sg x 0).kind≠2)(h3:(pkG s.sg x 0).kind≠3)(hn:isG s.sg x 4 [91]=false)(hq:isG s.sg x 4 [40]=true)
 (ha:Eg s.sg ⟨x.pos,x.deep,x.nodes⟩=false) (hz:Ae s.sg (Aj x) (pE s.sg n .value) z):
 Ae s.sg x (pE s.sg (n+1) .base) (Bw s.sg z.2 [41],Bn s.sg z.2 [41] ⟨11,[],[z.1],false⟩):=Zt h.2 h1 h2 h3 hn hq (ZF ha) hz
theorem a8B{s:ST}{x:Gs}{n:Nat}{z:Int×Gs}(h1:(pkG s.sg x 0).kind≠1)(h2:(pkG s.sg x 0).kind≠2)(h3:(pkG s.sg x 0).kind≠3)(hn:isG s.sg x 4 [91]=false)(hq:isG s.sg x 4 [40]=true)
 (ha:Eg s.sg ⟨x.pos,x.deep,x.nodes⟩=true) (hz:Ae s.sg x (fnR s.sg n) z):Ae s.sg x (pE s.sg (n+1) .base) z:=a8e h1 h2 h3 hn hq (ZF ha) hz
theorem ZI{s:ST}{x:Gs}{k:Int}(h:(pkG s.sg x 0).kind=k)(hk:k=2∨k=3):x.pos<s.sg.length:=(NG (by rw[h];omega)).2
theorem ZJ{s:ST}{x:Gs}{k:Int}{m:List UInt8}(hq:isG s.sg x k m=true)(hk:k≠0):x.bad=false:=(Ct hq hk).1
abbrev enJ (sg:List Sg) (n:Nat) (x y:Gs) (k:Int) (N:Nat):Prop:=enI sg n x y k N∧(y.bad=false→y.deep≤20)
theorem TO{s:ST}{x:Gs}{n:Nat}{z:Int×Gs}(h1:rOk s x)(h2:x.bad=false→x.deep≤20)(hz:Ae s.sg x (pE s.sg n .base) z):enJ s.sg n x z.2 z.1 (s.sg.length+1):=⟨a8c h1.2 hz,KO hz h2⟩
theorem a8C{s:ST}{x y:Gs}{n:Nat}{k:Int}{N:Nat}(h1:rOk s x)(h:enJ s.sg n x y k N):rOk s y:=⟨h1.1,h.1.1.1⟩
theorem a8D{s:ST}{x y:Gs}{n:Nat}{k:Int}{N:Nat}(h1:rOk s x)(h3:12*((s.sg.length:Int)-x.pos)+2≤(n+1:Nat))(h:enJ s.sg n x y k N)(hq:isG s.sg y 4 [40]=true):wP 11 n s y:=by
 have hb:=(Ct hq (by omega)).1
 have:=h.1.2.2 hb
 exact⟨⟨⟨h1.1,h.1.1.1⟩,h.2⟩,by omega⟩
theorem PX{sg:List Sg}{n:Nat}{x y:Gs}{k:Int}{N:Nat}{w:Int×Gs}(h:enJ sg n x y k N)(hw:Ae sg y (CL sg (pE sg n .value) k) w)(hq:isG sg y 4 [40]=true):enJ sg n x w.2 w.1 (N-1)∧N-1<N:=by
 obtain⟨a,b⟩:=GP (a8d h.1 hq hw)
 exact⟨⟨a,KO hw h.2⟩,b⟩
theorem TP{sg:List Sg}{n:Nat}{x y:Gs}{k:Int}{N:Nat}(hs:sgB sg)(h:enJ sg n x y k N)(hp:isG sg y 4 [40]=false)(hq:isG sg y 4 [46]=true)(hn:nmG sg (Ai sg y [46]) 0=true):
 enJ sg n x (BW (Ah (Ai sg y [46]) ⟨6,(pkG sg (Ai sg y [46]) 0).text,[k],false⟩)) (Au (Ai sg y [46])) (N-1)∧N-1<N:=by
 rw[CU hq] at hn ⊢
 obtain⟨a,b⟩:=GP (Zo hs h.1 hp hq hn)
 have hl:=Ct hq (by omega)
 have hl2:=Ia hn
 have e:(BW (Ah (Aj y) ⟨6,(pkG sg (Aj y) 0).text,[k],false⟩)).deep=y.deep:=by
  have:=(@GM (Aj y) ⟨6,(pkG sg (Aj y) 0).text,[k],false⟩).1
  unfold BW;split
  ·exact this
  ·exact this
 exact⟨⟨a,fun _=>by rw[e];exact h.2 hl.1⟩,b⟩
theorem ZK{s:ST}{x y:Gs}{n:Nat}{k:Int}{N:Nat}{t:List UInt8}(h1:rOk s x)(h:enJ s.sg n x y k N)(hq:isG s.sg y 4 [46]=true):rOk s (Ai s.sg y [46])∧rOk s (Ah (Ai s.sg y [46]) ⟨6,(pkG s.sg (Ai s.sg y [46]) 0).text,[k],false⟩):=by
 rw[CU hq]
 have hl:=Ct hq (by omega)
 have ha:=EL h.1.1.1 hl.2
 exact⟨⟨h1.1,ha⟩,h1.1,Ib ha ⟨JA h1.1,by simp⟩⟩
theorem a8E{sg:List Sg}{n:Nat}{x y:Gs}{k a:Int}{N:Nat}(h:enJ sg n x y k N)(hp:isG sg y 4 [40]=false)(hq:isG sg y 4 [46]=true)(hn:nmG sg (Ai sg y [46]) 0=false):
 Ae sg x (pE sg (n+1) .fin) (a,Bc (Ai sg y [46])):=by
 rw[CU hq] at hn ⊢
 exact Zp h.1 hp hq hn
theorem a8F{sg:List Sg}{n:Nat}{x y:Gs}{k:Int}{N:Nat}(h:enJ sg n x y k N)(hb:y.bad=false)(hp:isG sg y 4 [40]=false)(hq:isG sg y 4 [46]=false):Ae sg x (pE sg (n+1) .fin) (k,Ai sg y [46]):=by
 rw[CT hq];exact Zq h.1 hb hp hq
theorem ZL{s:ST}{x:Gs}{n:Nat}(h1:rOk s x)(h2:x.bad=false→x.deep≤20)(h3:12*((s.sg.length:Int)-x.pos)+2≤(n+1:Nat)):wP 1 n s x:=⟨⟨h1,h2⟩,by omega⟩
attribute [local irreducible] pE Bg CL fnR Ae Bh gsOk Al Bn Ah BW CS Ai Cu Da Au Bw pkG isG nmG
def Ht(n:Nat):Sig:= {X:=ST×Int×Int×Bool×List Nd,args:=fun x=>[rdG x.1 (xg x)],pre:=fun x=>wP 1 (n+1) x.1 (xg x),Y:=Int×Int×Int×Bool×List Nd,post:=fun x y=>Ae x.1.sg (xg x) (pE x.1.sg (n+1) .base) (yS y),res:=fun x y=> .int .i64 y.1,outs:=fun x y=>[rdG x.1 (yG y.2)],keep:=true}
theorem a8G(n:Nat)(h:rAll G n):Aq G Tryz.prog 196 (Ht n):=
 vcFun_okP [(103,0,Cm),(139,0,Gm),(168,0,Ic),(163,0,CF),(166,0,Cr),(197,0,IM),(198,0,(Mm n)),(164,0,(JE n)),(138,164+1,(Hs n)),(165,0,Cz)] [(45,⟨Int,Ba⟩)] false (fun x=>[]) Tryz.func196 rfl (by decide) ⟨GK,TA,YW,II,Hp,a8x,(a8y n h),h.val,(Zz n h),KN,trivial⟩ (fun(x:ST×Int×Int×Bool×List Nd)=>True∧cA Cm [rdG x.1 (xg x)] fun x_1 y=>Aa ((pkG x_1.1.sg (xg x_1) (0:Int)).kind==(1:Int)) (cA Gm [rdG x_1.1 (xg x_1)] fun x_2 y=>rA (Ht n) x [.int .i64 (Da x_2.1.sg (xg x_2)),rdG x_2.1 (Cu x_2.1.sg (xg x_2))]) (Aa ((pkG x_1.1.sg (xg x_1) (0:Int)).kind==(2:Int)) (cA Ic [rdG x_1.1 (xg x_1),.int .i64 (2:Int)] fun x_2 y=>rA (Ht n) x [.int .i64 (Au (xh x_2)),rdG x_2.1 (CS x_2.1.sg (xh x_2) x_2.2.2.2.2.2 false)]) (Aa ((pkG x_1.1.sg (xg x_1) (0:Int)).kind==(3:Int)) (cA Ic [rdG x_1.1 (xg x_1),.int .i64 (3:Int)] fun x_2 y=>rA (Ht n) x [.int .i64 (Au (xh x_2)),rdG x_2.1 (CS x_2.1.sg (xh x_2) x_2.2.2.2.2.2 false)]) (cA CF [rdG x_1.1 (xg x_1),.str #[(91:UInt8)].toList] fun x_2 y=>Aa (isG x_2.1.sg (xh x_2) (4:Int) x_2.2.2.2.2.2) ((True∧True)∧cA (Hs n) [rdG x_2.1 (Ai x_2.1.sg (xh x_2) x_2.2.2.2.2.2),.str #[(93:UInt8)].toList,AV.clo (Fn.yield (164:Nat)) [AV.al (0:Nat)]] fun x_3 y=>cA Cz [rdG x_3.1 (yG y.2),.str #[(93:UInt8)].toList,.agg [.int .i64 (4:Int),.str #[].toList,Ad y.1,.bool false]] fun x_4 y=>rA (Ht n) x [.int .i64 (Bw x_4.1.sg (xh x_4) x_4.2.2.2.2.2.1),rdG x_4.1 (Bn x_4.1.sg (xh x_4) x_4.2.2.2.2.2.1 {kind:=x_4.2.2.2.2.2.2.1,text:=x_4.2.2.2.2.2.2.2.1,kids:=x_4.2.2.2.2.2.2.2.2.1,blank:=x_4.2.2.2.2.2.2.2.2.2})]) (cA Cr [rdG x_2.1 (Ai x_2.1.sg (xh x_2) x_2.2.2.2.2.2),.str #[(40:UInt8)].toList] fun x_3 y=>Aa (isG x_3.1.sg (xh x_3) (4:Int) x_3.2.2.2.2.2) (cA IM [rdG x_3.1 (xh x_3)] fun x_4 y=>Aa (Eg x_4.1.sg {pos:=(xg x_4).pos,deep:=(xg x_4).deep,nodes:=(xg x_4).nodes}) (cA (Mm n) [rdG x_4.1 (xg x_4)] fun x_5 y=>rA (Ht n) x [.int .i64 y.1,rdG x_5.1 (yG y.2)]) (cA CF [rdG x_4.1 (xg x_4),.str #[(40:UInt8)].toList] fun x_5 y=>Aa (isG x_5.1.sg (xh x_5) (4:Int) x_5.2.2.2.2.2) (cA (JE n) [rdG x_5.1 (Ai x_5.1.sg (xh x_5) x_5.2.2.2.2.2)] fun x_6 y=>∃(x_7:Int),y.1=x_7∧cA Cz [rdG x_6.1 (yG y.2),.str #[(41:UInt8)].toList,.agg [.int .i64 (11:Int),.str #[].toList,Ad [x_7],.bool false]] fun x_8 y=>rA (Ht n) x [.int .i64 (Bw x_8.1.sg (xh x_8) x_8.2.2.2.2.2.1),rdG x_8.1 (Bn x_8.1.sg (xh x_8) x_8.2.2.2.2.2.1 {kind:=x_8.2.2.2.2.2.2.1,text:=x_8.2.2.2.2.2.2.2.1,kids:=x_8.2.2.2.2.2.2.2.2.1,blank:=x_8.2.2.2.2.2.2.2.2.2})]) (rA (Ht n) x [.int .i64 (0:Int),.box 0 [sgs x_5.1.sg,.int .i64 x_5.1.z,.int .i64 (Ai x_5.1.sg (xh x_5) x_5.2.2.2.2.2).pos,.int .i64 (Ai x_5.1.sg (xh x_5) x_5.2.2.2.2.2).deep,.bool true,As (Ai x_5.1.sg (xh x_5) x_5.2.2.2.2.2).nodes,mbs x_5.1.ms]]))) (cA CF [rdG x_3.1 (xh x_3),.str #[(40:UInt8)].toList] fun x_4 y=>Aa (isG x_4.1.sg (xh x_4) (4:Int) x_4.2.2.2.2.2) (cA (JE n) [rdG x_4.1 (Ai x_4.1.sg (xh x_4) x_4.2.2.2.2.2)] fun x_5 y=>∃(x_6:Int),y.1=x_6∧cA Cz [rdG x_5.1 (yG y.2),.str #[(41:UInt8)].toList,.agg [.int .i64 (11:Int),.str #[].toList,Ad [x_6],.bool false]] fun x_7 y=>rA (Ht n) x [.int .i64 (Bw x_7.1.sg (xh x_7) x_7.2.2.2.2.2.1),rdG x_7.1 (Bn x_7.1.sg (xh x_7) x_7.2.2.2.2.2.1 {kind:=x_7.2.2.2.2.2.2.1,text:=x_7.2.2.2.2.2.2.2.1,kids:=x_7.2.2.2.2.2.2.2.2.1,blank:=x_7.2.2.2.2.2.2.2.2.2})]) (rA (Ht n) x [.int .i64 (0:Int),.box 0 [sgs x_4.1.sg,.int .i64 x_4.1.z,.int .i64 (Ai x_4.1.sg (xh x_4) x_4.2.2.2.2.2).pos,.int .i64 (Ai x_4.1.sg (xh x_4) x_4.2.2.2.2.2).deep,.bool true,As (Ai x_4.1.sg (xh x_4) x_4.2.2.2.2.2).nodes,mbs x_4.1.ms]]))))))) (fun x=>by kernel_rfl) fun(x:ST×Int×Int×Bool×List Nd) (hx:wP 1 (n+1) x.1 (xg x))=>(by
 dsimp only[cA,mbs,Bf,Ad,As,rA,rdG,Ht,Cz,Mm,IM,Cr,Ic,Hs,Gm,Cm,CF,JE,Br,sgs,Av,Az,mvL,lnL,mvE,lnE]
 obtain⟨s,p,d,b,ns⟩:=x;dsimp only[xg,xh] at hx ⊢
 obtain⟨⟨h1,h2⟩,h3⟩:=hx
 (repeat' first|(with_reducible first|rfl|exact True.intro|apply AK|apply And.intro|((first|apply AA|apply AI|apply AB|apply AJ)<;>intro _))|(apply Ax<;>intro _)|apply AH|refine Af () ?_ ?_|((first|apply AO|apply AN|apply AM|apply AL|apply AG|apply AF|apply AE|apply AD|apply AC)<;>try dsimp only)|apply Af|(refine Prod.forall.2 ?_;intro _;try dsimp only)|(intro _;try dsimp only))
 all_goals(try dsimp only[xg,xh,yG,yS,iG] at*)
 all_goals(try simp only[CG] at*)
 all_goals(try(have e:=CT (show isG s.sg ⟨p,d,b,ns⟩ 4 [91]=false by assumption);simp only[e] at*))
 all_goals(try(have e:=CU (show isG s.sg ⟨p,d,b,ns⟩ 4 [91]=true by assumption);simp only[e] at*))
 all_goals(try(have e:=CT (show isG s.sg ⟨p,d,b,ns⟩ 4 [40]=false by assumption);simp only[e] at*))
 all_goals(try(have e:=CU (show isG s.sg ⟨p,d,b,ns⟩ 4 [40]=true by assumption);simp only[e] at*))
 all_goals first
  |rfl
  |assumption
  |(exfalso;have q1:=(show isG s.sg ⟨p,d,b,ns⟩ 4 [40]=false by assumption);have q2:=(show isG s.sg ⟨p,d,b,ns⟩ 4 [40]=true by assumption);rw[q1] at q2;cases q2)
  |exact TG h1.1 h1.2 ‹_›
  |exact TH h1.1 h1.2 ‹_› (.inl rfl)
  |exact TH h1.1 h1.2 ‹_› (.inr rfl)
  |exact ZI (x:=⟨p,d,b,ns⟩) ‹_› (.inl rfl)
  |exact ZI (x:=⟨p,d,b,ns⟩) ‹_› (.inr rfl)
  |exact(PW (k:=4) (m:=[91]) (x:=⟨p,d,b,ns⟩) ‹_› (by omega) h1 h2 h3 (by omega)).1
  |exact(PW (k:=4) (m:=[40]) (x:=⟨p,d,b,ns⟩) ‹_› (by omega) h1 h2 h3 (by omega)).2
  |exact(ZH (k:=4) h1 ‹_›).1
  |exact(ZH h1 ‹_›).2
  |exact a8z h1 ‹_› ‹_› ‹_› ‹_› ‹_›
  |exact ZJ (x:=⟨p,d,b,ns⟩) (k:=4) (m:=[40]) ‹_› (by omega)
  |exact(ZG (x:=⟨p,d,b,ns⟩) ‹_› h1 h2 h3).1
  |exact(ZG (x:=⟨p,d,b,ns⟩) ‹_› h1 h2 h3).2
  |exact a8B ‹_› ‹_› ‹_› ‹_› ‹_› ‹_› ‹_›
  |exact a8A h1 ‹_› ‹_› ‹_› ‹_› ‹_› ‹_› ‹_›
  |exact Dg h1 ‹_›
  |exact⟨by simp,by simp⟩
  |exact Zu h1.2 ‹_› ‹_› ‹_› ‹_› ‹_›
  |skip)
def NI(n:Nat):Sig:= {X:=ST×Int×Int×Bool×List Nd,args:=fun x=>[rdG x.1 (xg x)],pre:=fun x=>wP 2 (n+1) x.1 (xg x),Y:=Int×Int×Int×Bool×List Nd,post:=fun x y=>Ae x.1.sg (xg x) (pE x.1.sg (n+1) .fin) (yS y),res:=fun x y=> .int .i64 y.1,outs:=fun x y=>[rdG x.1 (yG y.2)],keep:=true}
def NJ(n:Nat)(x:ST×Int×Int×Bool×List Nd):LS:= {ι:=Int×Int×Bool×List Nd×Int×Nat,inv:=fun i=>enJ x.1.sg n (xg x) (iG i) i.2.2.2.2.1 i.2.2.2.2.2,regs:=fun i=>[(0,rdG x.1 (iG i)),(3,.int .i64 i.2.2.2.2.1)],als:=[],meas:=fun i=>i.2.2.2.2.2}
theorem a8H(n:Nat)(h:rAll G n):Aq G Tryz.prog 193 (NI n):=
 vcFun_okP [(196,0,(PT n)),(166,0,Cr),(181,0,(IL n)),(163,0,CF),(167,0,Ei),(103,0,Cm),(104,0,BR),(162,0,CJ)] [(45,⟨Int,Ba⟩)] false (fun x=>[(2,NJ n x)]) Tryz.func193 rfl (by decide) ⟨h.base,Hp,(ZA n h),II,NB,GK,Gl,IK,trivial⟩ (fun(x:ST×Int×Int×Bool×List Nd)=>True∧cA (PT n) [rdG x.1 (xg x)] fun x_1 y=>eA (NJ n x) [rdG x_1.1 (yG y.2),.int .i64 y.1]∧∀(i:Int×Int×Bool×List Nd×Int×Nat),enJ x.1.sg n (xg x) (iG i) i.2.2.2.2.1 i.2.2.2.2.2→Aa (!(iG i).bad) (cA Cr [rdG x.1 (iG i),.str #[(40:UInt8)].toList] fun x_2 y=>Aa (isG x_2.1.sg (xh x_2) (4:Int) x_2.2.2.2.2.2) (cA (IL n) [rdG x_2.1 (xh x_2),.int .i64 i.2.2.2.2.1] fun x_3 y=>eN (NJ n x) i [rdG x_3.1 (yG y.2),.int .i64 y.1]) (cA CF [rdG x_2.1 (xh x_2),.str #[(46:UInt8)].toList] fun x_3 y=>Aa (isG x_3.1.sg (xh x_3) (4:Int) x_3.2.2.2.2.2) (cA Ei [rdG x_3.1 (Ai x_3.1.sg (xh x_3) x_3.2.2.2.2.2),.int .i64 (0:Int)] fun x_4 y=>Aa (!nmG x_4.1.sg (xh x_4) x_4.2.2.2.2.2) (rA (NI n) x [.int .i64 (0:Int),.box 0 [sgs x_4.1.sg,.int .i64 x_4.1.z,.int .i64 (xh x_4).pos,.int .i64 (xh x_4).deep,.bool true,As (xh x_4).nodes,mbs x_4.1.ms]]) (cA Cm [rdG x_4.1 (xh x_4)] fun x_5 y=>∃(x_6:Int),i.2.2.2.2.1=x_6∧cA BR [rdG x_5.1 (xg x_5),.agg [.int .i64 (6:Int),.str (pkG x_5.1.sg (xg x_5) (0:Int)).text,Ad [x_6],.bool false]] fun x_7 y=>cA CJ [rdG x_7.1 (Ah (xh x_7) {kind:=x_7.2.2.2.2.2.1,text:=x_7.2.2.2.2.2.2.1,kids:=x_7.2.2.2.2.2.2.2.1,blank:=x_7.2.2.2.2.2.2.2.2})] fun x_8 y=>eN (NJ n x) i [rdG x_8.1 (BW (xg x_8)),.int .i64 (Au (xh x_7))])) (rA (NI n) x [.int .i64 i.2.2.2.2.1,rdG x_3.1 (Ai x_3.1.sg (xh x_3) x_3.2.2.2.2.2)]))) (rA (NI n) x [.int .i64 i.2.2.2.2.1,rdG x.1 (iG i)])) (fun x=>by kernel_rfl) fun(x:ST×Int×Int×Bool×List Nd) (hx:wP 2 (n+1) x.1 (xg x))=>(by
 dsimp only[cA,eA,eN,NJ,mbs,Bf,Ad,As,rA,rdG,BR,PT,IL,NI,Cr,Cm,Ei,CJ,CF,Br,sgs,Av,Az,mvL,lnL,mvE,lnE,BA]
 obtain⟨s,p,d,b,ns⟩:=x;dsimp only[xg,xh] at hx ⊢
 obtain⟨⟨h1,h2⟩,h3⟩:=hx
 (repeat' first|(with_reducible first|rfl|exact True.intro|apply AK|apply And.intro|((first|apply AA|apply AI|apply AB|apply AJ)<;>intro _))|(apply Ax<;>intro _)|apply AH|refine Af () ?_ ?_|((first|apply AO|apply AN|apply AM|apply AL|apply AG|apply AF|apply AE|apply AD|apply AC)<;>try dsimp only)|apply Af|(refine Prod.forall.2 ?_;intro _;try dsimp only)|(intro _;try dsimp only))
 all_goals(try dsimp only[xg,xh,yG,yS,iG] at*)
 all_goals(try simp only[CG] at*)
 all_goals first
  |(show Nat;skip)
  |rfl
  |assumption
  |exact ZL h1 h2 h3
  |exact(TO h1 h2 ‹_›).1
  |exact(TO h1 h2 ‹_›).2 ‹_›
  |exact a8C h1 ‹_›
  |exact Zn (And.left ‹_›) ‹_›
  |exact a8D (x:=⟨p,d,b,ns⟩) h1 h3 ‹_› ‹_›
  |exact(PX ‹_› ‹_› ‹_›).1.1
  |exact(PX ‹_› ‹_› ‹_›).1.2 ‹_›
  |exact(TP h1.1 ‹_› ‹_› ‹_› ‹_›).1.1
  |exact(TP h1.1 ‹_› ‹_› ‹_› ‹_›).1.2 ‹_›
  |exact(ZK (t:=[]) h1 ‹_› ‹_›).1
  |exact(ZK (t:=[]) h1 ‹_› ‹_›).2
  |exact a8E ‹_› ‹_› ‹_› ‹_›
  |exact a8F ‹_› ‹_› ‹_› ‹_›
  |omega
  |skip
 all_goals first
  |exact(PX ‹_› ‹_› ‹_›).2
  |exact(TP h1.1 ‹_› ‹_› ‹_› ‹_›).2
  |skip)
end Go.My
end
section
set_option linter.unusedVariables false
set_option linter.unusedSimpArgs false
namespace Go.My
open Go.Eng Go.Proofs
variable {G:GInv}
def JG(sg:List Sg)(n l:Nat)(x y:Gs)(k:Int)(N:Nat):Prop:=chO sg n l x y k N∧(y.bad=false→y.deep≤20)
theorem ZM{sg:List Sg}{n l:Nat}{x y:Gs}{k:Int}{N:Nat}(h:chO sg n l x y k N∧(y.bad=false→y.deep≤20)):JG sg n l x y k N:=h
def GR(sg:List Sg)(n l:Nat)(m:List UInt8)(x y:Gs)(ks:List Int)(N M:Nat):Prop:=(chN sg n l m x y ks N∧N≤M)∧(y.bad=false→y.deep≤20)
theorem ZN{sg:List Sg}{n l:Nat}{m:List UInt8}{x y:Gs}{ks:List Int}{N M:Nat}(h:(chN sg n l m x y ks N∧N≤M)∧(y.bad=false→y.deep≤20)):GR sg n l m x y ks N M:=h
theorem a8I{s:ST}{x:Gs}{n:Nat}{l:Int}{z:Int×Gs}(h1:rOk s x)(h2:x.bad=false→x.deep≤20)(hl:l≠6)(h0:0≤l)(h1z:Ae s.sg x (pE s.sg n (.chain (l+1).toNat)) z):JG s.sg n l.toNat x z.2 z.1 (2*s.sg.length+4):=by
 rw[show(l+1).toNat=l.toNat+1 by omega] at h1z
 exact ZM ⟨Zl h1.2 (by omega) h1z,KO h1z h2⟩
theorem a8J{s:ST}{x:Gs}{n:Nat}{l:Int}(h1:rOk s x)(h2:x.bad=false→x.deep≤20)(h3:12*((s.sg.length:Int)-x.pos)+(9-l.toNat:Nat)≤(n+1:Nat))(h0:0≤l)(h6:l≤6)(hl:l≠6):wP (9-(l+1).toNat) n s x:=⟨⟨h1,h2⟩,by omega⟩
theorem a8K{s:ST}{x:Gs}{n:Nat}{l:Int}(h1:rOk s x)(h2:x.bad=false→x.deep≤20)(h3:12*((s.sg.length:Int)-x.pos)+(9-l.toNat:Nat)≤(n+1:Nat))(hl:l=6):wP 2 n s x:=by
 subst hl;exact⟨⟨h1,h2⟩,by simp at h3;omega⟩
theorem ZO{s:ST}{x:Gs}{n:Nat}{l:Int}{z:Int×Gs}(hl:l=6)(h:Ae s.sg x (pE s.sg n .fin) z):Ae s.sg x (pE s.sg (n+1) (.chain l.toNat)) z:=by subst hl;exact a7W h
theorem a8L{s:ST}{x y:Gs}{n l:Nat}{k:Int}{N:Nat}(h1:rOk s x)(h:JG s.sg n l x y k N):rOk s y:=⟨h1.1,h.1.1.1⟩
theorem a8M{s:ST}{x y:Gs}{n l:Nat}{m:List UInt8}{ks:List Int}{N M:Nat}(h1:rOk s x)(h:GR s.sg n l m x y ks N M):rOk s y:=⟨h1.1,h.1.1.1.1⟩
theorem a8N{sg:List Sg}{n l:Nat}{x y:Gs}{k:Int}{N:Nat}(h:JG sg n l x y k N)(hm:Bx sg l y=[]):Ae sg x (pE sg (n+1) (.chain l)) (k,y):=a7Y h.1 hm
theorem a8O{sg:List Sg}{n l:Nat}{x y:Gs}{k:Int}{N:Nat}(h:JG sg n l x y k N)(hm:Bx sg l y≠[]):GR sg n l (Bx sg l y) x y [k] N N:=ZN ⟨⟨a7Z h.1 hm,Nat.le_refl _⟩,h.2⟩
theorem a8P{s:ST}{x y:Gs}{n:Nat}{l:Int}{m:List UInt8}{ks:List Int}{N M:Nat}(h1:rOk s x)(h3:12*((s.sg.length:Int)-x.pos)+(9-l.toNat:Nat)≤(n+1:Nat))(h0:0≤l)(h6:l≤6)(hl:l≠6)
 (h:GR s.sg n l.toNat m x y ks N M) (hq:isG s.sg y 4 m=true):wP (9-(l+1).toNat) n s (Ai s.sg y m):=by
 rw[CU hq]
 have hl2:=Ct hq (by omega)
 have ha:=EL h.1.1.1.1 hl2.2
 have hd:=h.2 hl2.1
 have hp:=h.1.1.2.2.2 hl2.1
 have e:(Aj y).pos=y.pos+1:=rfl
 have e2:(Aj y).deep=y.deep:=rfl
 exact⟨⟨⟨h1.1,ha⟩,fun _=>by omega⟩,by omega⟩
theorem ZP{sg:List Sg}{n:Nat}{l:Int}{x y y0:Gs}{ks:List Int}{N M:Nat}{z:Int×Gs}(h0:0≤l)(hm:Bx sg l.toNat y0≠[])(h:GR sg n l.toNat (Bx sg l.toNat y0) x y ks N M)
 (hz:Ae sg (Ai sg y (Bx sg l.toNat y0)) (pE sg n (.chain (l+1).toNat)) z) (hq:isG sg y 4 (Bx sg l.toNat y0)=true):GR sg n l.toNat (Bx sg l.toNat y0) x z.2 (ks++[z.1]) (N-1) M∧N-1<N:=by
 rw[CU hq] at hz
 rw[show(l+1).toNat=l.toNat+1 by omega] at hz
 obtain⟨a,b⟩:=GP (a8a (GN hm).2 h.1.1 hq hz)
 have hl2:=Ct hq (by omega)
 exact⟨ZN ⟨⟨a,by have:=h.1.2;omega⟩,KO hz (fun _=>h.2 hl2.1)⟩,b⟩
theorem ZQ{s:ST}{n l:Nat}{x y y0:Gs}{ks:List Int}{N M:Nat}(hs:sgB s.sg)(hm:Bx s.sg l y0≠[])(h:GR s.sg n l (Bx s.sg l y0) x y ks N M)(hq:isG s.sg y 4 (Bx s.sg l y0)=false):
 JG s.sg n l x (Ah (Ai s.sg y (Bx s.sg l y0)) ⟨7,Bx s.sg l y0,ks,false⟩) (Au (Ai s.sg y (Bx s.sg l y0))) (N-1)∧N-1<M:=by
 rw[CT hq]
 obtain⟨a,b⟩:=GP (a8b (GN hm).2 hs h.1.1 hq)
 obtain⟨d1,d2,d3⟩:= @GM y ⟨7,Bx s.sg l y0,ks,false⟩
 exact⟨ZM ⟨a,fun hb=>by rw[d1];exact h.2 (d3 hb)⟩,by have:=h.1.2;omega⟩
theorem a8Q{s:ST}{n l:Nat}{x y:Gs}{m:List UInt8}{ks:List Int}{N M:Nat}(h1:rOk s x)(h:GR s.sg n l m x y ks N M)(hq:isG s.sg y 4 m=false):rOk s (Ai s.sg y m):=by
 rw[CT hq];exact⟨h1.1,h.1.1.1.1⟩
theorem a8R{s:ST}{n l:Nat}{x y:Gs}{m:List UInt8}{ks:List Int}{N M:Nat}(hs:sgB s.sg)(h:GR s.sg n l m x y ks N M):ks.length≤3001:=by
 have:=h.1.1.2.2.1;have:=h.1.1.1.1.1.2;have:=hs.1;omega
abbrev pkX (x:Gs):Gs:=gDp (if x.deep=20 then Bc x else x) 1
theorem PY{s:ST}{x:Gs}{n:Nat}(h1:rOk s x)(h2:x.deep≤20)(h3:12*((s.sg.length:Int)-x.pos)+10≤(n+1:Nat)):wP (9-(0:Int).toNat) n s (pkX x)∧rOk s (pkX x):=by
 obtain⟨p1,p2,p3⟩:= @NE x
 have hok:gsOk s.sg (pkX x):=by
  unfold pkX;split
  ·exact⟨h1.2.1,by simp only[gDp,Bc];have:=h1.2.2.1;omega,h1.2.2.2⟩
  ·exact⟨h1.2.1,by simp only[gDp];have:=h1.2.2.1;omega,h1.2.2.2⟩
 exact⟨⟨⟨⟨h1.1,hok⟩,fun hb=>by have:=p3 hb;simp only[pkX] at*;omega⟩,by simp only[pkX] at*;simp;omega⟩,h1.1,hok⟩
theorem TQ{s:ST}{x:Gs}{n:Nat}{z:Int×Gs}(h1:rOk s x)(h2:x.deep≤20)(h3:12*((s.sg.length:Int)-x.pos)+10≤(n+1:Nat))(hz:Ae s.sg (pkX x) (pE s.sg n (.chain 0)) z)(hq:isG s.sg z.2 4 [63]=true):vP 10 n s (Ai s.sg z.2 [63]):=by
 rw[CU hq]
 have hl:=Ct hq (by omega)
 have e:=Cw hz
 obtain⟨p1,p2,p3⟩:= @NE x
 have e1:(Aj z.2).pos=z.2.pos+1:=rfl
 have e2:(Aj z.2).deep=z.2.deep:=rfl
 have e3:=p3 (e.2.2.2 hl.1).1
 simp only[pkX] at*
 exact⟨⟨⟨h1.1,EL (En hz) hl.2⟩,by omega⟩,by omega⟩
theorem ZR{s:ST}{x:Gs}{n:Nat}{z a:Int×Gs}(h1:rOk s x)(h2:x.deep≤20)(h3:12*((s.sg.length:Int)-x.pos)+10≤(n+1:Nat))(hz:Ae s.sg (pkX x) (pE s.sg n (.chain 0)) z)(hq:isG s.sg z.2 4 [63]=true)
 (ha:Ae s.sg (Ai s.sg z.2 [63]) (pE s.sg n .pick) a):vP 10 n s (Al s.sg a.2 [58]):=by
 have hv:=TQ h1 h2 h3 hz hq
 have e:=Cw ha
 have t:=Ft (m:=[58]) (En ha)
 have:=hv.2;have:=hv.1.2
 exact⟨⟨⟨h1.1,t.1⟩,by omega⟩,by omega⟩
theorem ZS{s:ST}{x:Gs}{n:Nat}{z a b:Int×Gs}(h1:rOk s x)(h2:x.deep≤20)(hz:Ae s.sg (pkX x) (pE s.sg n (.chain 0)) z)(hq:isG s.sg z.2 4 [63]=true)
 (ha:Ae s.sg (Ai s.sg z.2 [63]) (pE s.sg n .pick) a) (hb:Ae s.sg (Al s.sg a.2 [58]) (pE s.sg n .pick) b):
 Ae s.sg x (pE s.sg (n+1) .pick) (Au b.2,gDp (Ah b.2 ⟨8,[],[z.1,a.1,b.1],false⟩) (-1)):=by
 rw[CU hq] at ha
 exact a7O h1.2 h2 hz hq ha hb
theorem ZT{s:ST}{x:Gs}{n:Nat}{z:Int×Gs}(h1:rOk s x)(h2:x.deep≤20)(hz:Ae s.sg (pkX x) (pE s.sg n (.chain 0)) z)(hq:isG s.sg z.2 4 [63]=false):Ae s.sg x (pE s.sg (n+1) .pick) (z.1,gDp (Ai s.sg z.2 [63]) (-1)):=by
 rw[CT hq];exact a7N h1.2 h2 hz hq
theorem ZU{s:ST}{x:Gs}{n:Nat}{z:Int×Gs}(h1:rOk s x)(hz:Ae s.sg (pkX x) (pE s.sg n (.chain 0)) z)(hq:isG s.sg z.2 4 [63]=false):0≤(Ai s.sg z.2 [63]).deep∧(Ai s.sg z.2 [63]).deep≤21:=by
 rw[CT hq];exact(En hz).2.1
theorem PZ{g:Gs}{x:Nd}:(Ah g x).deep=g.deep:=GM.1
theorem ZV{α:Type}{sg:List Sg}{x:Gs}{f:Ps→Option (α×Ps)}{y:α×Gs}(h:Ae sg x f y):0≤y.2.deep∧y.2.deep≤21:=(En h).2.1
theorem ZW{s:ST}{x:Gs}{n:Nat}(h1:rOk s x)(h2:x.deep≤20)(h3:12*((s.sg.length:Int)-x.pos)+11≤(n+1:Nat)):vP 10 n s x:=⟨⟨h1,h2⟩,by omega⟩
def vaJ(sg:List Sg)(n:Nat)(x y:Gs)(ks:List Int)(N:Nat):Prop:=JD sg n x y ks N∧y.deep≤20
theorem TR{sg:List Sg}{n:Nat}{x y:Gs}{ks:List Int}{N:Nat}(h:JD sg n x y ks N∧y.deep≤20):vaJ sg n x y ks N:=h
theorem ZX{s:ST}{x:Gs}{n:Nat}{z:Int×Gs}(h1:rOk s x)(hz:Ae s.sg x (pE s.sg n .pick) z)(hq:isG s.sg z.2 4 [46,46]=false):Ae s.sg x (pE s.sg (n+1) .value) z:=a7P h1.2 hz hq
theorem ZY{s:ST}{x:Gs}{n:Nat}{z:Int×Gs}(h1:rOk s x)(h2:x.deep≤20)(hz:Ae s.sg x (pE s.sg n .pick) z)(hq:isG s.sg z.2 4 [46,46]=true):vaJ s.sg n x z.2 [z.1] (s.sg.length+1):=TR ⟨a7Q h1.2 hz hq,by have:=(Cw hz).1;omega⟩
theorem Qa{s:ST}{x y:Gs}{n:Nat}{ks:List Int}{N:Nat}(h1:rOk s x)(h:vaJ s.sg n x y ks N):rOk s y:=⟨h1.1,h.1.1.1⟩
theorem ZZ{s:ST}{x y:Gs}{n:Nat}{ks:List Int}{N:Nat}(hs:sgB s.sg)(h:vaJ s.sg n x y ks N):ks.length≤3001:=by
 have:=h.1.2.2.1;have:=h.1.1.1.1.2;have:=hs.1;omega
theorem TS{s:ST}{x y:Gs}{n:Nat}{ks:List Int}{N:Nat}(h1:rOk s x)(h:vaJ s.sg n x y ks N)(hq:isG s.sg y 4 [46,46]=true):rOk s (Ai s.sg y [46,46]):=by
 rw[CU hq];exact⟨h1.1,EL h.1.1.1 (Ct hq (by omega)).2⟩
theorem a8S{s:ST}{x y:Gs}{n:Nat}{ks:List Int}{N:Nat}(h1:rOk s x)(h3:12*((s.sg.length:Int)-x.pos)+11≤(n+1:Nat))(h:vaJ s.sg n x y ks N)(hq:isG s.sg y 4 [46,46]=true):wP 11 n s (Cu s.sg (Ai s.sg y [46,46])):=by
 have hk:=TS h1 h hq
 rw[CU hq] at hk ⊢
 have hl:=Ct hq (by omega)
 have e:=IH h1.1 hk.2
 have e1:(Cu s.sg (Aj y)).deep=(Aj y).deep:=e.1.2.1
 have e2:(Aj y).pos≤(Cu s.sg (Aj y)).pos:=e.1.2.2.1
 have e3:(Aj y).pos=y.pos+1:=rfl
 have e4:(Aj y).deep=y.deep:=rfl
 have:=h.1.1.2.2.1;have:=h.2
 exact⟨⟨⟨h1.1,En e⟩,fun _=>by omega⟩,by omega⟩
theorem a0a{s:ST}{x y:Gs}{n N:Nat}{ks:List Int}{w:Int×Gs}(h1:rOk s x)(h:vaJ s.sg n x y ks N)(hq:isG s.sg y 4 [46,46]=true)
 (hw:Ae s.sg (Cu s.sg (Ai s.sg y [46,46])) (CL s.sg (pE s.sg n .value) (Da s.sg (Ai s.sg y [46,46]))) w):vaJ s.sg n x w.2 (ks++[w.1]) (N-1)∧N-1<N:=by
 have hk:=TS h1 h hq
 rw[CU hq] at hw hk
 obtain⟨a,b⟩:=GP (a7R h1.1 h.1 hq hw)
 have e:=IH h1.1 hk.2
 have e1:(Cu s.sg (Aj y)).deep=(Aj y).deep:=e.1.2.1
 have e4:(Aj y).deep=y.deep:=rfl
 have:=(Cw hw).1;have:=h.2
 exact⟨TR ⟨a,by omega⟩,b⟩
theorem a0b{s:ST}{x y:Gs}{n N:Nat}{ks:List Int}(h1:rOk s x)(h:vaJ s.sg n x y ks N)(hq:isG s.sg y 4 [46,46]=false):Ae s.sg x (pE s.sg (n+1) .value) (Au (Ai s.sg y [46,46]),Ah (Ai s.sg y [46,46]) ⟨10,[],ks,false⟩):=by
 rw[CT hq];exact a7S h.1 hq h1.1
theorem a0c{s:ST}{x y:Gs}{n N:Nat}{ks:List Int}(h1:rOk s x)(h:vaJ s.sg n x y ks N)(hq:isG s.sg y 4 [46,46]=false):rOk s (Ai s.sg y [46,46]):=by
 rw[CT hq];exact Qa h1 h
attribute [local irreducible] pE Bg CL fnR Ae Bh gsOk Al Bn Ah BW CS Ai Cu Da Au Bw pkG isG nmG
def Qb(n:Nat)(x:ST×Int×Int×Bool×List Nd×Int)(j:Int×Int×Bool×List Nd×Int×Nat):LS:= {
 ι:=Int×Int×Bool×List Nd×List Int×Nat,inv:=fun i=>GR x.1.sg n x.2.2.2.2.2.toNat (Bx x.1.sg x.2.2.2.2.2.toNat (iG j)) (xh x) (iG i) i.2.2.2.2.1 i.2.2.2.2.2 j.2.2.2.2.2,
 regs:=fun i=>[(0,rdG x.1 (iG i)),(1,.int .i64 x.2.2.2.2.2),(6,.str (Bx x.1.sg x.2.2.2.2.2.toNat (iG j))),(7,Ad i.2.2.2.2.1)],als:=[],meas:=fun i=>i.2.2.2.2.2}
def Qc(n:Nat)(x:ST×Int×Int×Bool×List Nd×Int):LS:= {
 ι:=Int×Int×Bool×List Nd×Int×Nat,inv:=fun i=>JG x.1.sg n x.2.2.2.2.2.toNat (xh x) (iG i) i.2.2.2.2.1 i.2.2.2.2.2,regs:=fun i=>[(0,rdG x.1 (iG i)),(1,.int .i64 x.2.2.2.2.2),(5,.int .i64 i.2.2.2.2.1)],als:=[],meas:=fun i=>i.2.2.2.2.2,
 sub:=fun j=>[(8,Qb n x j)]}
def Qd(n:Nat):Sig:= {X:=ST×Int×Int×Bool×List Nd×Int,args:=fun x=>[rdG x.1 (xh x),.int .i64 x.2.2.2.2.2],pre:=fun x=>wP (9-x.2.2.2.2.2.toNat) (n+1) x.1 (xh x)∧0≤x.2.2.2.2.2∧x.2.2.2.2.2≤6,Y:=Int×Int×Int×Bool×List Nd,post:=fun x y=>Ae x.1.sg (xh x) (pE x.1.sg (n+1) (.chain x.2.2.2.2.2.toNat)) (yS y),res:=fun x y=> .int .i64 y.1,outs:=fun x y=>[rdG x.1 (yG y.2),.top],keep:=true}
theorem a8T(n:Nat)(h:rAll G n):Aq G Tryz.prog 190 (Qd n):=
 vcFun_okP [(193,0,(PS n)),(190,0,(JF n)),(194,0,KP),(163,0,CF),(104,0,BR)] [(45,⟨Int,Ba⟩)] false (fun x=>[(4,Qc n x)]) Tryz.func190 rfl (by decide) ⟨h.fin,h.chain,a8w,II,Gl,trivial⟩ (fun(x:ST×Int×Int×Bool×List Nd×Int)=>True∧Aa (x.2.2.2.2.2==(6:Int)) (cA (PS n) [rdG x.1 (xh x)] fun x_1 y=>rA (Qd n) x [.int .i64 y.1,rdG x_1.1 (yG y.2),.top]) (inR IntKind.i64 (x.2.2.2.2.2+(1:Int))∧cA (JF n) [rdG x.1 (xh x),.int .i64 (x.2.2.2.2.2+(1:Int))] fun x_1 y=>eA (Qc n x) [rdG x_1.1 (yG y.2),.int .i64 x.2.2.2.2.2,.int .i64 y.1]∧∀(i:Int×Int×Bool×List Nd×Int×Nat),JG x.1.sg n (Int.toNat x.2.2.2.2.2) (xh x) (iG i) i.2.2.2.2.1 i.2.2.2.2.2→cA KP [rdG x.1 (iG i),.int .i64 x.2.2.2.2.2] fun x_2 y=>Aa (Bx x_2.1.sg (Int.toNat x_2.2.2.2.2.2) (xh x_2)== #[].toList) (rA (Qd n) x [.int .i64 i.2.2.2.2.1,rdG x_2.1 (xh x_2),.top]) (∃(x_3:Int),i.2.2.2.2.1=x_3∧eA (Qb n x i) [rdG x_2.1 (xh x_2),.int .i64 x.2.2.2.2.2,.str (Bx x_2.1.sg (Int.toNat x_2.2.2.2.2.2) (xh x_2)),Ad [x_3]]∧∀(i_1:Int×Int×Bool×List Nd×List Int×Nat),GR x.1.sg n (Int.toNat x.2.2.2.2.2) (Bx x.1.sg (Int.toNat x.2.2.2.2.2) (iG i)) (xh x) (iG i_1) i_1.2.2.2.2.1 i_1.2.2.2.2.2 i.2.2.2.2.2→cA CF [rdG x.1 (iG i_1),.str (Bx x.1.sg (Int.toNat x.2.2.2.2.2) (iG i))] fun x_4 y=>Aa (isG x_4.1.sg (xh x_4) (4:Int) x_4.2.2.2.2.2) (inR IntKind.i64 (x.2.2.2.2.2+(1:Int))∧cA (JF n) [rdG x_4.1 (Ai x_4.1.sg (xh x_4) x_4.2.2.2.2.2),.int .i64 (x.2.2.2.2.2+(1:Int))] fun x_5 y=>∃(x_6:Int),y.1=x_6∧∃(zs:List Int),Ad [x_6]=Ad zs∧Bt Ba∧AW (List.length i_1.2.2.2.2.1+List.length zs) (8:Nat)∧eN (Qb n x i) i_1 [rdG x_5.1 (yG y.2),.int .i64 x.2.2.2.2.2,.str (Bx x.1.sg (Int.toNat x.2.2.2.2.2) (iG i)),Ad (i_1.2.2.2.2.1++zs)]) (cA BR [rdG x_4.1 (Ai x_4.1.sg (xh x_4) x_4.2.2.2.2.2),.agg [.int .i64 (7:Int),.str (Bx x.1.sg (Int.toNat x.2.2.2.2.2) (iG i)),Ad i_1.2.2.2.2.1,.bool false]] fun x_5 y=>eN (Qc n x) i [rdG x_5.1 (Ah (xh x_5) {kind:=x_5.2.2.2.2.2.1,text:=x_5.2.2.2.2.2.2.1,kids:=x_5.2.2.2.2.2.2.2.1,blank:=x_5.2.2.2.2.2.2.2.2}),.int .i64 x.2.2.2.2.2,.int .i64 (Au (xh x_5))])))) (fun x=>by kernel_rfl) fun(x:ST×Int×Int×Bool×List Nd×Int) (hx:wP (9-x.2.2.2.2.2.toNat) (n+1) x.1 (xh x)∧0≤x.2.2.2.2.2∧x.2.2.2.2.2≤6)=>(by
 dsimp only[cA,eA,eN,Qb,Qc,mbs,Bf,Ad,As,rA,rdG,BR,JF,Qd,PS,KP,CF,Br,sgs,Av,Az,mvL,lnL,mvE,lnE,BA]
 obtain⟨s,p,d,b,ns,e⟩:=x;dsimp only[xg,xh] at hx ⊢
 obtain⟨⟨⟨h1,h2⟩,h3⟩,h4,h5⟩:=hx
 (repeat' first|(with_reducible first|rfl|exact True.intro|apply AK|apply And.intro|((first|apply AA|apply AI|apply AB|apply AJ)<;>intro _))|(apply Ax<;>intro _)|apply AH|refine Af () ?_ ?_|((first|apply AO|apply AN|apply AM|apply AL|apply AG|apply AF|apply AE|apply AD|apply AC)<;>try dsimp only)|apply Af|(refine Prod.forall.2 ?_;intro _;try dsimp only)|(intro _;try dsimp only))
 all_goals(try dsimp only[xg,xh,yG,yS,iG] at*)
 all_goals(try simp only[CG] at*)
 all_goals first
  |(show Nat;skip)
  |rfl
  |assumption
  |exact a8K (x:=⟨p,d,b,ns⟩) h1 h2 h3 ‹_›
  |exact ZO ‹_› ‹_›
  |exact a8J (x:=⟨p,d,b,ns⟩) h1 h2 h3 h4 h5 ‹_›
  |exact a8I (x:=⟨p,d,b,ns⟩) h1 h2 ‹_› h4 ‹_›
  |exact a8L h1 ‹_›
  |exact a8M h1 ‹_›
  |exact a8N ‹_› ‹_›
  |exact a8O ‹_› ‹_›
  |exact a8P (x:=⟨p,d,b,ns⟩) h1 h3 h4 h5 ‹_› ‹_› ‹_›
  |exact(ZP h4 ‹_› ‹_› ‹_› ‹_›).1
  |exact(ZQ h1.1 ‹_› ‹_› ‹_›).1
  |exact a8Q h1 ‹_› ‹_›
  |omega
  |(have hq:=a8R h1.1 (show GR _ _ _ _ _ _ _ _ _ by assumption);(try simp only[AW,List.length_append,List.length_cons,List.length_nil]);omega)
  |((try simp only[AW,AR,List.length_append,List.length_cons,List.length_nil]);omega)
  |skip
 all_goals first
  |exact(ZP h4 ‹_› ‹_› ‹_› ‹_›).2
  |exact(ZQ h1.1 ‹_› ‹_› ‹_›).2
  |skip)
def Qe(n:Nat):Sig:= {X:=ST×Int×Int×Bool×List Nd,args:=fun x=>[rdG x.1 (xg x)],pre:=fun x=>vP 10 (n+1) x.1 (xg x),Y:=Int×Int×Int×Bool×List Nd,post:=fun x y=>Ae x.1.sg (xg x) (pE x.1.sg (n+1) .pick) (yS y),res:=fun x y=> .int .i64 y.1,outs:=fun x y=>[rdG x.1 (yG y.2)],keep:=true}
theorem a8U(n:Nat)(h:rAll G n):Aq G Tryz.prog 180 (Qe n):=
 vcFun_okP [(169,0,Ie),(190,0,(JF n)),(163,0,CF),(180,0,(Hr n)),(137,0,Cv),(104,0,BR)] [(45,⟨Int,Ba⟩)] false (fun x=>[]) Tryz.func180 rfl (by decide) ⟨YX,h.chain,II,h.pick,IJ,Gl,trivial⟩ (fun(x:ST×Int×Int×Bool×List Nd)=>True∧cA Ie [rdG x.1 (xg x)] fun x_1 y=>cA (JF n) [.box 0 [sgs x_1.1.sg,.int .i64 x_1.1.z,.int .i64 (gDp (if(xg x_1).deep=(20:Int) then Bc (xg x_1) else xg x_1) (1:Int)).pos,.int .i64 (gDp (if(xg x_1).deep=(20:Int) then Bc (xg x_1) else xg x_1) (1:Int)).deep,.bool (gDp (if(xg x_1).deep=(20:Int) then Bc (xg x_1) else xg x_1) (1:Int)).bad,As (gDp (if(xg x_1).deep=(20:Int) then Bc (xg x_1) else xg x_1) (1:Int)).nodes,mbs x_1.1.ms],.int .i64 (0:Int)] fun x_2 y=>cA CF [rdG x_2.1 (yG y.2),.str #[(63:UInt8)].toList] fun x_3 y_1=>Aa (isG x_3.1.sg (xh x_3) (4:Int) x_3.2.2.2.2.2) (cA (Hr n) [rdG x_3.1 (Ai x_3.1.sg (xh x_3) x_3.2.2.2.2.2)] fun x_4 y_2=>cA Cv [rdG x_4.1 (yG y_2.2),.str #[(58:UInt8)].toList] fun x_5 y_3=>cA (Hr n) [rdG x_5.1 (Al x_5.1.sg (xh x_5) x_5.2.2.2.2.2)] fun x_6 y_4=>∃(x_7:Int),y.1=x_7∧∃(x_8:Int),y_2.1=x_8∧∃(x_9:Int),y_4.1=x_9∧cA BR [rdG x_6.1 (yG y_4.2),.agg [.int .i64 (8:Int),.str #[].toList,Ad [x_7,x_8,x_9],.bool false]] fun x_10 y=>inR IntKind.i64 ((Ah (xh x_10) {kind:=x_10.2.2.2.2.2.1,text:=x_10.2.2.2.2.2.2.1,kids:=x_10.2.2.2.2.2.2.2.1,blank:=x_10.2.2.2.2.2.2.2.2}).deep-(1:Int))∧rA (Qe n) x [.int .i64 (Au (xh x_10)),.box 0 [sgs x_10.1.sg,.int .i64 x_10.1.z,.int .i64 (Ah (xh x_10) {kind:=x_10.2.2.2.2.2.1,text:=x_10.2.2.2.2.2.2.1,kids:=x_10.2.2.2.2.2.2.2.1,blank:=x_10.2.2.2.2.2.2.2.2}).pos,.int .i64 ((Ah (xh x_10) {kind:=x_10.2.2.2.2.2.1,text:=x_10.2.2.2.2.2.2.1,kids:=x_10.2.2.2.2.2.2.2.1,blank:=x_10.2.2.2.2.2.2.2.2}).deep-(1:Int)),.bool (Ah (xh x_10) {kind:=x_10.2.2.2.2.2.1,text:=x_10.2.2.2.2.2.2.1,kids:=x_10.2.2.2.2.2.2.2.1,blank:=x_10.2.2.2.2.2.2.2.2}).bad,As (Ah (xh x_10) {kind:=x_10.2.2.2.2.2.1,text:=x_10.2.2.2.2.2.2.1,kids:=x_10.2.2.2.2.2.2.2.1,blank:=x_10.2.2.2.2.2.2.2.2}).nodes,mbs x_10.1.ms]]) (inR IntKind.i64 ((Ai x_3.1.sg (xh x_3) x_3.2.2.2.2.2).deep-(1:Int))∧rA (Qe n) x [.int .i64 y.1,.box 0 [sgs x_3.1.sg,.int .i64 x_3.1.z,.int .i64 (Ai x_3.1.sg (xh x_3) x_3.2.2.2.2.2).pos,.int .i64 ((Ai x_3.1.sg (xh x_3) x_3.2.2.2.2.2).deep-(1:Int)),.bool (Ai x_3.1.sg (xh x_3) x_3.2.2.2.2.2).bad,As (Ai x_3.1.sg (xh x_3) x_3.2.2.2.2.2).nodes,mbs x_3.1.ms]])) (fun x=>by kernel_rfl) fun(x:ST×Int×Int×Bool×List Nd) (hx:vP 10 (n+1) x.1 (xg x))=>(by
 dsimp only[cA,mbs,Bf,Ad,As,rA,rdG,BR,JF,Ie,Hr,Qe,CF,Cv,Br,sgs,Av,Az,mvL,lnL,mvE,lnE]
 obtain⟨s,p,d,b,ns⟩:=x;dsimp only[xg,xh] at hx ⊢
 obtain⟨⟨h1,h2⟩,h3⟩:=hx
 (repeat' first|(with_reducible first|rfl|exact True.intro|apply AK|apply And.intro|((first|apply AA|apply AI|apply AB|apply AJ)<;>intro _))|(apply Ax<;>intro _)|apply AH|refine Af () ?_ ?_|((first|apply AO|apply AN|apply AM|apply AL|apply AG|apply AF|apply AE|apply AD|apply AC)<;>try dsimp only)|apply Af|(refine Prod.forall.2 ?_;intro _;try dsimp only)|(intro _;try dsimp only))
 all_goals(try dsimp only[xg,xh,yG,yS,iG] at*)
 all_goals(try simp only[CG] at*)
 all_goals first
  |rfl
  |assumption
  |exact(PY (x:=⟨p,d,b,ns⟩) h1 h2 h3).1
  |exact(PY (x:=⟨p,d,b,ns⟩) h1 h2 h3).2
  |exact Dg h1 ‹_›
  |exact TQ (x:=⟨p,d,b,ns⟩) h1 h2 h3 ‹_› ‹_›
  |exact ZR (x:=⟨p,d,b,ns⟩) h1 h2 h3 ‹_› ‹_› ‹_›
  |exact ZS (x:=⟨p,d,b,ns⟩) h1 h2 ‹_› ‹_› ‹_› ‹_›
  |exact ZT (x:=⟨p,d,b,ns⟩) h1 h2 ‹_› ‹_›
  |(have hq:=ZU (x:=⟨p,d,b,ns⟩) h1 ‹_› ‹_›;(try dsimp only at hq);(try simp only[AR]);omega)
  |(have hq:=ZV (show Ae s.sg (Al s.sg _ _) _ _ by assumption);(try dsimp only at hq);(try simp only[AR,PZ]);omega)
  |omega
  |skip)
def Qf(n:Nat):Sig:= {X:=ST×Int×Int×Bool×List Nd,args:=fun x=>[rdG x.1 (xg x)],pre:=fun x=>vP 11 (n+1) x.1 (xg x),Y:=Int×Int×Int×Bool×List Nd,post:=fun x y=>Ae x.1.sg (xg x) (pE x.1.sg (n+1) .value) (yS y),res:=fun x y=> .int .i64 y.1,outs:=fun x y=>[rdG x.1 (yG y.2)],keep:=true}
def Qg(n:Nat)(x:ST×Int×Int×Bool×List Nd):LS:= {ι:=Int×Int×Bool×List Nd×List Int×Nat,inv:=fun i=>vaJ x.1.sg n (xg x) (iG i) i.2.2.2.2.1 i.2.2.2.2.2,regs:=fun i=>[(0,rdG x.1 (iG i)),(4,Ad i.2.2.2.2.1)],als:=[],meas:=fun i=>i.2.2.2.2.2}
theorem a8V(n:Nat)(h:rAll G n):Aq G Tryz.prog 164 (Qf n):=
 vcFun_okP [(180,0,(Hr n)),(166,0,Cr),(163,0,CF),(139,0,Gm),(181,0,(IL n)),(104,0,BR)] [(45,⟨Int,Ba⟩)] false (fun x=>[(5,Qg n x)]) Tryz.func164 rfl (by decide) ⟨h.pick,Hp,II,TA,(ZA n h),Gl,trivial⟩ (fun(x:ST×Int×Int×Bool×List Nd)=>True∧cA (Hr n) [rdG x.1 (xg x)] fun x_1 y=>cA Cr [rdG x_1.1 (yG y.2),.str #[(46:UInt8),(46:UInt8)].toList] fun x_2 y_1=>Aa (!isG x_2.1.sg (xh x_2) (4:Int) x_2.2.2.2.2.2) (rA (Qf n) x [.int .i64 y.1,rdG x_2.1 (xh x_2)]) (∃(x_3:Int),y.1=x_3∧eA (Qg n x) [rdG x_2.1 (xh x_2),Ad [x_3]]∧∀(i:Int×Int×Bool×List Nd×List Int×Nat),vaJ x.1.sg n (xg x) (iG i) i.2.2.2.2.1 i.2.2.2.2.2→cA CF [rdG x.1 (iG i),.str #[(46:UInt8),(46:UInt8)].toList] fun x_4 y=>Aa (isG x_4.1.sg (xh x_4) (4:Int) x_4.2.2.2.2.2) (cA Gm [rdG x_4.1 (Ai x_4.1.sg (xh x_4) x_4.2.2.2.2.2)] fun x_5 y=>cA (IL n) [rdG x_5.1 (Cu x_5.1.sg (xg x_5)),.int .i64 (Da x_5.1.sg (xg x_5))] fun x_6 y=>∃(x_7:Int),y.1=x_7∧∃(zs:List Int),Ad [x_7]=Ad zs∧Bt Ba∧AW (List.length i.2.2.2.2.1+List.length zs) (8:Nat)∧eN (Qg n x) i [rdG x_6.1 (yG y.2),Ad (i.2.2.2.2.1++zs)]) (cA BR [rdG x_4.1 (Ai x_4.1.sg (xh x_4) x_4.2.2.2.2.2),.agg [.int .i64 (10:Int),.str #[].toList,Ad i.2.2.2.2.1,.bool false]] fun x_5 y=>rA (Qf n) x [.int .i64 (Au (xh x_5)),rdG x_5.1 (Ah (xh x_5) {kind:=x_5.2.2.2.2.2.1,text:=x_5.2.2.2.2.2.2.1,kids:=x_5.2.2.2.2.2.2.2.1,blank:=x_5.2.2.2.2.2.2.2.2})]))) (fun x=>by kernel_rfl) fun(x:ST×Int×Int×Bool×List Nd) (hx:vP 11 (n+1) x.1 (xg x))=>(by
 dsimp only[cA,eA,eN,Qg,mbs,Bf,Ad,As,rA,rdG,BR,IL,Cr,Gm,Hr,CF,Qf,Br,sgs,Av,Az,mvL,lnL,mvE,lnE,BA]
 obtain⟨s,p,d,b,ns⟩:=x;dsimp only[xg,xh] at hx ⊢
 obtain⟨⟨h1,h2⟩,h3⟩:=hx
 (repeat' first|(with_reducible first|rfl|exact True.intro|apply AK|apply And.intro|((first|apply AA|apply AI|apply AB|apply AJ)<;>intro _))|(apply Ax<;>intro _)|apply AH|refine Af () ?_ ?_|((first|apply AO|apply AN|apply AM|apply AL|apply AG|apply AF|apply AE|apply AD|apply AC)<;>try dsimp only)|apply Af|(refine Prod.forall.2 ?_;intro _;try dsimp only)|(intro _;try dsimp only))
 all_goals(try dsimp only[xg,xh,yG,yS,iG] at*)
 all_goals(try simp only[CG] at*)
 all_goals first
  |(show Nat;skip)
  |rfl
  |assumption
  |exact ZW (x:=⟨p,d,b,ns⟩) h1 h2 h3
  |exact Dg h1 ‹_›
  |exact ZX (x:=⟨p,d,b,ns⟩) h1 ‹_› ‹_›
  |exact ZY (x:=⟨p,d,b,ns⟩) h1 h2 ‹_› ‹_›
  |exact Qa (x:=⟨p,d,b,ns⟩) h1 ‹_›
  |exact TS (x:=⟨p,d,b,ns⟩) h1 ‹_› ‹_›
  |exact a8S (x:=⟨p,d,b,ns⟩) h1 h3 ‹_› ‹_›
  |exact(a0a (x:=⟨p,d,b,ns⟩) h1 ‹_› ‹_› ‹_›).1
  |exact a0b (x:=⟨p,d,b,ns⟩) h1 ‹_› ‹_›
  |exact a0c (x:=⟨p,d,b,ns⟩) h1 ‹_› ‹_›
  |(have hq:=ZZ h1.1 (show vaJ _ _ _ _ _ _ by assumption);(try simp only[AW,List.length_append,List.length_cons,List.length_nil]);omega)
  |((try simp only[AW,AR,List.length_append,List.length_cons,List.length_nil]);omega)
  |skip
 all_goals first
  |exact(a0a (x:=⟨p,d,b,ns⟩) h1 ‹_› ‹_› ‹_›).2
  |skip)
end Go.My
end
