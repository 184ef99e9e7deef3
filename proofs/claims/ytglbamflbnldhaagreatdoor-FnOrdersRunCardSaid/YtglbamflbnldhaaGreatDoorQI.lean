/- joined -/
import Derived.Test.YtglbamflbnldhaaGreatDoorQH
set_option linter.unusedSimpArgs false
set_option linter.unusedVariables false
section
namespace Go.My
open Go.Eng
theorem a4r{sg:List Sg}{n:Nat}{s:Ps}:pE sg (n+1) .pick s=if 20≤s.deep then none else(pE sg n (.chain 0) (dp s 1)).bind fun p=>
 if isM sg p.2 [63] then(pE sg n .pick (adv p.2)).bind fun a=>(BE sg [58] a.2).bind fun s1=>(pE sg n .pick s1).bind fun b=>(Be ⟨8,[],[p.1,a.1,b.1],false⟩ b.2).map fun q=>(q.1,dp q.2 (-1))
 else some (p.1,dp p.2 (-1)):=rfl
theorem b4C{sg:List Sg}{n l:Nat}{s:Ps}:pE sg (n+1) (.chain l) s=if l=6 then pE sg n .fin s else(pE sg n (.chain (l+1)) s).bind fun p=>Gg sg l (pE sg n (.chain (l+1))) (2*sg.length+4) [] [p.1] p.2:=rfl
theorem Gi{α:Type}{sg:List Sg}{x:Gs}{f:Ps→Option (α×Ps)}{y:α×Gs}(h:Ag sg x f y):gsOk sg y.2:=h.1.1
theorem CX{α:Type}{sg:List Sg}{x:Gs}{f:Ps→Option (α×Ps)}{y:α×Gs}(h:Ag sg x f y):y.2.deep=x.deep∧x.pos≤y.2.pos∧y.2.pos≤sg.length∧(y.2.bad=false→x.bad=false∧x.pos<y.2.pos):=by
 refine⟨h.1.2.1,h.1.2.2.1,h.1.1.1.2,fun hb=>⟨?_,h.2 hb⟩⟩
 cases hx:x.bad with
 |false=>rfl
 |true=>
  have:=h.1.2.2.2.1
  rw[Eb hx,Dn hb] at this;cases this
theorem JR{g:Gs}{x:Nd}:(Am g x).deep=g.deep∧(Am g x).pos=g.pos∧((Am g x).bad=false→g.bad=false):=by
 unfold Am;split
 ·rename_i h;exact⟨rfl,rfl,fun hb=>by simp [Bw] at hb⟩
 ·exact⟨rfl,rfl,fun hb=>hb⟩
theorem SN{sg:List Sg}{x y:Gs}{f:Ps→PR}{w:Nd}(h:restP sg x f y (Be w) 0)(hw:Dm w):BF sg x f (AU y,Am y w):=by
 have h2:=BT (k:=fun a s=>some (a,s)) h (SJ h.1 hw) (fun s _=>by cases Be w s<;>rfl)
 exact Hm h2
theorem SO{sg:List Sg}{x y:Gs}{f:Ps→PR}{w:Nd}{m:List UInt8}(h:restP sg x f y (Bs sg m w) 0)(hw:Dm w):BF sg x f (CT sg y m,CS sg y m w):=by
 have h2:=BT (k:=fun a s=>some (a,s)) h (NY h.1 hw).1 (fun s _=>by cases Bs sg m w s<;>rfl)
 exact Hm h2
theorem b4D{sg:List Sg}{x:Gs}{n:Nat}(h:gsOk sg x)(hd:x.deep≤20):restP sg x (pE sg (n+1) .pick) (gDp (if x.deep=20 then Bw x else x) 1)
 (fun s=>(pE sg n (.chain 0) s).bind fun p=>if isM sg p.2 [63] then(pE sg n .pick (adv p.2)).bind fun a=>(BE sg [58] a.2).bind fun s1=>(pE sg n .pick s1).bind fun b=>(Be ⟨8,[],[p.1,a.1,b.1],false⟩ b.2).map fun q=>(q.1,dp q.2 (-1)) else some (p.1,dp p.2 (-1))) 1:=by
 split
 ·rename_i h20
  have h2:=a4n (d:=0) (g':=pE sg (n+1) .pick) (Dr (f:=pE sg (n+1) .pick) h) (fun s hs=>by
   obtain⟨_,rfl⟩:=EW.1 hs
   rw[a4r,if_pos (by simp only;omega)])
  refine Mh (d:=0) h2 ⟨by simp only[Bw];omega,by simp only[Bw];omega⟩ (fun s hs=> ?_)
  rw[JO] at hs;cases hs
 ·rename_i h20
  refine Mh (d:=0) (Dr h) ⟨by have:=h.2.1.1;omega,by omega⟩ (fun s hs=> ?_)
  obtain⟨_,rfl⟩:=EW.1 hs
  rw[a4r,if_neg (by simp only;omega)]
theorem a4s{sg:List Sg}{x:Gs}{n:Nat}{z:Int×Gs}(h:gsOk sg x)(hd:x.deep≤20)(h1:Ag sg (gDp (if x.deep=20 then Bw x else x) 1) (pE sg n (.chain 0)) z):
 restP sg x (pE sg (n+1) .pick) z.2 (fun s=>if isM sg s [63] then(pE sg n .pick (adv s)).bind fun a=>(BE sg [58] a.2).bind fun s1=>(pE sg n .pick s1).bind fun b=>(Be ⟨8,[],[z.1,a.1,b.1],false⟩ b.2).map fun q=>(q.1,dp q.2 (-1)) else some (z.1,dp s (-1))) 1:=
 BT (k:=fun k s=>if isM sg s [63] then(pE sg n .pick (adv s)).bind fun a=>(BE sg [58] a.2).bind fun s1=>(pE sg n .pick s1).bind fun b=>(Be ⟨8,[],[k,a.1,b.1],false⟩ b.2).map fun q=>(q.1,dp q.2 (-1)) else some (k,dp s (-1))) (b4D h hd) h1.1 (fun _ _=>rfl)
theorem Qf{x:Gs}:(gDp (if x.deep=20 then Bw x else x) 1).pos=x.pos∧(gDp (if x.deep=20 then Bw x else x) 1).deep=x.deep+1∧((gDp (if x.deep=20 then Bw x else x) 1).bad=false→x.bad=false∧x.deep≠20):=by
 split
 ·exact⟨rfl,rfl,fun h=>by simp [gDp,Bw] at h⟩
 ·rename_i h;exact⟨rfl,rfl,fun h2=>⟨h2,h⟩⟩
theorem b4E{sg:List Sg}{x:Gs}{n:Nat}{z:Int×Gs}(h:gsOk sg x)(hd:x.deep≤20)(h1:Ag sg (gDp (if x.deep=20 then Bw x else x) 1) (pE sg n (.chain 0)) z)(hq:isG sg z.2 4 [63]=false):
 Ag sg x (pE sg (n+1) .pick) (z.1,gDp z.2 (-1)):=by
 have h2:=Ed (a4s h hd h1) (g':=fun s=>some (z.1,dp s (-1))) (fun s hs=>by rw[if_neg (by simp [EX hs hq])])
 obtain⟨e1,e2,e3,e4⟩:=CX h1
 obtain⟨p1,p2,p3⟩:= @Qf x
 refine⟨Hm (Mh (e:= -1) h2 ?_ (fun s hs=>rfl)),fun hb=> ?_⟩
 ·have:=h.2.1;omega
 ·have:=e4 hb;show x.pos<z.2.pos;omega
theorem b4F{sg:List Sg}{x:Gs}{n:Nat}{z a b:Int×Gs}(h:gsOk sg x)(hd:x.deep≤20)(h1:Ag sg (gDp (if x.deep=20 then Bw x else x) 1) (pE sg n (.chain 0)) z)(hq:isG sg z.2 4 [63]=true)
 (h2:Ag sg (An z.2) (pE sg n .pick) a) (h3:Ag sg (Aq sg a.2 [58]) (pE sg n .pick) b):
 Ag sg x (pE sg (n+1) .pick) (AU b.2,gDp (Am b.2 ⟨8,[],[z.1,a.1,b.1],false⟩) (-1)):=by
 have k1:=Hn (g':=fun s=>(pE sg n .pick s).bind fun a=>(BE sg [58] a.2).bind fun s1=>(pE sg n .pick s1).bind fun b=>(Be ⟨8,[],[z.1,a.1,b.1],false⟩ b.2).map fun q=>(q.1,dp q.2 (-1)))
  (a4s h hd h1) (by omega) hq (fun s hs ht=>by rw[if_pos (show isM sg s [63]=true from ht)])
 have k2:=BT (k:=fun a s=>(BE sg [58] s).bind fun s1=>(pE sg n .pick s1).bind fun b=>(Be ⟨8,[],[z.1,a,b.1],false⟩ b.2).map fun q=>(q.1,dp q.2 (-1))) k1 h2.1 (fun _ _=>rfl)
 have k3:=HU (g':=fun s1=>(pE sg n .pick s1).bind fun b=>(Be ⟨8,[],[z.1,a.1,b.1],false⟩ b.2).map fun q=>(q.1,dp q.2 (-1))) k2 (fun _ _=>rfl)
 have k4:=BT (k:=fun b s=>(Be ⟨8,[],[z.1,a.1,b],false⟩ s).map fun q=>(q.1,dp q.2 (-1))) k3 h3.1 (fun _ _=>rfl)
 have hw:Dm ⟨8,[],[z.1,a.1,b.1],false⟩:=⟨by simp,by simp⟩
 have k5:=BT (k:=fun k s=>some (k,dp s (-1))) k4 (SJ k4.1 hw) (fun s _=>by cases Be ⟨8,[],[z.1,a.1,b.1],false⟩ s<;>rfl)
 simp only at k5
 obtain⟨d1,d2,d3⟩:= @JR b.2 ⟨8,[],[z.1,a.1,b.1],false⟩
 refine⟨Hm (Mh (e:= -1) k5 ?_ (fun s hs=>rfl)),fun hb=> ?_⟩
 ·have:=k5.2.1;have:=h.2.1;omega
 ·have hb2:=d3 hb
  obtain⟨p1,p2,p3⟩:= @Qf x
  have e1:=CX h1;have e2:=CX h2;have e3:=CX h3
  have e4:=Qa (m:=[58]) (Gi h2)
  have e5:=(Qa (m:=[58]) (Gi h2)).1.2.2.1
  show x.pos<(Am b.2 ⟨8,[],[z.1,a.1,b.1],false⟩).pos
  have ea:(An z.2).pos=z.2.pos+1:=rfl
  have:=e3.2.1
  omega
def KH(sg:List Sg)(n:Nat)(x y:Gs)(ks:List Int)(N:Nat):Prop:=
 restP sg x (pE sg (n+1) .value) y (fun s=>(Fl sg (pE sg n .value) N ks s).bind fun q=>Be ⟨10,[],q.1,false⟩ q.2) 0∧(sg.length:Int)-y.pos<N∧(ks.length:Int)≤y.pos+1∧(y.bad=false→x.pos<y.pos)
theorem b4G{sg:List Sg}{x:Gs}{n:Nat}{z:Int×Gs}(h:gsOk sg x)(h1:Ag sg x (pE sg n .pick) z)(hq:isG sg z.2 4 [46,46]=false):Ag sg x (pE sg (n+1) .value) z:=by
 have k1:=BT (k:=fun k s=>if isM sg s [46,46] then(Fl sg (pE sg n .value) (sg.length+1) [k] s).bind fun q=>Be ⟨10,[],q.1,false⟩ q.2 else some (k,s)) (Dr (f:=pE sg (n+1) .value) h) h1.1 (fun _ _=>rfl)
 have k2:=Ed k1 (g':=fun s=>some (z.1,s)) (fun s hs=>by rw[if_neg (by simp [EX hs hq])])
 exact⟨Hm k2,h1.2⟩
theorem b4H{sg:List Sg}{x:Gs}{n:Nat}{z:Int×Gs}(h:gsOk sg x)(h1:Ag sg x (pE sg n .pick) z)(hq:isG sg z.2 4 [46,46]=true):KH sg n x z.2 [z.1] (sg.length+1):=by
 have k1:=BT (k:=fun k s=>if isM sg s [46,46] then(Fl sg (pE sg n .value) (sg.length+1) [k] s).bind fun q=>Be ⟨10,[],q.1,false⟩ q.2 else some (k,s)) (Dr (f:=pE sg (n+1) .value) h) h1.1 (fun _ _=>rfl)
 have k2:=Ed k1 (g':=fun s=>(Fl sg (pE sg n .value) (sg.length+1) [z.1] s).bind fun q=>Be ⟨10,[],q.1,false⟩ q.2) (fun s hs=>by rw[if_pos (JP hs hq)])
 have:=k2.1.1
 exact⟨k2,by omega,by simp;omega,h1.2⟩
theorem val_go{sg:List Sg}{x y:Gs}{n N:Nat}{ks:List Int}{w:Int×Gs}(hs:sgB sg)(h:KH sg n x y ks N)(hq:isG sg y 4 [46,46]=true)
 (h2:Ag sg (Ec sg (An y)) (Dg sg (pE sg n .value) (En sg (An y))) w):∃M,N=M+1∧KH sg n x w.2 (ks++[w.1]) M:=by
 obtain⟨h1,hN,hk,hb⟩:=h
 obtain⟨hl1,hl⟩:=Dp hq (by omega)
 match N with
 |0=>omega
 |M+1=>
  refine⟨M,rfl,?_⟩
  have k1:=Hn (g':=fun s=>((BS sg s).bind fun p=>(Dg sg (pE sg n .value) p.1 p.2).bind fun q=>Fl sg (pE sg n .value) M (ks++[q.1]) q.2).bind fun q=>Be ⟨10,[],q.1,false⟩ q.2)
   h1 (by omega) hq (fun s hs ht=>by rw[Fl,if_pos (show isM sg s [46,46]=true from ht)])
  have k2:=BT (k:=fun k s=>((Dg sg (pE sg n .value) k s).bind fun q=>Fl sg (pE sg n .value) M (ks++[q.1]) q.2).bind fun q=>Be ⟨10,[],q.1,false⟩ q.2) k1 (SK hs k1.1).1 (fun s _=>by simp only[Option.bind_assoc])
  have k3:=BT (k:=fun k s=>(Fl sg (pE sg n .value) M (ks++[k]) s).bind fun q=>Be ⟨10,[],q.1,false⟩ q.2) k2 h2.1 (fun s _=>by simp only[Option.bind_assoc])
  have e0:(An y).pos≤(Ec sg (An y)).pos:=(SK hs k1.1).1.2.2.1
  have e1:=CX h2
  have ea:(An y).pos=y.pos+1:=rfl
  refine⟨k3,by omega,by simp;omega,fun hb2=> ?_⟩
  have:=h1.2.2.1
  omega
theorem b4I{sg:List Sg}{x y:Gs}{n N:Nat}{ks:List Int}(h:KH sg n x y ks N)(hq:isG sg y 4 [46,46]=false)(hs:sgB sg):Ag sg x (pE sg (n+1) .value) (AU y,Am y ⟨10,[],ks,false⟩):=by
 obtain⟨h1,hN,hk,hb⟩:=h
 have hp:=h1.1.1
 match N with
 |0=>omega
 |M+1=>
  have k1:=Ed h1 (g':=Be ⟨10,[],ks,false⟩) (fun s hs=>by rw[Fl,if_neg (by simp [EX hs hq])];rfl)
  have:=hs.1
  refine⟨SN k1 ⟨by simp,by simp only;omega⟩,fun hb2=> ?_⟩
  obtain⟨d1,d2,d3⟩:= @JR y ⟨10,[],ks,false⟩
  simp only[d2];exact hb (d3 hb2)
theorem a4t{sg:List Sg}{one:Ps→PR}{m:List UInt8}{a:List Int}:∀(n:Nat) (ks:List Int) (s:Ps),Bx sg one m n (a++ks) s=(Bx sg one m n ks s).map fun p=>(a++p.1,p.2)
 |0,ks,s=>rfl
 |n+1,ks,s=>by
  rw[Bx,Bx]
  split
  ·rfl
  ·cases one s with
   |none=>rfl
   |some p=>
    simp only[Option.bind_some]
    split
    ·rw[List.append_assoc,a4t n (ks++[p.1])]
    ·simp
def Jk(sg:List Sg)(one:Ps→PR)(m:List UInt8)(x y:Gs)(ks:List Int)(N:Nat):Prop:=
 restP sg x (Bx sg one m (sg.length+1) []) y (Bx sg one m N ks) 0∧(sg.length:Int)-y.pos<N∧(ks.length:Int)≤y.pos
theorem b4J{sg:List Sg}{one:Ps→PR}{m:List UInt8}{x:Gs}(h:gsOk sg x):Jk sg one m x x [] (sg.length+1):=by
 have:=h.1
 exact⟨Dr h,by omega,by simp;omega⟩
theorem b4K{sg:List Sg}{one:Ps→PR}{m:List UInt8}{x y:Gs}{ks:List Int}{N:Nat}(h:Jk sg one m x y ks N)(hb:y.bad=true):BF sg x (Bx sg one m (sg.length+1) []) (ks,y):=Qe h.1 hb
theorem b4L{sg:List Sg}{one:Ps→PR}{m:List UInt8}{x y:Gs}{ks:List Int}{N:Nat}(h:Jk sg one m x y ks N)(hq:isG sg y 4 m=true):BF sg x (Bx sg one m (sg.length+1) []) (ks,y):=by
 obtain⟨h1,hN,hk⟩:=h
 have:=h1.1.1
 match N with
 |0=>omega
 |M+1=>exact Hm (Ed h1 (g':=fun s=>some (ks,s)) (fun s hs=>b4z (JP hs hq)))
theorem a4u{sg:List Sg}{one:Ps→PR}{m:List UInt8}{x y:Gs}{ks:List Int}{M:Nat}{z:Int×Gs}(h:Jk sg one m x y ks (M+1))(hq:isG sg y 4 m=false)(hz:Ag sg y one z):
 restP sg x (Bx sg one m (sg.length+1) []) z.2 (fun s=>if isM sg s [44] then Bx sg one m M (ks++[z.1]) (adv s) else some (ks++[z.1],s)) 0:=by
 have k1:=Ed h.1 (g':=fun s=>(one s).bind fun p=>if isM sg p.2 [44] then Bx sg one m M (ks++[p.1]) (adv p.2) else some (ks++[p.1],p.2)) (fun s hs=>b4A (EX hs hq))
 exact BT (k:=fun k s=>if isM sg s [44] then Bx sg one m M (ks++[k]) (adv s) else some (ks++[k],s)) k1 hz.1 (fun _ _=>rfl)
theorem a4v{sg:List Sg}{one:Ps→PR}{m:List UInt8}{x y:Gs}{ks:List Int}{N:Nat}(h:Jk sg one m x y ks N):∃M,N=M+1:=by
 obtain⟨h1,hN,hk⟩:=h
 have:=h1.1.1
 match N with
 |0=>omega
 |M+1=>exact⟨M,rfl⟩
theorem b4M{sg:List Sg}{one:Ps→PR}{m:List UInt8}{x y:Gs}{ks:List Int}{N:Nat}{z:Int×Gs}(h:Jk sg one m x y ks N)(hq:isG sg y 4 m=false)(hz:Ag sg y one z)(hc:isG sg z.2 4 [44]=false):
 BF sg x (Bx sg one m (sg.length+1) []) (ks++[z.1],z.2):=by
 obtain⟨M,rfl⟩:=a4v h
 exact Hm (Ed (a4u h hq hz) (g':=fun s=>some (ks++[z.1],s)) (fun s hs=>by rw[if_neg (by simp [EX hs hc])]))
theorem b4N{sg:List Sg}{one:Ps→PR}{m:List UInt8}{x y:Gs}{ks:List Int}{N:Nat}{z:Int×Gs}(h:Jk sg one m x y ks N)(hq:isG sg y 4 m=false)(hz:Ag sg y one z)(hc:isG sg z.2 4 [44]=true):
 ∃M,N=M+1∧Jk sg one m x (An z.2) (ks++[z.1]) M:=by
 obtain⟨M,rfl⟩:=a4v h
 have k1:=Hn (g':=Bx sg one m M (ks++[z.1])) (a4u h hq hz) (by omega) hc (fun s hs ht=>by rw[if_pos (show isM sg s [44]=true from ht)])
 have e:=CX hz
 obtain⟨h1,hN,hk⟩:=h
 refine⟨M,rfl,k1,?_,?_⟩
 ·simp only[An];omega
 ·simp only[An,List.length_append,List.length_cons,List.length_nil];omega
theorem b4O{sg:List Sg}{val:Ps→PR}{x:Gs}{k:Int}{l:List Int×Gs}(hx:gsOk sg x)(hl:BF sg (Aq sg x [40]) (Bx sg val [41] (sg.length+1) []) l)(hll:l.1.length≤3001):
 Ag sg x (Dg sg val k) (CT sg l.2 [41],CS sg l.2 [41] ⟨5,[],k::l.1,false⟩):=by
 have k1:=HU (g':=fun s=>(Bx sg val [41] (sg.length+1) [k] s).bind fun p=>Bs sg [41] ⟨5,[],p.1,false⟩ p.2) (Dr (f:=Dg sg val k) hx) (fun _ _=>rfl)
 have k2:=BT (k:=fun ks s=>Bs sg [41] ⟨5,[],k::ks,false⟩ s) k1 hl (fun s _=>by
  rw[show([k]:List Int)=[k]++[] from rfl,a4t]
  cases Bx sg val [41] (sg.length+1) [] s<;>rfl)
 have hw:Dm ⟨5,[],k::l.1,false⟩:=⟨by simp,by simp;omega⟩
 refine⟨SO k2 hw,fun hb=> ?_⟩
 have:=(NY (m:=[41]) hl.1 hw).2 hb
 have e1:=hl.2.2.1
 have e2:=(Qa (m:=[40]) hx).1.2.2.1
 simp only at this ⊢
 omega
def chF(sg:List Sg)(n l N:Nat)(t:List UInt8)(ks:List Int):Ps→PR:=Gg sg l (pE sg n (.chain (l+1))) N t ks
def chO(sg:List Sg)(n l:Nat)(x y:Gs)(k:Int)(N:Nat):Prop:=
 restP sg x (pE sg (n+1) (.chain l)) y (chF sg n l N [] [k]) 0∧2*((sg.length:Int)-y.pos)+3≤N∧(y.bad=false→x.pos<y.pos)
def chN(sg:List Sg)(n l:Nat)(m:List UInt8)(x y:Gs)(ks:List Int)(N:Nat):Prop:=
 restP sg x (pE sg (n+1) (.chain l)) y (chF sg n l N m ks) 0∧(2*((sg.length:Int)-y.pos)+4≤N∨(isG sg y 4 m=true∧2*((sg.length:Int)-y.pos)+3≤N))∧(ks.length:Int)≤y.pos+1∧(y.bad=false→x.pos<y.pos)
theorem b4P{sg:List Sg}{x:Gs}{n:Nat}{z:Int×Gs}(h1:Ag sg x (pE sg n .fin) z):Ag sg x (pE sg (n+1) (.chain 6)) z:=h1
theorem b4Q{sg:List Sg}{x:Gs}{n l:Nat}{z:Int×Gs}(h:gsOk sg x)(hl:l≠6)(h1:Ag sg x (pE sg n (.chain (l+1))) z):chO sg n l x z.2 z.1 (2*sg.length+4):=by
 have k1:=Ed (Dr (f:=pE sg (n+1) (.chain l)) h) (g':=fun s=>(pE sg n (.chain (l+1)) s).bind fun p=>Gg sg l (pE sg n (.chain (l+1))) (2*sg.length+4) [] [p.1] p.2) (fun s _=>by rw[b4C,if_neg hl])
 have k2:=BT (k:=fun k s=>chF sg n l (2*sg.length+4) [] [k] s) k1 h1.1 (fun _ _=>rfl)
 have:=k2.1.1
 exact⟨k2,by omega,h1.2⟩
def Ds(sg:List Sg)(l:Nat)(g:Gs):List UInt8:=((BJ l).find? fun m=>isG sg g 4 m).getD []
theorem KI{sg:List Sg}{l:Nat}{g:Gs}{s:Ps}(hs:pur g=some s):IA sg l s=Ds sg l g:=by
 unfold IA Ds
 congr 2
 funext m
 exact(SF hs).symm
theorem chMG_t{sg:List Sg}{l:Nat}{g:Gs}(hb:g.bad=true):Ds sg l g=[]:=by
 unfold Ds
 rw[List.find?_eq_none.2 (by intro m _;rw[a4h (Eb hb) (by omega)];simp)];rfl
theorem b4R{l:Nat}{m:List UInt8}(h:m∈BJ l):m≠[]:=by
 unfold BJ at h
 split at h<;>simp at h<;>(first|(subst h;simp)|(rcases h with rfl|rfl<;>simp))
theorem KJ{sg:List Sg}{l:Nat}{g:Gs}(h:Ds sg l g≠[]):isG sg g 4 (Ds sg l g)=true∧Ds sg l g∈BJ l:=by
 unfold Ds at h ⊢
 cases hf:(BJ l).find? fun m=>isG sg g 4 m with
 |none=>rw[hf] at h;exact(h rfl).elim
 |some m=>exact⟨by simpa using List.find?_some hf,by simpa using List.mem_of_find?_eq_some hf⟩
theorem b4S{sg:List Sg}{g:Gs}{m m':List UInt8}(h:isG sg g 4 m=true)(h':isG sg g 4 m'=true):m=m':=by
 simp [isG] at h h';rw[←h.2,h'.2]
theorem b4T{sg:List Sg}{l:Nat}{g:Gs}{m:List UInt8}(hm:m∈BJ l)(h:isG sg g 4 m=true):Ds sg l g=m:=by
 unfold Ds
 cases hf:(BJ l).find? fun m=>isG sg g 4 m with
 |none=>exact(List.find?_eq_none.1 hf m hm (by simpa using h)).elim
 |some m'=>exact(b4S (by simpa using List.find?_some hf) h)
def enI(sg:List Sg)(n:Nat)(x y:Gs)(k:Int)(N:Nat):Prop:=
 restP sg x (pE sg (n+1) .fin) y (FM sg (pE sg n .value) N k) 0∧(y.bad=false→(sg.length:Int)-y.pos<N)∧(y.bad=false→x.pos<y.pos)
theorem b4U{sg:List Sg}{x:Gs}{n:Nat}{z:Int×Gs}(h:gsOk sg x)(h1:Ag sg x (pE sg n .base) z):enI sg n x z.2 z.1 (sg.length+1):=by
 have k1:=BT (k:=fun k s=>FM sg (pE sg n .value) (sg.length+1) k s) (Dr (f:=pE sg (n+1) .fin) h) h1.1 (fun _ _=>rfl)
 have:=k1.1.1
 exact⟨k1,fun _=>by omega,h1.2⟩
theorem Qg{sg:List Sg}{n:Nat}{x y:Gs}{k:Int}{N:Nat}(h:enI sg n x y k N)(hb:y.bad=false):∃M,N=M+1:=by
 have h1:=h.1.1.1;have h2:=h.2.1 hb
 match N with
 |0=>omega
 |M+1=>exact⟨M,rfl⟩
theorem b4V{sg:List Sg}{n:Nat}{x y:Gs}{k a:Int}{N:Nat}(h:enI sg n x y k N)(hb:y.bad=true):Ag sg x (pE sg (n+1) .fin) (a,y):=
 ⟨Qe h.1 hb,fun hb2=>by simp only at hb2;rw[hb] at hb2;cases hb2⟩
theorem b4W{sg:List Sg}{n:Nat}{x y:Gs}{k:Int}{N:Nat}{w:Int×Gs}(h:enI sg n x y k N)(hq:isG sg y 4 [40]=true)(hw:Ag sg y (Dg sg (pE sg n .value) k) w):
 ∃M,N=M+1∧enI sg n x w.2 w.1 M:=by
 have hl:=Dp hq (by omega)
 obtain⟨M,rfl⟩:=Qg h hl.1
 obtain⟨h1,hN,hb⟩:=h
 have k1:=Ed h1 (g':=fun s=>(Dg sg (pE sg n .value) k s).bind fun p=>FM sg (pE sg n .value) M p.1 p.2) (fun s hs=>by rw[FM,if_pos (JP hs hq)])
 have k2:=BT (k:=fun k s=>FM sg (pE sg n .value) M k s) k1 hw.1 (fun _ _=>rfl)
 have e:=CX hw
 have hN2:=hN hl.1;have hb2:=hb hl.1
 exact⟨M,rfl,k2,fun hwb=>by have:=e.2.2.2 hwb;omega,fun hwb=>by have:=e.2.2.2 hwb;omega⟩
theorem b4X{sg:List Sg}{n:Nat}{x y:Gs}{k:Int}{N:Nat}(hs:sgB sg)(h:enI sg n x y k N)(hp:isG sg y 4 [40]=false)(hq:isG sg y 4 [46]=true)(hn:nmG sg (An y) 0=true):
 ∃M,N=M+1∧enI sg n x (Dq (Am (An y) ⟨6,(pkG sg (An y) 0).text,[k],false⟩)) (AU (An y)) M:=by
 have hl:=Dp hq (by omega)
 obtain⟨M,rfl⟩:=Qg h hl.1
 obtain⟨h1,hN,hb⟩:=h
 have hw:Dm ⟨6,(pkG sg (An y) 0).text,[k],false⟩:=⟨Qc hs,by simp⟩
 have hn2:=SG hn
 have k1:=Hn (g':=fun s=>(Gf (Be ⟨6,(pkG sg (An y) 0).text,[k],false⟩ s)).bind fun p=>FM sg (pE sg n .value) M p.1 p.2) h1 (by omega) hq (fun s hs ht=>by
  obtain⟨hb0,rfl⟩:=EW.1 hs
  rw[FM,if_neg (by simp [EX hs hp]),if_pos (show isM sg _ [46]=true from ht)]
  have e1:DG sg (y.pos+1)=true:=by
   have:=Mf (sg:=sg) (n:=0) (g:=An y) (Dn hn2.1)
   rw[hn] at this;simpa [An] using this.symm
  have e2:(pkG sg (An y) 0)=sgO sg (y.pos+1):=by rw[JN hn2.1];simp [An]
  rw[if_pos e1,e2])
 have hg:=Xc k1.1 hw (fun _=>by omega)
 have k2:=BT (k:=fun k s=>FM sg (pE sg n .value) M k s) k1 hg.1 (fun _ _=>rfl)
 have e:=CX hg
 have hN2:=hN hl.1;have hb2:=hb hl.1
 simp only[An] at e
 exact⟨M,rfl,k2,fun hwb=>by have:=e.2.2.2 hwb;simp only[An] at*;omega,fun hwb=>by have:=e.2.2.2 hwb;simp only[An] at*;omega⟩
theorem b4Y{sg:List Sg}{n:Nat}{x y:Gs}{k a:Int}{N:Nat}(h:enI sg n x y k N)(hp:isG sg y 4 [40]=false)(hq:isG sg y 4 [46]=true)(hn:nmG sg (An y) 0=false):
 Ag sg x (pE sg (n+1) .fin) (a,Bw (An y)):=by
 have hl:=Dp hq (by omega)
 obtain⟨M,rfl⟩:=Qg h hl.1
 obtain⟨h1,hN,hb⟩:=h
 have k1:=Hn (g':=fun _=>none) h1 (by omega) hq (fun s hs ht=>by
  obtain⟨hb0,rfl⟩:=EW.1 hs
  rw[FM,if_neg (by simp [EX hs hp]),if_pos (show isM sg _ [46]=true from ht)]
  have e1:DG sg (y.pos+1)=false:=by
   have:=Mf (sg:=sg) (n:=0) (g:=An y) (Dn (by simpa [An] using hb0))
   rw[hn] at this;simpa [An] using this.symm
  rw[if_neg (by simp [e1])])
 exact⟨a4m k1 (fun _ _=>rfl),fun hb2=>by simp [Bw] at hb2⟩
theorem b4Z{sg:List Sg}{n:Nat}{x y:Gs}{k:Int}{N:Nat}(h:enI sg n x y k N)(hb:y.bad=false)(hp:isG sg y 4 [40]=false)(hq:isG sg y 4 [46]=false):Ag sg x (pE sg (n+1) .fin) (k,y):=by
 obtain⟨M,rfl⟩:=Qg h hb
 exact⟨Hm (Ed h.1 (g':=fun s=>some (k,s)) (fun s hs=>by rw[FM,if_neg (by simp [EX hs hp]),if_neg (by simp [EX hs hq])])),h.2.2⟩
theorem SP{sg:List Sg}{g:Gs}{s:Ps}(hs:pur g=some s):(pkG sg g 0).kind=(sgO sg s.pos).kind:=by
 obtain⟨h,rfl⟩:=EW.1 hs
 rw[JN h];simp
theorem SQ{sg:List Sg}{g:Gs}(h:(pkG sg g 0).kind≠0):g.bad=false∧g.pos<sg.length:=by
 unfold pkG at h
 split at h
 ·simp [ED] at h
 ·rename_i hh;simp only[Int.add_zero] at hh;exact⟨by cases hb:g.bad<;>simp_all,by omega⟩
theorem a4w{sg:List Sg}{x:Gs}{n:Nat}(hs:sgB sg)(h:gsOk sg x)(hk:(pkG sg x 0).kind=1):Ag sg x (pE sg (n+1) .base) (En sg x,Ec sg x):=by
 obtain⟨a,b⟩:=SK hs h
 have e:(pur x).bind (pE sg (n+1) .base)=(pur x).bind (BS sg):=by
  cases hp:pur x with
  |none=>rfl
  |some s=>simp only[Option.bind_some];rw[pE,if_pos (by rw[←SP hp];exact hk)]
 obtain⟨a1,a2,a3,a4,a5⟩:=a
 exact⟨⟨a1,a2,a3,by rw[e];exact a4,by rw[e];exact a5⟩,b⟩
theorem b5a{sg:List Sg}{x:Gs}{n:Nat}{k:Int}(hs:sgB sg)(h:gsOk sg x)(hk:(pkG sg x 0).kind=k)(hk2:k=2∨k=3):Ag sg x (pE sg (n+1) .base) (AU x,EE sg x k false):=by
 have hl:=SQ (sg:=sg) (g:=x) (by rw[hk];omega)
 obtain⟨a,b⟩:=Qd (k:=k) (b:=false) hs h (fun _=>hl.2)
 have e:(pur x).bind (pE sg (n+1) .base)=(pur x).bind (FL sg k false):=by
  cases hp:pur x with
  |none=>rfl
  |some s=>
   simp only[Option.bind_some]
   have:=SP (sg:=sg) hp
   rcases hk2 with rfl|rfl
   ·rw[pE,if_neg (by omega),if_pos (by omega)]
   ·rw[pE,if_neg (by omega),if_neg (by omega),if_pos (by omega)]
 obtain⟨a1,a2,a3,a4,a5⟩:=a
 exact⟨⟨a1,a2,a3,by rw[e];exact a4,by rw[e];exact a5⟩,b⟩
theorem Qh{sg:List Sg}{x:Gs}{s:Ps}{n:Nat}(hs:pur x=some s)(h1:(pkG sg x 0).kind≠1)(h2:(pkG sg x 0).kind≠2)(h3:(pkG sg x 0).kind≠3):pE sg (n+1) .base s=
 if isM sg s [91] then(Bx sg (pE sg n .value) [93] (sg.length+1) [] (adv s)).bind fun p=>Bs sg [93] ⟨4,[],p.1,false⟩ p.2
 else if isM sg s [40]&&KF sg s then(Bx sg (BS sg) [41] (sg.length+1) [] (adv s)).bind fun p=>(BE sg [41] p.2).bind fun s1=>(BE sg [61,62] s1).bind fun s2=>(pE sg n .pick s2).bind fun q=>Be ⟨9,[],p.1++[q.1],false⟩ q.2
 else if isM sg s [40] then(pE sg n .value (adv s)).bind fun p=>Bs sg [41] ⟨11,[],[p.1],false⟩ p.2
 else none:=by
 have:=SP (sg:=sg) hs
 rw[pE,if_neg (by omega),if_neg (by omega),if_neg (by omega)]
theorem b5b{sg:List Sg}{x:Gs}{n:Nat}{l:List Int×Gs}(h:gsOk sg x)(h1:(pkG sg x 0).kind≠1)(h2:(pkG sg x 0).kind≠2)(h3:(pkG sg x 0).kind≠3)(hq:isG sg x 4 [91]=true)
 (hl:BF sg (An x) (Bx sg (pE sg n .value) [93] (sg.length+1) []) l) (hll:l.1.length≤3001):
 Ag sg x (pE sg (n+1) .base) (CT sg l.2 [93],CS sg l.2 [93] ⟨4,[],l.1,false⟩):=by
 have k1:=Hn (g':=fun s=>(Bx sg (pE sg n .value) [93] (sg.length+1) [] s).bind fun p=>Bs sg [93] ⟨4,[],p.1,false⟩ p.2) (Dr (f:=pE sg (n+1) .base) h) (by omega) hq
  (fun s hs ht=>by rw[Qh hs h1 h2 h3,if_pos (show isM sg s [91]=true from ht)])
 have k2:=BT (k:=fun ks s=>Bs sg [93] ⟨4,[],ks,false⟩ s) k1 hl (fun _ _=>rfl)
 have hw:Dm ⟨4,[],l.1,false⟩:=⟨by simp,by simp only;omega⟩
 refine⟨SO k2 hw,fun hb=> ?_⟩
 have:=(NY (m:=[93]) hl.1 hw).2 hb
 have e1:=hl.2.2.1
 simp only[An] at this e1 ⊢
 omega
theorem b5c{sg:List Sg}{x:Gs}{n:Nat}{z:Int×Gs}(h:gsOk sg x)(h1:(pkG sg x 0).kind≠1)(h2:(pkG sg x 0).kind≠2)(h3:(pkG sg x 0).kind≠3)(hn:isG sg x 4 [91]=false)(hq:isG sg x 4 [40]=true)
 (ha:∀s,pur x=some s→KF sg s=false) (hz:Ag sg (An x) (pE sg n .value) z):
 Ag sg x (pE sg (n+1) .base) (CT sg z.2 [41],CS sg z.2 [41] ⟨11,[],[z.1],false⟩):=by
 have k1:=Hn (g':=fun s=>(pE sg n .value s).bind fun p=>Bs sg [41] ⟨11,[],[p.1],false⟩ p.2) (Dr (f:=pE sg (n+1) .base) h) (by omega) hq
  (fun s hs ht=>by rw[Qh hs h1 h2 h3,if_neg (by simp [EX hs hn]),if_neg (by simp [ha s hs]),if_pos (show isM sg s [40]=true from ht)])
 have k2:=BT (k:=fun k s=>Bs sg [41] ⟨11,[],[k],false⟩ s) k1 hz.1 (fun _ _=>rfl)
 have hw:Dm ⟨11,[],[z.1],false⟩:=⟨by simp,by simp⟩
 refine⟨SO k2 hw,fun hb=> ?_⟩
 have:=(NY (m:=[41]) hz.1.1 hw).2 hb
 have e1:=hz.1.2.2.1
 simp only[An] at this e1 ⊢
 omega
theorem b5d{sg:List Sg}{x:Gs}{n:Nat}{a:Int}(h:gsOk sg x)(h1:(pkG sg x 0).kind≠1)(h2:(pkG sg x 0).kind≠2)(h3:(pkG sg x 0).kind≠3)(hn:isG sg x 4 [91]=false)(hq:isG sg x 4 [40]=false):
 Ag sg x (pE sg (n+1) .base) (a,Bw x):=
 ⟨a4m (Dr h) (fun s hs=>by rw[Qh hs h1 h2 h3,if_neg (by simp [EX hs hn]),if_neg (by simp [EX hs hq]),if_neg (by simp [EX hs hq])]),fun hb=>by simp [Bw] at hb⟩
def fnR(sg:List Sg)(n:Nat)(s:Ps):PR:=(BE sg [40] s).bind fun s0=>(Bx sg (BS sg) [41] (sg.length+1) [] s0).bind fun p=>(BE sg [41] p.2).bind fun s1=>(BE sg [61,62] s1).bind fun s2=>(pE sg n .pick s2).bind fun q=>Be ⟨9,[],p.1++[q.1],false⟩ q.2
theorem b5e{sg:List Sg}{x:Gs}{n:Nat}{l:List Int×Gs}{z:Int×Gs}(h:gsOk sg x)(hl:BF sg (Aq sg x [40]) (Bx sg (BS sg) [41] (sg.length+1) []) l)(hll:l.1.length≤3001)
 (hz:Ag sg (Aq sg (Aq sg l.2 [41]) [61,62]) (pE sg n .pick) z):Ag sg x (fnR sg n) (AU z.2,Am z.2 ⟨9,[],l.1++[z.1],false⟩):=by
 have k1:=HU (g':=fun s0=>(Bx sg (BS sg) [41] (sg.length+1) [] s0).bind fun p=>(BE sg [41] p.2).bind fun s1=>(BE sg [61,62] s1).bind fun s2=>(pE sg n .pick s2).bind fun q=>Be ⟨9,[],p.1++[q.1],false⟩ q.2) (Dr (f:=fnR sg n) h) (fun _ _=>rfl)
 have k2:=BT (k:=fun ks s=>(BE sg [41] s).bind fun s1=>(BE sg [61,62] s1).bind fun s2=>(pE sg n .pick s2).bind fun q=>Be ⟨9,[],ks++[q.1],false⟩ q.2) k1 hl (fun _ _=>rfl)
 have k3:=HU (g':=fun s1=>(BE sg [61,62] s1).bind fun s2=>(pE sg n .pick s2).bind fun q=>Be ⟨9,[],l.1++[q.1],false⟩ q.2) k2 (fun _ _=>rfl)
 have k4:=HU (g':=fun s2=>(pE sg n .pick s2).bind fun q=>Be ⟨9,[],l.1++[q.1],false⟩ q.2) k3 (fun _ _=>rfl)
 have k5:=BT (k:=fun k s=>Be ⟨9,[],l.1++[k],false⟩ s) k4 hz.1 (fun _ _=>rfl)
 have hw:Dm ⟨9,[],l.1++[z.1],false⟩:=⟨by simp,by simp;omega⟩
 refine⟨SN k5 hw,fun hb=> ?_⟩
 obtain⟨d1,d2,d3⟩:= @JR z.2 ⟨9,[],l.1++[z.1],false⟩
 have e1:=CX hz
 have e2:=k4.2.2.1
 have:=e1.2.2.2 (d3 hb)
 simp only[d2];omega
end Go.My
end
section
namespace Go.My
open Go.Eng Go.Proofs
variable {G:GInv}
abbrev iG {α:Type} (i:Int×Int×Bool×List Nd×α×Nat):Gs:=⟨i.1,i.2.1,i.2.2.1,i.2.2.2.1⟩
def vP(r n:Nat)(s:ST)(g:Gs):Prop:=(rOk s g∧g.deep≤20)∧12*((s.sg.length:Int)-g.pos)+r≤n
def wP(r n:Nat)(s:ST)(g:Gs):Prop:=(rOk s g∧(g.bad=false→g.deep≤20))∧12*((s.sg.length:Int)-g.pos)+r≤n
def b5f(n:Nat):Sig:= {X:=ST×Int×Int×Bool×List Nd,args:=fun x=>[rdG x.1 (xg x)],pre:=fun x=>vP 11 n x.1 (xg x),Y:=Int×Int×Int×Bool×List Nd,post:=fun x y=>Ag x.1.sg (xg x) (pE x.1.sg n .value) (yS y),res:=fun x y=> .int .i64 y.1,outs:=fun x y=>[rdG x.1 (yG y.2)],keep:=true}
def b5g(n:Nat):Sig:= {X:=ST×Int×Int×Bool×List Nd,args:=fun x=>[rdG x.1 (xg x)],pre:=fun x=>vP 10 n x.1 (xg x),Y:=Int×Int×Int×Bool×List Nd,post:=fun x y=>Ag x.1.sg (xg x) (pE x.1.sg n .pick) (yS y),res:=fun x y=> .int .i64 y.1,outs:=fun x y=>[rdG x.1 (yG y.2)],keep:=true}
def b5h(n:Nat):Sig:= {X:=ST×Int×Int×Bool×List Nd×Int,args:=fun x=>[rdG x.1 (xh x),.int .i64 x.2.2.2.2.2],pre:=fun x=>wP (9-x.2.2.2.2.2.toNat) n x.1 (xh x)∧0≤x.2.2.2.2.2∧x.2.2.2.2.2≤6,Y:=Int×Int×Int×Bool×List Nd,post:=fun x y=>Ag x.1.sg (xh x) (pE x.1.sg n (.chain x.2.2.2.2.2.toNat)) (yS y),res:=fun x y=> .int .i64 y.1,outs:=fun x y=>[rdG x.1 (yG y.2),.top],keep:=true}
def b5i(n:Nat):Sig:= {X:=ST×Int×Int×Bool×List Nd,args:=fun x=>[rdG x.1 (xg x)],pre:=fun x=>wP 2 n x.1 (xg x),Y:=Int×Int×Int×Bool×List Nd,post:=fun x y=>Ag x.1.sg (xg x) (pE x.1.sg n .fin) (yS y),res:=fun x y=> .int .i64 y.1,outs:=fun x y=>[rdG x.1 (yG y.2)],keep:=true}
def b5j(n:Nat):Sig:= {X:=ST×Int×Int×Bool×List Nd,args:=fun x=>[rdG x.1 (xg x)],pre:=fun x=>wP 1 n x.1 (xg x),Y:=Int×Int×Int×Bool×List Nd,post:=fun x y=>Ag x.1.sg (xg x) (pE x.1.sg n .base) (yS y),res:=fun x y=> .int .i64 y.1,outs:=fun x y=>[rdG x.1 (yG y.2)],keep:=true}
structure rAll (G:GInv) (n:Nat):Prop where
 val:Aj G Go.Proofs.Tryz.prog 197 (b5f n)
 pick:Aj G Go.Proofs.Tryz.prog 218 (b5g n)
 chain:Aj G Go.Proofs.Tryz.prog 233 (b5h n)
 fin:Aj G Go.Proofs.Tryz.prog 240 (b5i n)
 base:Aj G Go.Proofs.Tryz.prog 245 (b5j n)
theorem Oc{I:Nat→Prop}{N:Nat}(h:∃M,N=M+1∧I M):I (N-1)∧N-1<N:=by
 obtain⟨M,rfl,h⟩:=h
 exact⟨by simpa using h,by omega⟩
theorem DI{sg:List Sg}{g:Gs}{m:List UInt8}(h:isG sg g 4 m=false):Aw sg g m=g:=by simp [Aw,h]
theorem EH{sg:List Sg}{g:Gs}{m:List UInt8}(h:isG sg g 4 m=true):Aw sg g m=An g:=by simp [Aw,h]
theorem b5k{α:Type}{sg:List Sg}{x:Gs}{f:Ps→Option (α×Ps)}{y:α×Gs}(h:Ag sg x f y)(hb:y.2.bad=false):x.bad=false:=((CX h).2.2.2 hb).1
abbrev Oe (sg:List Sg) (one:Ps→PR) (m:List UInt8) (x y:Gs) (ks:List Int) (N:Nat):Prop:=Jk sg one m x y ks N∧(y.bad=false→x.bad=false)
theorem b5l{sg:List Sg}{one:Ps→PR}{m:List UInt8}{x y:Gs}{ks:List Int}{N:Nat}{z:Int×Gs}(h:Oe sg one m x y ks N)(hz:Ag sg y one z)(hq:isG sg y 4 m=false)(hc:isG sg z.2 4 [44]=false):
 BF sg x (Bx sg one m (sg.length+1) []) (ks++[z.1],Aw sg z.2 [44]):=by rw[DI hc];exact b4M h.1 hq hz hc
theorem b5m{sg:List Sg}{one:Ps→PR}{m:List UInt8}{x y:Gs}{ks:List Int}{N:Nat}{z:Int×Gs}(h:Oe sg one m x y ks N)(hz:Ag sg y one z)(hq:isG sg y 4 m=false)(hc:isG sg z.2 4 [44]=true):
 Oe sg one m x (Aw sg z.2 [44]) (ks++[z.1]) (N-1)∧N-1<N:=by
 rw[EH hc]
 obtain⟨a,b⟩:=Oc (b4N h.1 hq hz hc)
 exact⟨⟨a,fun hb=>h.2 (b5k hz hb)⟩,b⟩
theorem GD(g:Gs):(⟨g.pos,g.deep,g.bad,g.nodes⟩:Gs)=g:=rfl
theorem b5n{s:ST}{one:Ps→PR}{m:List UInt8}{x y:Gs}{ks:List Int}{N:Nat}(hr:sgB s.sg)(h:Oe s.sg one m x y ks N):ks.length≤3000:=by
 have h1:=h.1.2.2;have h2:=h.1.1.1.1.2;have h3:=hr.1;omega
theorem b5o{s:ST}{one:Ps→PR}{m:List UInt8}{x y:Gs}{ks:List Int}{N n:Nat}(hr:sgB s.sg)(h:Oe s.sg one m x y ks N)(hb:y.bad=false)(hd:x.bad=false→x.deep≤20)(hn:12*((s.sg.length:Int)-x.pos)+11≤n):vP 11 n s y:=by
 have h1:=h.1.1;have h2:=hd (h.2 hb);have h3:=h1.2.1;have h4:=h1.2.2.1
 exact⟨⟨⟨hr,h1.1⟩,by omega⟩,by omega⟩
theorem b5p{s:ST}{one:Ps→PR}{m:List UInt8}{x y:Gs}{ks:List Int}{N:Nat}(hr:sgB s.sg)(h:Oe s.sg one m x y ks N):rOk s y:=⟨hr,h.1.1.1⟩
theorem b5q{sg:List Sg}{x:Gs}{one:Ps→PR}{k:Int}{l:List Int×Gs}(hx:gsOk sg x)(h:BF sg (Aq sg x [40]) (Bx sg one [41] (sg.length+1) []) l∧l.1.length≤3001):
 Ag sg x (Dg sg one k) (CT sg l.2 [41],CS sg l.2 [41] ⟨5,[],[k]++l.1,false⟩):=b4O hx h.1 h.2
attribute [local irreducible] pE Bx Dg fnR Ag BF gsOk Aq CS Am Dq EE Aw Ec En AU CT pkG isG nmG
end Go.My
end
section
namespace Go.My
open Go.Eng Go.Proofs
variable {G:GInv}
theorem Qi{sg:List Sg}{f:Ps→PR}{x:Gs}{y:Int×Gs}(h:Ag sg x f y)(hb:x.bad=false→x.deep≤20):y.2.bad=false→y.2.deep≤20:=fun hy=>by
 have:=CX h;have h2:=hb (this.2.2.2 hy).1;omega
theorem HV{sg:List Sg}{x:Gs}{m:List UInt8}(h:gsOk sg x):gsOk sg (Aq sg x m)∧(Aq sg x m).deep=x.deep∧x.pos≤(Aq sg x m).pos∧((Aq sg x m).bad=false→x.bad=false):=by
 obtain⟨a1,a2,a3,a4⟩:=(Qa (m:=m) h).1
 refine⟨a1,a2,a3,fun hb=> ?_⟩
 cases hx:x.bad with
 |false=>rfl
 |true=>rw[Eb hx,Dn hb] at a4;cases a4
theorem b5r{s:ST}{x:Gs}{n:Nat}{one:Ps→PR}{l:List Int×Gs}(h:rOk s x)(hd:x.deep≤20)(hq:isG s.sg x 4 [40]=true)(hn:12*((s.sg.length:Int)-x.pos)≤n+2)(hl:BF s.sg (Aq s.sg x [40]) (Bx s.sg one [41] (s.sg.length+1) []) l∧l.1.length≤3001):
 vP 10 n s (Aq s.sg (Aq s.sg l.2 [41]) [61,62]):=by
 have a:=HV (m:=[40]) h.2;have b:=HV (m:=[41]) hl.1.1;have c:=HV (m:=[61,62]) b.1
 have e1:=hl.1.2.1;have e2:=hl.1.2.2.1
 have e3:(Aq s.sg x [40]).pos=x.pos+1:=by rw[Aq,if_pos hq];rfl
 exact⟨⟨⟨h.1,c.1⟩,by omega⟩,by omega⟩
theorem Fm{s:ST}{x y:Gs}{f:Ps→PR}{z:Int×Gs}(h:rOk s x)(hz:Ag s.sg y f z):rOk s z.2:=⟨h.1,Gi hz⟩
theorem b5s{l:Nat}:(BJ l).length≤2:=by
 unfold BJ;split<;>simp
attribute [local irreducible] pE Bx Dg fnR Ag BF gsOk Aq CS Am Dq EE Aw Ec En AU CT pkG isG nmG
end Go.My
end
section
namespace Go.My
open Go.Eng Go.Proofs
variable {G:GInv}
theorem a4x{s:ST}{x:Gs}{n r:Nat}{k:Int}{m:List UInt8}(hq:isG s.sg x k m=true)(hk:k≠0)(h1:rOk s x)(h2:x.bad=false→x.deep≤20)(h3:12*((s.sg.length:Int)-x.pos)+1≤(n+1:Nat))(hr:r≤12):wP r n s (An x)∧vP r n s (An x):=by
 have hl:=Dp hq hk
 have ha:=GC h1.2 hl.2
 have hd:=h2 hl.1
 have e:(An x).pos=x.pos+1:=rfl
 have e2:(An x).deep=x.deep:=rfl
 have a:12*((s.sg.length:Int)-(An x).pos)+r≤n:=by omega
 exact⟨⟨⟨⟨h1.1,ha⟩,fun _=>by omega⟩,a⟩,⟨⟨⟨h1.1,ha⟩,by omega⟩,a⟩⟩
abbrev enJ (sg:List Sg) (n:Nat) (x y:Gs) (k:Int) (N:Nat):Prop:=enI sg n x y k N∧(y.bad=false→y.deep≤20)
theorem b5t{s:ST}{x:Gs}{n:Nat}{z:Int×Gs}(h1:rOk s x)(h2:x.bad=false→x.deep≤20)(hz:Ag s.sg x (pE s.sg n .base) z):enJ s.sg n x z.2 z.1 (s.sg.length+1):=⟨b4U h1.2 hz,Qi hz h2⟩
theorem b5u{sg:List Sg}{n:Nat}{x y:Gs}{k:Int}{N:Nat}{w:Int×Gs}(h:enJ sg n x y k N)(hw:Ag sg y (Dg sg (pE sg n .value) k) w)(hq:isG sg y 4 [40]=true):enJ sg n x w.2 w.1 (N-1)∧N-1<N:=by
 obtain⟨a,b⟩:=Oc (b4W h.1 hq hw)
 exact⟨⟨a,Qi hw h.2⟩,b⟩
theorem b5v{s:ST}{x:Gs}{n:Nat}(h1:rOk s x)(h2:x.bad=false→x.deep≤20)(h3:12*((s.sg.length:Int)-x.pos)+2≤(n+1:Nat)):wP 1 n s x:=⟨⟨h1,h2⟩,by omega⟩
attribute [local irreducible] pE Bx Dg fnR Ag BF gsOk Aq CS Am Dq EE Aw Ec En AU CT pkG isG nmG
end Go.My
end
section
namespace Go.My
open Go.Eng Go.Proofs
variable {G:GInv}
def b5w(sg:List Sg)(n l:Nat)(m:List UInt8)(x y:Gs)(ks:List Int)(N M:Nat):Prop:=(chN sg n l m x y ks N∧N≤M)∧(y.bad=false→y.deep≤20)
theorem b5x{s:ST}{x:Gs}{n:Nat}{l:Int}{z:Int×Gs}(hl:l=6)(h:Ag s.sg x (pE s.sg n .fin) z):Ag s.sg x (pE s.sg (n+1) (.chain l.toNat)) z:=by subst hl;exact b4P h
theorem ch_ks{s:ST}{n l:Nat}{x y:Gs}{m:List UInt8}{ks:List Int}{N M:Nat}(hs:sgB s.sg)(h:b5w s.sg n l m x y ks N M):ks.length≤3001:=by
 have:=h.1.1.2.2.1;have:=h.1.1.1.1.1.2;have:=hs.1;omega
abbrev pkX (x:Gs):Gs:=gDp (if x.deep=20 then Bw x else x) 1
theorem a4y{s:ST}{x:Gs}{n:Nat}(h1:rOk s x)(h2:x.deep≤20)(h3:12*((s.sg.length:Int)-x.pos)+10≤(n+1:Nat)):wP (9-(0:Int).toNat) n s (pkX x)∧rOk s (pkX x):=by
 obtain⟨p1,p2,p3⟩:= @Qf x
 have hok:gsOk s.sg (pkX x):=by
  unfold pkX;split
  ·exact⟨h1.2.1,by simp only[gDp,Bw];have:=h1.2.2.1;omega,h1.2.2.2⟩
  ·exact⟨h1.2.1,by simp only[gDp];have:=h1.2.2.1;omega,h1.2.2.2⟩
 exact⟨⟨⟨⟨h1.1,hok⟩,fun hb=>by have:=p3 hb;simp only[pkX] at*;omega⟩,by simp only[pkX] at*;simp;omega⟩,h1.1,hok⟩
theorem a4z{s:ST}{x:Gs}{n:Nat}{z:Int×Gs}(h1:rOk s x)(h2:x.deep≤20)(h3:12*((s.sg.length:Int)-x.pos)+10≤(n+1:Nat))(hz:Ag s.sg (pkX x) (pE s.sg n (.chain 0)) z)(hq:isG s.sg z.2 4 [63]=true):vP 10 n s (Aw s.sg z.2 [63]):=by
 rw[EH hq]
 have hl:=Dp hq (by omega)
 have e:=CX hz
 obtain⟨p1,p2,p3⟩:= @Qf x
 have e1:(An z.2).pos=z.2.pos+1:=rfl
 have e2:(An z.2).deep=z.2.deep:=rfl
 have e3:=p3 (e.2.2.2 hl.1).1
 simp only[pkX] at*
 exact⟨⟨⟨h1.1,GC (Gi hz) hl.2⟩,by omega⟩,by omega⟩
theorem b5y{s:ST}{x:Gs}{n:Nat}{z a:Int×Gs}(h1:rOk s x)(h2:x.deep≤20)(h3:12*((s.sg.length:Int)-x.pos)+10≤(n+1:Nat))(hz:Ag s.sg (pkX x) (pE s.sg n (.chain 0)) z)(hq:isG s.sg z.2 4 [63]=true)
 (ha:Ag s.sg (Aw s.sg z.2 [63]) (pE s.sg n .pick) a):vP 10 n s (Aq s.sg a.2 [58]):=by
 have hv:=a4z h1 h2 h3 hz hq
 have e:=CX ha
 have t:=HV (m:=[58]) (Gi ha)
 have:=hv.2;have:=hv.1.2
 exact⟨⟨⟨h1.1,t.1⟩,by omega⟩,by omega⟩
theorem b5z{s:ST}{x:Gs}{n:Nat}{z a b:Int×Gs}(h1:rOk s x)(h2:x.deep≤20)(hz:Ag s.sg (pkX x) (pE s.sg n (.chain 0)) z)(hq:isG s.sg z.2 4 [63]=true)
 (ha:Ag s.sg (Aw s.sg z.2 [63]) (pE s.sg n .pick) a) (hb:Ag s.sg (Aq s.sg a.2 [58]) (pE s.sg n .pick) b):
 Ag s.sg x (pE s.sg (n+1) .pick) (AU b.2,gDp (Am b.2 ⟨8,[],[z.1,a.1,b.1],false⟩) (-1)):=by
 rw[EH hq] at ha
 exact b4F h1.2 h2 hz hq ha hb
theorem b5A{s:ST}{x:Gs}{n:Nat}{z:Int×Gs}(h1:rOk s x)(h2:x.deep≤20)(hz:Ag s.sg (pkX x) (pE s.sg n (.chain 0)) z)(hq:isG s.sg z.2 4 [63]=false):Ag s.sg x (pE s.sg (n+1) .pick) (z.1,gDp (Aw s.sg z.2 [63]) (-1)):=by
 rw[DI hq];exact b4E h1.2 h2 hz hq
theorem b5B{s:ST}{x:Gs}{n:Nat}{z:Int×Gs}(h1:rOk s x)(hz:Ag s.sg (pkX x) (pE s.sg n (.chain 0)) z)(hq:isG s.sg z.2 4 [63]=false):0≤(Aw s.sg z.2 [63]).deep∧(Aw s.sg z.2 [63]).deep≤21:=by
 rw[DI hq];exact(Gi hz).2.1
theorem Xf{g:Gs}{x:Nd}:(Am g x).deep=g.deep:=JR.1
theorem b5C{α:Type}{sg:List Sg}{x:Gs}{f:Ps→Option (α×Ps)}{y:α×Gs}(h:Ag sg x f y):0≤y.2.deep∧y.2.deep≤21:=(Gi h).2.1
theorem b5D{s:ST}{x:Gs}{n:Nat}(h1:rOk s x)(h2:x.deep≤20)(h3:12*((s.sg.length:Int)-x.pos)+11≤(n+1:Nat)):vP 10 n s x:=⟨⟨h1,h2⟩,by omega⟩
def vaJ(sg:List Sg)(n:Nat)(x y:Gs)(ks:List Int)(N:Nat):Prop:=KH sg n x y ks N∧y.deep≤20
theorem a4A{sg:List Sg}{n:Nat}{x y:Gs}{ks:List Int}{N:Nat}(h:KH sg n x y ks N∧y.deep≤20):vaJ sg n x y ks N:=h
theorem b5E{s:ST}{x:Gs}{n:Nat}{z:Int×Gs}(h1:rOk s x)(hz:Ag s.sg x (pE s.sg n .pick) z)(hq:isG s.sg z.2 4 [46,46]=false):Ag s.sg x (pE s.sg (n+1) .value) z:=b4G h1.2 hz hq
theorem b5F{s:ST}{x:Gs}{n:Nat}{z:Int×Gs}(h1:rOk s x)(h2:x.deep≤20)(hz:Ag s.sg x (pE s.sg n .pick) z)(hq:isG s.sg z.2 4 [46,46]=true):vaJ s.sg n x z.2 [z.1] (s.sg.length+1):=a4A ⟨b4H h1.2 hz hq,by have:=(CX hz).1;omega⟩
theorem Xg{s:ST}{x y:Gs}{n:Nat}{ks:List Int}{N:Nat}(h1:rOk s x)(h:vaJ s.sg n x y ks N):rOk s y:=⟨h1.1,h.1.1.1⟩
theorem b5G{s:ST}{x y:Gs}{n:Nat}{ks:List Int}{N:Nat}(hs:sgB s.sg)(h:vaJ s.sg n x y ks N):ks.length≤3001:=by
 have:=h.1.2.2.1;have:=h.1.1.1.1.2;have:=hs.1;omega
theorem b5H{s:ST}{x y:Gs}{n N:Nat}{ks:List Int}(h1:rOk s x)(h:vaJ s.sg n x y ks N)(hq:isG s.sg y 4 [46,46]=false):Ag s.sg x (pE s.sg (n+1) .value) (AU (Aw s.sg y [46,46]),Am (Aw s.sg y [46,46]) ⟨10,[],ks,false⟩):=by
 rw[DI hq];exact b4I h.1 hq h1.1
theorem b5I{s:ST}{x y:Gs}{n N:Nat}{ks:List Int}(h1:rOk s x)(h:vaJ s.sg n x y ks N)(hq:isG s.sg y 4 [46,46]=false):rOk s (Aw s.sg y [46,46]):=by
 rw[DI hq];exact Xg h1 h
attribute [local irreducible] pE Bx Dg fnR Ag BF gsOk Aq CS Am Dq EE Aw Ec En AU CT pkG isG nmG
end Go.My
end
section
namespace Go.My
open Go.Eng
theorem EY{k:Int}{t:List UInt8}{ks:List Int}{b:Bool}(ht:t.length≤3000)(hk:ks.length≤4000):Dm ⟨k,t,ks,b⟩:=⟨ht,hk⟩
theorem KK{α:Type}{sg:List Sg}{x:Gs}{f g:Ps→Option (α×Ps)}{y:α×Gs}(h:Ag sg x g y)(e:∀s,pur x=some s→f s=g s):Ag sg x f y:=by
 have e2:(pur x).bind f=(pur x).bind g:=by
  cases hp:pur x with
  |none=>rfl
  |some s=>exact e s hp
 obtain⟨⟨a1,a2,a3,a4,a5⟩,b⟩:=h
 exact⟨⟨a1,a2,a3,by rw[e2];exact a4,by rw[e2];exact a5⟩,b⟩
theorem Mi{α:Type}{sg:List Sg}{x:Gs}{k:Int}{m:List UInt8}{f g:Ps→Option (α×Ps)}{y:α×Gs}(hx:gsOk sg x)(hk:k≠0)(hm:isG sg x k m=true)(h:BF sg (An x) g y)
 (e:∀s,pur x=some s→isT sg s k m=true→f s=g (adv s)):Ag sg x f y:=by
 have k1:=Hn (g':=g) (Dr (f:=f) hx) hk hm e
 have k2:=BT (k:=fun a s=>some (a,s)) k1 h (fun s _=>by cases g s<;>rfl)
 refine⟨Hm k2,fun _=> ?_⟩
 have:=h.2.2.1
 simp only[An] at this;omega
theorem Mj{sg:List Sg}{x y:Gs}{f:Ps→PR}{w:Nd}{m:List UInt8}(h:restP sg x f y (Bs sg m w) 0)(hw:Dm w):Ag sg x f (CT sg y m,CS sg y m w):=by
 refine⟨SO h hw,fun hb=> ?_⟩
 have:=(NY (m:=m) h.1 hw).2 hb
 have:=h.2.2.1
 simp only at*;omega
theorem SR{sg:List Sg}{x y:Gs}{f:Ps→PR}{w:Nd}(h:restP sg x f y (Be w) 0)(hw:Dm w)(hp:y.bad=false→x.pos<y.pos):Ag sg x f (AU y,Am y w):=by
 obtain⟨d1,d2,d3⟩:= @JR y w
 exact⟨SN h hw,fun hb=>by simp only[d2];exact hp (d3 hb)⟩
theorem a4B{sg:List Sg}{x:Gs}{b:Bool}(h:gsOk sg x):restP sg x (DA sg b) (CV sg x) (fun s=>if isM sg s [61] then(Cn sg (adv s)).bind fun q=>Bs sg [59] ⟨12,Dh sg x,[q.1],b⟩ q.2 else Bs sg [59] ⟨12,Dh sg x,[],b⟩ s) 0:=
 BT (k:=fun t s=>if isM sg s [61] then(Cn sg (adv s)).bind fun q=>Bs sg [59] ⟨12,t,[q.1],b⟩ q.2 else Bs sg [59] ⟨12,t,[],b⟩ s) (Dr h) (NZ h).1 (fun _ _=>rfl)
theorem JS{sg:List Sg}{x:Gs}(hs:sgB sg):(Dh sg x).length≤3000:=by
 unfold Dh;split
 ·exact Qc hs
 ·simp
theorem b5J{sg:List Sg}{x:Gs}{b:Bool}(hs:sgB sg)(h:gsOk sg x)(hq:isG sg (CV sg x) 4 [61]=false):
 Ag sg x (DA sg b) (CT sg (CV sg x) [59],CS sg (CV sg x) [59] ⟨12,Dh sg x,[],b⟩):=
 Mj (Ed (a4B h) (fun s hs=>by rw[if_neg (by simp [EX hs hq])])) (EY (JS hs) (by simp))
theorem b5K{sg:List Sg}{x:Gs}{b:Bool}{z:Int×Gs}(hs:sgB sg)(h:gsOk sg x)(hq:isG sg (CV sg x) 4 [61]=true)(hz:Ag sg (An (CV sg x)) (Cn sg) z):
 Ag sg x (DA sg b) (CT sg z.2 [59],CS sg z.2 [59] ⟨12,Dh sg x,[z.1],b⟩):=by
 have k1:=Hn (g':=fun s=>(Cn sg s).bind fun q=>Bs sg [59] ⟨12,Dh sg x,[q.1],b⟩ q.2) (a4B h) (by omega) hq (fun s hs ht=>by rw[if_pos (show isM sg s [61]=true from ht)])
 have k2:=BT (k:=fun k s=>Bs sg [59] ⟨12,Dh sg x,[k],b⟩ s) k1 hz.1 (fun _ _=>rfl)
 exact Mj k2 (EY (JS hs) (by simp))
def Ho(sg:List Sg)(b:Bool)(s:Ps):PR:=if isM sg s [59] then Bs sg [59] ⟨15,[],[],b⟩ s else(Cn sg s).bind fun p=>Bs sg [59] ⟨15,[],[p.1],b⟩ p.2
theorem b5L{sg:List Sg}{x:Gs}{b:Bool}(h:gsOk sg x)(hq:isG sg x 4 [59]=true):Ag sg x (Ho sg b) (CT sg x [59],CS sg x [59] ⟨15,[],[],b⟩):=
 Mj (Ed (Dr h) (fun s hs=>by rw[Ho,if_pos (JP hs hq)])) (EY (by simp) (by simp))
theorem b5M{sg:List Sg}{x:Gs}{b:Bool}{z:Int×Gs}(h:gsOk sg x)(hq:isG sg x 4 [59]=false)(hz:Ag sg x (Cn sg) z):Ag sg x (Ho sg b) (CT sg z.2 [59],CS sg z.2 [59] ⟨15,[],[z.1],b⟩):=by
 have k1:=Ed (Dr (f:=Ho sg b) h) (g':=fun s=>(Cn sg s).bind fun p=>Bs sg [59] ⟨15,[],[p.1],b⟩ p.2) (fun s hs=>by rw[Ho,if_neg (by simp [EX hs hq])])
 have k2:=BT (k:=fun k s=>Bs sg [59] ⟨15,[],[k],b⟩ s) k1 hz.1 (fun _ _=>rfl)
 exact Mj k2 (EY (by simp) (by simp))
theorem b5N{sg:List Sg}{x:Gs}{z:Int×Gs}(h:gsOk sg x)(hz:Ag sg (Aq sg x [40]) (Cn sg) z):BF sg x (DH sg) (z.1,Aq sg z.2 [41]):=by
 have k1:=HU (g':=fun s1=>(Cn sg s1).bind fun p=>(BE sg [41] p.2).map fun s2=>(p.1,s2)) (Dr (f:=DH sg) h) (fun _ _=>rfl)
 have k2:=BT (k:=fun k s=>(BE sg [41] s).map fun s2=>(k,s2)) k1 hz.1 (fun _ _=>rfl)
 have k3:=HU (g':=fun s=>some (z.1,s)) k2 (fun s _=>by cases BE sg [41] s<;>rfl)
 exact Hm k3
theorem b5O{sg:List Sg}{one:Bool→Ps→PR}{m:List UInt8}{N:Nat}{ks:List Int}{s:Ps}(h:isM sg s m=true):CR sg one m (N+1) ks s=some (ks,s):=by rw[CR,if_pos h]
theorem b5P{sg:List Sg}{one:Bool→Ps→PR}{m:List UInt8}{N:Nat}{ks:List Int}{s:Ps}(h:isM sg s m=false):CR sg one m (N+1) ks s=(one ((sgO sg s.pos).blank&&decide (0<ks.length)) s).bind fun p=>CR sg one m N (ks++[p.1]) p.2:=by rw[CR,if_neg (by simp [h])]
def KL(sg:List Sg)(one:Bool→Ps→PR)(m:List UInt8)(x y:Gs)(ks:List Int)(N:Nat):Prop:=
 restP sg x (CR sg one m (sg.length+1) []) y (CR sg one m N ks) 0∧(y.bad=false→(sg.length:Int)-y.pos<N)∧(ks.length:Int)≤y.pos+1∧(y.bad=false→(ks.length:Int)≤y.pos)
theorem a4C{sg:List Sg}{one:Bool→Ps→PR}{m:List UInt8}{x:Gs}(h:gsOk sg x):KL sg one m x x [] (sg.length+1):=by
 have:=h.1
 exact⟨Dr h,fun _=>by omega,by simp;omega,fun _=>by simp;omega⟩
theorem a4D{sg:List Sg}{one:Bool→Ps→PR}{m:List UInt8}{x y:Gs}{ks:List Int}{N:Nat}(h:KL sg one m x y ks N)(hb:y.bad=true):BF sg x (CR sg one m (sg.length+1) []) (ks,y):=Qe h.1 hb
theorem a4E{sg:List Sg}{one:Bool→Ps→PR}{m:List UInt8}{x y:Gs}{ks:List Int}{N:Nat}(h:KL sg one m x y ks N)(hb:y.bad=false):∃M,N=M+1:=by
 have h1:=h.1.1.1;have h2:=h.2.1 hb
 match N with
 |0=>omega
 |M+1=>exact⟨M,rfl⟩
theorem a4F{sg:List Sg}{one:Bool→Ps→PR}{m:List UInt8}{x y:Gs}{ks:List Int}{N:Nat}(h:KL sg one m x y ks N)(hq:isG sg y 4 m=true):BF sg x (CR sg one m (sg.length+1) []) (ks,y):=by
 obtain⟨M,rfl⟩:=a4E h (Dp hq (by omega)).1
 exact Hm (Ed h.1 (g':=fun s=>some (ks,s)) (fun s hs=>b5O (JP hs hq)))
theorem a4G{sg:List Sg}{one:Bool→Ps→PR}{m:List UInt8}{x y:Gs}{ks:List Int}{N:Nat}{z:Int×Gs}(h:KL sg one m x y ks N)(hb:y.bad=false)(hq:isG sg y 4 m=false)
 (hz:Ag sg y (one ((pkG sg y 0).blank&&decide (0<ks.length))) z):∃M,N=M+1∧KL sg one m x z.2 (ks++[z.1]) M:=by
 obtain⟨M,rfl⟩:=a4E h hb
 obtain⟨h1,h2,h3,h4⟩:=h
 have k1:=Ed h1 (g':=fun s=>(one ((pkG sg y 0).blank&&decide (0<ks.length)) s).bind fun p=>CR sg one m M (ks++[p.1]) p.2) (fun s hs=>by
  rw[b5P (EX hs hq)]
  obtain⟨_,rfl⟩:=EW.1 hs
  rw[JN hb];simp)
 have k2:=BT (k:=fun k s=>CR sg one m M (ks++[k]) s) k1 hz.1 (fun _ _=>rfl)
 have e:=CX hz
 have:=h2 hb;have:=h4 hb
 exact⟨M,rfl,k2,fun hw=>by have:=e.2.2.2 hw;omega,by simp;omega,fun hw=>by have:=e.2.2.2 hw;simp;omega⟩
theorem b5Q{sg:List Sg}{one:Bool→Ps→PR}{x:Gs}(h:gsOk sg x)(hd:x.deep≤20):restP sg x (BN sg one) (Aq sg (gDp (if x.deep=20 then Bw x else x) 1) [123])
 (fun s1=>(CR sg one [125] (sg.length+1) [] s1).bind fun p=>(Bs sg [125] ⟨18,[],p.1,false⟩ p.2).map fun q=>(q.1,dp q.2 (-1))) 1:=by
 have k0:restP sg x (BN sg one) (gDp (if x.deep=20 then Bw x else x) 1) (fun s=>(BE sg [123] s).bind fun s1=>(CR sg one [125] (sg.length+1) [] s1).bind fun p=>(Bs sg [125] ⟨18,[],p.1,false⟩ p.2).map fun q=>(q.1,dp q.2 (-1))) 1:=by
  split
  ·rename_i h20
   have h2:=a4n (d:=0) (g':=BN sg one) (Dr (f:=BN sg one) h) (fun s hs=>by
    obtain⟨_,rfl⟩:=EW.1 hs
    rw[BN,if_pos (by simp only;omega)])
   refine Mh (d:=0) h2 ⟨by simp only[Bw];omega,by simp only[Bw];omega⟩ (fun s hs=> ?_)
   rw[JO] at hs;cases hs
  ·rename_i h20
   refine Mh (d:=0) (Dr h) ⟨by have:=h.2.1.1;omega,by omega⟩ (fun s hs=> ?_)
   obtain⟨_,rfl⟩:=EW.1 hs
   rw[BN,if_neg (by simp only;omega)]
 exact HU k0 (fun _ _=>rfl)
def ifR(sg:List Sg)(n:Nat)(b:Bool)(s:Ps):PR:=(DH sg s).bind fun p=>(BN sg (stR sg n) p.2).bind fun q=>
 if isW sg q.2 [101,108,115,101] then(BN sg (stR sg n) (adv q.2)).bind fun r=>Be ⟨16,[],[p.1,q.1,r.1],b⟩ r.2 else Be ⟨16,[],[p.1,q.1],b⟩ q.2
theorem a4H{sg:List Sg}{n:Nat}{b:Bool}{x:Gs}{c q:Int×Gs}(h:gsOk sg x)(hc:BF sg x (DH sg) c)(hq:Ag sg c.2 (BN sg (stR sg n)) q):
 restP sg x (ifR sg n b) q.2 (fun s=>if isW sg s [101,108,115,101] then(BN sg (stR sg n) (adv s)).bind fun r=>Be ⟨16,[],[c.1,q.1,r.1],b⟩ r.2 else Be ⟨16,[],[c.1,q.1],b⟩ s) 0:=by
 have k1:=BT (k:=fun a s=>(BN sg (stR sg n) s).bind fun q=>if isW sg q.2 [101,108,115,101] then(BN sg (stR sg n) (adv q.2)).bind fun r=>Be ⟨16,[],[a,q.1,r.1],b⟩ r.2 else Be ⟨16,[],[a,q.1],b⟩ q.2) (Dr (f:=ifR sg n b) h) hc (fun _ _=>rfl)
 exact BT (k:=fun k s=>if isW sg s [101,108,115,101] then(BN sg (stR sg n) (adv s)).bind fun r=>Be ⟨16,[],[c.1,k,r.1],b⟩ r.2 else Be ⟨16,[],[c.1,k],b⟩ s) k1 hq.1 (fun _ _=>rfl)
theorem b5R{sg:List Sg}{n:Nat}{b:Bool}{x:Gs}{c q:Int×Gs}(h:gsOk sg x)(hc:BF sg x (DH sg) c)(hq:Ag sg c.2 (BN sg (stR sg n)) q)(he:isG sg q.2 1 [101,108,115,101]=false):
 Ag sg x (ifR sg n b) (AU q.2,Am q.2 ⟨16,[],[c.1,q.1],b⟩):=by
 have k:=Ed (a4H (b:=b) h hc hq) (g':=Be ⟨16,[],[c.1,q.1],b⟩) (fun s hs=>by rw[if_neg (by simp [EF hs he])])
 refine SR k (EY (by simp) (by simp)) (fun hb=> ?_)
 have:=(CX hq).2.2.2 hb;have:=hc.2.2.1;omega
theorem b5S{sg:List Sg}{n:Nat}{b:Bool}{x:Gs}{c q r:Int×Gs}(h:gsOk sg x)(hc:BF sg x (DH sg) c)(hq:Ag sg c.2 (BN sg (stR sg n)) q)(he:isG sg q.2 1 [101,108,115,101]=true)
 (hr:Ag sg (An q.2) (BN sg (stR sg n)) r):Ag sg x (ifR sg n b) (AU r.2,Am r.2 ⟨16,[],[c.1,q.1,r.1],b⟩):=by
 have k:=Hn (a4H (b:=b) h hc hq) (g':=fun s=>(BN sg (stR sg n) s).bind fun r=>Be ⟨16,[],[c.1,q.1,r.1],b⟩ r.2) (by omega) he (fun s hs ht=>by rw[if_pos (show isW sg s [101,108,115,101]=true from ht)])
 have k2:=BT (k:=fun k s=>Be ⟨16,[],[c.1,q.1,k],b⟩ s) k hr.1 (fun _ _=>rfl)
 refine SR k2 (EY (by simp) (by simp)) (fun hb=> ?_)
 have:=(CX hr).2.2.2 hb;have:=hc.2.2.1;have:=(CX hq).2.1
 simp only[An] at*;omega
def whR(sg:List Sg)(n:Nat)(b:Bool)(s:Ps):PR:=(DH sg s).bind fun p=>(BN sg (stR sg n) p.2).bind fun q=>Be ⟨17,[],[p.1,q.1],b⟩ q.2
theorem b5T{sg:List Sg}{n:Nat}{b:Bool}{x:Gs}{c q:Int×Gs}(h:gsOk sg x)(hc:BF sg x (DH sg) c)(hq:Ag sg c.2 (BN sg (stR sg n)) q):
 Ag sg x (whR sg n b) (AU q.2,Am q.2 ⟨17,[],[c.1,q.1],b⟩):=by
 have k1:=BT (k:=fun a s=>(BN sg (stR sg n) s).bind fun q=>Be ⟨17,[],[a,q.1],b⟩ q.2) (Dr (f:=whR sg n b) h) hc (fun _ _=>rfl)
 have k2:=BT (k:=fun k s=>Be ⟨17,[],[c.1,k],b⟩ s) k1 hq.1 (fun _ _=>rfl)
 refine SR k2 (EY (by simp) (by simp)) (fun hb=> ?_)
 have:=(CX hq).2.2.2 hb;have:=hc.2.2.1;omega
def setR(sg:List Sg)(b:Bool)(s:Ps):PR:=(EU sg s).bind fun p=>(BE sg [61] p.2).bind fun s1=>(Cn sg s1).bind fun q=>Bs sg [59] ⟨13,p.1,[q.1],b⟩ q.2
theorem b5U{sg:List Sg}{b:Bool}{x:Gs}{z:Int×Gs}(hs:sgB sg)(h:gsOk sg x)(hz:Ag sg (Aq sg (CV sg x) [61]) (Cn sg) z):
 Ag sg x (setR sg b) (CT sg z.2 [59],CS sg z.2 [59] ⟨13,Dh sg x,[z.1],b⟩):=by
 have k1:=BT (k:=fun t s=>(BE sg [61] s).bind fun s1=>(Cn sg s1).bind fun q=>Bs sg [59] ⟨13,t,[q.1],b⟩ q.2) (Dr (f:=setR sg b) h) (NZ h).1 (fun _ _=>rfl)
 have k2:=HU (g':=fun s1=>(Cn sg s1).bind fun q=>Bs sg [59] ⟨13,Dh sg x,[q.1],b⟩ q.2) k1 (fun _ _=>rfl)
 have k3:=BT (k:=fun k s=>Bs sg [59] ⟨13,Dh sg x,[k],b⟩ s) k2 hz.1 (fun _ _=>rfl)
 exact Mj k3 (EY (JS hs) (by simp))
def doR(sg:List Sg)(b:Bool)(s:Ps):PR:=(Cn sg s).bind fun p=>Bs sg [59] ⟨14,[],[p.1],b⟩ p.2
theorem b5V{sg:List Sg}{b:Bool}{x:Gs}{z:Int×Gs}(h:gsOk sg x)(hz:Ag sg x (Cn sg) z):Ag sg x (doR sg b) (CT sg z.2 [59],CS sg z.2 [59] ⟨14,[],[z.1],b⟩):=by
 have k3:=BT (k:=fun k s=>Bs sg [59] ⟨14,[],[k],b⟩ s) (Dr (f:=doR sg b) h) hz.1 (fun _ _=>rfl)
 exact Mj k3 (EY (by simp) (by simp))
theorem JT{sg:List Sg}{n:Nat}{b:Bool}{s:Ps}:stR sg (n+1) b s=
 if(sgO sg s.pos).kind=5 then FL sg 19 b s
 else if isW sg s [118,97,114] then DA sg b (adv s)
 else if isW sg s [114,101,116,117,114,110] then Ho sg b (adv s)
 else if isW sg s [105,102] then ifR sg n b (adv s)
 else if isW sg s [119,104,105,108,101] then whR sg n b (adv s)
 else if DG sg s.pos&&isM sg (adv s) [61] then(Cn sg (adv (adv s))).bind fun p=>Bs sg [59] ⟨13,(sgO sg s.pos).text,[p.1],b⟩ p.2
 else doR sg b s:=rfl
theorem set_eq{sg:List Sg}{b:Bool}{s:Ps}(h:(DG sg s.pos&&isM sg (adv s) [61])=true):(Cn sg (adv (adv s))).bind (fun p=>Bs sg [59] ⟨13,(sgO sg s.pos).text,[p.1],b⟩ p.2)=setR sg b s:=by
 simp only[Bool.and_eq_true] at h
 rw[setR,EU,if_pos h.1]
 simp only[Option.bind_some]
 rw[BE,if_pos h.2];rfl
theorem GE{sg:List Sg}{x:Gs}{s:Ps}(hs:pur x=some s):(sgO sg s.pos).kind=(pkG sg x 0).kind:=(SP hs).symm
theorem b5W{sg:List Sg}{x:Gs}{n:Nat}{b:Bool}(hs:sgB sg)(h:gsOk sg x)(hk:(pkG sg x 0).kind=5):Ag sg x (stR sg (n+1) b) (AU x,EE sg x 19 b):=
 KK (Qd hs h (fun _=>(SQ (by omega)).2)) (fun s hp=>by rw[JT,if_pos (by rw[GE hp];exact hk)])
theorem b5X{sg:List Sg}{x:Gs}{n:Nat}{b:Bool}{z:Int×Gs}(h:gsOk sg x)(hk:(pkG sg x 0).kind≠5)(hq:isG sg x 1 [118,97,114]=true)(hz:Ag sg (An x) (DA sg b) z):Ag sg x (stR sg (n+1) b) z:=
 Mi h (by omega) hq hz.1 (fun s hp ht=>by rw[JT,if_neg (by rw[GE hp];exact hk),if_pos (show isW sg s _=true from ht)])
theorem a4I{sg:List Sg}{x:Gs}{n:Nat}{b:Bool}{z:Int×Gs}(h:gsOk sg x)(hk:(pkG sg x 0).kind≠5)(h1:isG sg x 1 [118,97,114]=false)(hq:isG sg x 1 [114,101,116,117,114,110]=true)(hz:Ag sg (An x) (Ho sg b) z):Ag sg x (stR sg (n+1) b) z:=
 Mi h (by omega) hq hz.1 (fun s hp ht=>by rw[JT,if_neg (by rw[GE hp];exact hk),if_neg (by simp [EF hp h1]),if_pos (show isW sg s _=true from ht)])
theorem a4J{sg:List Sg}{x:Gs}{n:Nat}{b:Bool}{z:Int×Gs}(h:gsOk sg x)(hk:(pkG sg x 0).kind≠5)(h1:isG sg x 1 [118,97,114]=false)(h2:isG sg x 1 [114,101,116,117,114,110]=false)(hq:isG sg x 1 [105,102]=true)
 (hz:Ag sg (An x) (ifR sg n b) z):Ag sg x (stR sg (n+1) b) z:=
 Mi h (by omega) hq hz.1 (fun s hp ht=>by rw[JT,if_neg (by rw[GE hp];exact hk),if_neg (by simp [EF hp h1]),if_neg (by simp [EF hp h2]),if_pos (show isW sg s _=true from ht)])
theorem b5Y{sg:List Sg}{x:Gs}{n:Nat}{b:Bool}{z:Int×Gs}(h:gsOk sg x)(hk:(pkG sg x 0).kind≠5)(h1:isG sg x 1 [118,97,114]=false)(h2:isG sg x 1 [114,101,116,117,114,110]=false)(h3:isG sg x 1 [105,102]=false)(hq:isG sg x 1 [119,104,105,108,101]=true)
 (hz:Ag sg (An x) (whR sg n b) z):Ag sg x (stR sg (n+1) b) z:=
 Mi h (by omega) hq hz.1 (fun s hp ht=>by rw[JT,if_neg (by rw[GE hp];exact hk),if_neg (by simp [EF hp h1]),if_neg (by simp [EF hp h2]),if_neg (by simp [EF hp h3]),if_pos (show isW sg s _=true from ht)])
def seG(sg:List Sg)(x:Gs):Bool:=nmG sg x 0&&(decide ((pkG sg x 1).kind=4)&&((pkG sg x 1).text==[61]))
theorem Xh{sg:List Sg}{x:Gs}{s:Ps}(hs:pur x=some s):(DG sg s.pos&&isM sg (adv s) [61])=seG sg x:=by
 obtain⟨hb,rfl⟩:=EW.1 hs
 have:=Mf (sg:=sg) (n:=0) (Dn hb)
 simp only[Int.add_zero] at this
 rw[seG,this,JN hb];rfl
theorem b5Z{sg:List Sg}{x:Gs}{n:Nat}{b:Bool}{z:Int×Gs}(h:gsOk sg x)(hk:(pkG sg x 0).kind≠5)(h1:isG sg x 1 [118,97,114]=false)(h2:isG sg x 1 [114,101,116,117,114,110]=false)(h3:isG sg x 1 [105,102]=false)(h4:isG sg x 1 [119,104,105,108,101]=false)
 (hq:seG sg x=true) (hz:Ag sg x (setR sg b) z):Ag sg x (stR sg (n+1) b) z:=
 KK hz (fun s hp=>by rw[JT,if_neg (by rw[GE hp];exact hk),if_neg (by simp [EF hp h1]),if_neg (by simp [EF hp h2]),if_neg (by simp [EF hp h3]),if_neg (by simp [EF hp h4]),if_pos (by rw[Xh hp];exact hq),set_eq (by rw[Xh hp];exact hq)])
theorem b6a{sg:List Sg}{x:Gs}{n:Nat}{b:Bool}{z:Int×Gs}(h:gsOk sg x)(hk:(pkG sg x 0).kind≠5)(h1:isG sg x 1 [118,97,114]=false)(h2:isG sg x 1 [114,101,116,117,114,110]=false)(h3:isG sg x 1 [105,102]=false)(h4:isG sg x 1 [119,104,105,108,101]=false)
 (hq:seG sg x=false) (hz:Ag sg x (doR sg b) z):Ag sg x (stR sg (n+1) b) z:=
 KK hz (fun s hp=>by rw[JT,if_neg (by rw[GE hp];exact hk),if_neg (by simp [EF hp h1]),if_neg (by simp [EF hp h2]),if_neg (by simp [EF hp h3]),if_neg (by simp [EF hp h4]),if_neg (by rw[Xh hp];simp [hq])])
theorem b6b{sg:List Sg}{x:Gs}{b:Bool}{l:List Int×Gs}{q:Int×Gs}(hs:sgB sg)(h:gsOk sg x)(hl:BF sg (Aq sg (CV sg x) [40]) (Bx sg (BS sg) [41] (sg.length+1) []) l)(hll:l.1.length≤3001)
 (hq:Ag sg (Aq sg l.2 [41]) (FO sg) q):Ag sg x (EV sg b) (AU q.2,Am q.2 ⟨20,Dh sg x,l.1++[q.1],b⟩):=by
 have k1:=BT (k:=fun t s=>(BE sg [40] s).bind fun s1=>(Bx sg (BS sg) [41] (sg.length+1) [] s1).bind fun q=>(BE sg [41] q.2).bind fun s2=>(FO sg s2).bind fun r=>Be ⟨20,t,q.1++[r.1],b⟩ r.2) (Dr (f:=EV sg b) h) (NZ h).1 (fun _ _=>rfl)
 have k2:=HU (g':=fun s1=>(Bx sg (BS sg) [41] (sg.length+1) [] s1).bind fun q=>(BE sg [41] q.2).bind fun s2=>(FO sg s2).bind fun r=>Be ⟨20,Dh sg x,q.1++[r.1],b⟩ r.2) k1 (fun _ _=>rfl)
 have k3:=BT (k:=fun ks s=>(BE sg [41] s).bind fun s2=>(FO sg s2).bind fun r=>Be ⟨20,Dh sg x,ks++[r.1],b⟩ r.2) k2 hl (fun _ _=>rfl)
 have k4:=HU (g':=fun s2=>(FO sg s2).bind fun r=>Be ⟨20,Dh sg x,l.1++[r.1],b⟩ r.2) k3 (fun _ _=>rfl)
 have k5:=BT (k:=fun k s=>Be ⟨20,Dh sg x,l.1++[k],b⟩ s) k4 hq.1 (fun _ _=>rfl)
 refine SR k5 (EY (JS hs) (by simp;omega)) (fun hb=> ?_)
 have:=(CX hq).2.2.2 hb;have:=k4.2.2.1;omega
theorem b6c{sg:List Sg}{x:Gs}{b:Bool}{l:List Int×Gs}(hs:sgB sg)(h:gsOk sg x)(hl:BF sg (Aq sg (CV sg x) [123]) (CR sg (Dl sg) [125] (sg.length+1) []) l)(hll:l.1.length≤3001):
 Ag sg x (Hk sg b) (CT sg l.2 [125],CS sg l.2 [125] ⟨21,Dh sg x,l.1,b⟩):=by
 have k1:=BT (k:=fun t s=>(BE sg [123] s).bind fun s1=>(CR sg (Dl sg) [125] (sg.length+1) [] s1).bind fun q=>Bs sg [125] ⟨21,t,q.1,b⟩ q.2) (Dr (f:=Hk sg b) h) (NZ h).1 (fun _ _=>rfl)
 have k2:=HU (g':=fun s1=>(CR sg (Dl sg) [125] (sg.length+1) [] s1).bind fun q=>Bs sg [125] ⟨21,Dh sg x,q.1,b⟩ q.2) k1 (fun _ _=>rfl)
 have k3:=BT (k:=fun ks s=>Bs sg [125] ⟨21,Dh sg x,ks,b⟩ s) k2 hl (fun _ _=>rfl)
 exact Mj k3 (EY (JS hs) (by omega))
theorem b6d{sg:List Sg}{x:Gs}{b:Bool}(hs:sgB sg)(h:gsOk sg x)(hk:(pkG sg x 0).kind=5):Ag sg x (Dl sg b) (AU x,EE sg x 19 b):=
 KK (Qd hs h (fun _=>(SQ (by omega)).2)) (fun s hp=>by rw[Dl,if_pos (by rw[GE hp];exact hk)])
theorem b6e{sg:List Sg}{x:Gs}{b:Bool}{z:Int×Gs}(h:gsOk sg x)(hk:(pkG sg x 0).kind≠5)(hq:isG sg x 1 [118,97,114]=true)(hz:Ag sg (An x) (DA sg b) z):Ag sg x (Dl sg b) z:=
 Mi h (by omega) hq hz.1 (fun s hp ht=>by rw[Dl,if_neg (by rw[GE hp];exact hk),if_pos (show isW sg s _=true from ht)])
theorem b6f{sg:List Sg}{x:Gs}{b:Bool}{z:Int×Gs}(h:gsOk sg x)(hk:(pkG sg x 0).kind≠5)(hq:isG sg x 1 [118,97,114]=false)(hz:Ag sg x (EV sg b) z):Ag sg x (Dl sg b) z:=
 KK hz (fun s hp=>by rw[Dl,if_neg (by rw[GE hp];exact hk),if_neg (by simp [EF hp hq])])
theorem b6g{sg:List Sg}{x:Gs}{b:Bool}(hs:sgB sg)(h:gsOk sg x)(hk:(pkG sg x 0).kind=5):Ag sg x (CW sg b) (AU x,EE sg x 19 b):=
 KK (Qd hs h (fun _=>(SQ (by omega)).2)) (fun s hp=>by rw[CW,if_pos (by rw[GE hp];exact hk)])
theorem b6h{sg:List Sg}{x:Gs}{b:Bool}{z:Int×Gs}(h:gsOk sg x)(hk:(pkG sg x 0).kind≠5)(hq:isG sg x 1 [118,97,114]=true)(hz:Ag sg (An x) (DA sg b) z):Ag sg x (CW sg b) z:=
 Mi h (by omega) hq hz.1 (fun s hp ht=>by rw[CW,if_neg (by rw[GE hp];exact hk),if_pos (show isW sg s _=true from ht)])
theorem b6i{sg:List Sg}{x:Gs}{b:Bool}{z:Int×Gs}(h:gsOk sg x)(hk:(pkG sg x 0).kind≠5)(h1:isG sg x 1 [118,97,114]=false)(hq:isG sg x 1 [99,108,97,115,115]=true)(hz:Ag sg (An x) (Hk sg b) z):Ag sg x (CW sg b) z:=
 Mi h (by omega) hq hz.1 (fun s hp ht=>by rw[CW,if_neg (by rw[GE hp];exact hk),if_neg (by simp [EF hp h1]),if_pos (show isW sg s _=true from ht)])
theorem b6j{sg:List Sg}{x:Gs}{b:Bool}{z:Int×Gs}(h:gsOk sg x)(hk:(pkG sg x 0).kind≠5)(h1:isG sg x 1 [118,97,114]=false)(hq:isG sg x 1 [99,108,97,115,115]=false)(hz:Ag sg x (EV sg b) z):Ag sg x (CW sg b) z:=
 KK hz (fun s hp=>by rw[CW,if_neg (by rw[GE hp];exact hk),if_neg (by simp [EF hp h1]),if_neg (by simp [EF hp hq])])
def FR(sg:List Sg)(y:Gs)(ks:List Int)(ms:List (Int×Int))(N:Nat):Prop:=
 gsOk sg y∧y.deep=0∧(pur y).bind (Gh sg N ks ms)=Gh sg (sg.length+1) [] [] ps0∧(y.bad=false→(sg.length:Int)-y.pos<N)∧(ks.length:Int)≤y.pos+1∧(y.bad=false→(ks.length:Int)≤y.pos)∧ms.length=ks.length
def gs0:Gs:=⟨0,0,false,[]⟩
theorem b6k{sg:List Sg}:gsOk sg gs0:=⟨by simp [gs0],by simp [gs0],by simp [gs0],by simp [gs0]⟩
theorem b6l{sg:List Sg}:FR sg gs0 [] [] (sg.length+1):=⟨b6k,rfl,rfl,fun _=>by simp only[gs0];omega,by simp [gs0],fun _=>by simp [gs0],rfl⟩
theorem b6m{sg:List Sg}{y:Gs}{ks:List Int}{ms:List (Int×Int)}{N:Nat}{z:Int×Gs}(h:FR sg y ks ms N)(hb:y.bad=false)(hl:y.pos<sg.length)(hz:Ag sg y (CW sg ((pkG sg y 0).blank&&decide (0<ks.length))) z):
 ∃M,N=M+1∧FR sg z.2 (ks++[z.1]) (ms++[(y.pos,z.2.pos)]) M:=by
 obtain⟨h0,hd,h1,h2,h3,h4,h5⟩:=h
 have h2:=h2 hb;have h4:=h4 hb
 match N with
 |0=>omega
 |M+1=>
  have e:=CX hz
  obtain⟨⟨a1,a2,a3,a4,a5⟩,b⟩:=hz
  refine⟨M,rfl,a1,by omega,?_,fun hw=>by have:=e.2.2.2 hw;omega,by simp;omega,fun hw=>by have:=e.2.2.2 hw;simp;omega,by simp [h5]⟩
  rw[←h1,Dn hb,Option.bind_some,Gh,if_pos hl]
  rw[Dn hb] at a4 a5
  have eb:(sgO sg y.pos).blank=(pkG sg y 0).blank:=by rw[JN hb];simp
  simp only[Option.bind_some] at a4 a5
  rw[eb,a4]
  cases hp:CW sg ((pkG sg y 0).blank&&decide (0<ks.length)) ⟨y.pos,y.deep,y.nodes⟩ with
  |none=>rfl
  |some p=>
   simp only[Option.map_some,Option.bind_some]
   have:=a5 p hp
   have hpos:z.2.pos=p.2.pos:=by
    rw[hp] at a4
    simp only[Option.map_some] at a4
    obtain⟨_,e2⟩:=EW.1 a4
    rw[e2]
   rw[this,hpos]
def Fp(sg:List Sg)(y:Gs)(ks:List Int):Gs:=Am y ⟨22,[],ks,false⟩
theorem b6n{sg:List Sg}{y:Gs}{ks:List Int}{ms:List (Int×Int)}{N:Nat}(h:FR sg y ks ms N)(hb:(Fp sg y ks).bad=true)(he:y.bad=true∨¬y.pos<sg.length):IB sg=none:=by
 obtain⟨h0,hd,h1,h2,h3,h4,h5⟩:=h
 rw[IB,←h1]
 cases hy:y.bad with
 |true=>rw[Eb hy];rfl
 |false=>
  have h2:=h2 hy
  have he:¬y.pos<sg.length:=by rcases he with he|he
                               ·rw[hy] at he;cases he
                               ·exact he
  match N with
  |0=>have:=h0.1;omega
  |N+1=>
   rw[Dn hy,Option.bind_some,Gh,if_neg he,Option.bind_some]
   unfold Fp Am at hb
   split at hb
   ·rename_i hf
    have h3:y.nodes.length=300:=by simpa [DP,hy] using hf
    rw[Be,if_pos (by simp only;omega)];rfl
   ·simp only at hb;rw[hy] at hb;cases hb
theorem b6o{sg:List Sg}{y:Gs}{ks:List Int}{ms:List (Int×Int)}{N:Nat}(h:FR sg y ks ms N)(hb:(Fp sg y ks).bad=false)(he:y.bad=true∨¬y.pos<sg.length):
 IB sg=if Bf (Fp sg y ks).nodes then some (ms,(Fp sg y ks).nodes) else none:=by
 obtain⟨h0,hd,h1,h2,h3,h4,h5⟩:=h
 have hy:=(@JR y ⟨22,[],ks,false⟩).2.2 hb
 have h2:=h2 hy
 have he:¬y.pos<sg.length:=by rcases he with he|he
                              ·rw[hy] at he;cases he
                              ·exact he
 rw[IB,←h1]
 match N with
 |0=>have:=h0.1;omega
 |N+1=>
  rw[Dn hy,Option.bind_some,Gh,if_neg he,Option.bind_some]
  unfold Fp Am at hb ⊢
  split at hb
  ·simp [Bw] at hb
  ·rename_i hf
   rw[if_neg hf]
   have hf2:=SI (by simpa using hf)
   have:=h0.2.2.1
   rw[Be,if_neg (by simp only;omega)]
   simp only[Option.bind_some]
end Go.My
end
section
namespace Go.My
open Go.Eng Go.Proofs
variable {G:GInv}
theorem Mk{P:Program}{f:FuncId}{S:Sig}{fn:Func}{c:Code}(hfn:P.funcs[f]? =some fn)(hb:fn.body=some c)(hn:(fn.name== "runtime.NumGoroutine")=false)(hp:∀x,¬S.pre x):Aj G P f S:=
 ⟨⟨⟨fn,hfn,hn,by simp [hb]⟩,fun x y hx _=>(hp x hx).elim⟩,fun x hx=>(hp x hx).elim⟩
theorem b6p{r:Nat}{s:ST}{g:Gs}(hr:1≤r)(h:wP r 0 s g):False:=by
 have h1:=h.1.1.2.1.2;have h2:=h.2;omega
theorem b6q{r:Nat}{s:ST}{g:Gs}(hr:1≤r)(h:vP r 0 s g):False:=by
 have h1:=h.1.1.2.1.2;have h2:=h.2;omega
theorem b6r{s:ST}{g:Gs}(h:rOk s g∧g.deep≤20):vP 11 peN s g:=by
 have h1:=h.1.2.1;have h2:=h.1.1.1
 exact⟨h,by unfold peN;omega⟩
def okD(s:ST)(x:Gs):Prop:=rOk s x∧x.deep≤20
def okN(s:ST)(x:Gs):Prop:=okD s x∧x.bad=false∧x.pos<s.sg.length
theorem a4K{s:ST}{x:Gs}(h:okN s x):rOk s (An x)∧(An x).deep≤20:=⟨⟨h.1.1.1,GC h.1.1.2 h.2.2⟩,h.1.2⟩
theorem a4L{s:ST}{x:Gs}(h:rOk s x):rOk s (CV s.sg x):=⟨h.1,(NZ h.2).1.1⟩
theorem b6s{s:ST}{x:Gs}(h:rOk s x):(CV s.sg x).deep=x.deep∧x.pos≤(CV s.sg x).pos:=by
 have:=CX (NZ h.2);exact⟨this.1,this.2.1⟩
theorem Hp{s:ST}{x:Gs}{m:List UInt8}(h:rOk s x):rOk s (Aq s.sg x m)∧(Aq s.sg x m).deep=x.deep:=⟨⟨h.1,(HV h.2).1⟩,(HV h.2).2.1⟩
theorem KM{a:Bool}{k:Int}(h:a=true):decide (k>0)=(a&&decide (0<k)):=by simp [h]
theorem KN{a:Bool}{k:Int}(h:a=false):false=(a&&decide (0<k)):=by simp [h]
theorem b6t{s:ST}{x:Gs}(h:rOk s x)(hd:x.deep≤20)(hq:isG s.sg (CV s.sg x) 4 [61]=true):rOk s (Aw s.sg (CV s.sg x) [61])∧(Aw s.sg (CV s.sg x) [61]).deep≤20:=by
 rw[EH hq]
 have a:=a4L h;have b:=b6s h
 refine⟨⟨h.1,GC a.2 (Dp hq (by omega)).2⟩,?_⟩
 have e:(An (CV s.sg x)).deep=(CV s.sg x).deep:=rfl
 omega
theorem b6u{s:ST}{x:Gs}{b:Bool}{z:Int×Gs}(h:rOk s x)(hq:isG s.sg (CV s.sg x) 4 [61]=true)(hz:Ag s.sg (Aw s.sg (CV s.sg x) [61]) (Cn s.sg) z):
 Ag s.sg x (DA s.sg b) (CT s.sg z.2 [59],CS s.sg z.2 [59] ⟨12,Dh s.sg x,[z.1],b⟩):=by
 rw[EH hq] at hz;exact b5K h.1 h.2 hq hz
theorem b6v{s:ST}{x:Gs}(h:rOk s x)(hq:isG s.sg (CV s.sg x) 4 [61]=false):rOk s (Aw s.sg (CV s.sg x) [61]):=by
 rw[DI hq];exact a4L h
theorem b6w{s:ST}{x:Gs}{b:Bool}(h:rOk s x)(hq:isG s.sg (CV s.sg x) 4 [61]=false):
 Ag s.sg x (DA s.sg b) (CT s.sg (Aw s.sg (CV s.sg x) [61]) [59],CS s.sg (Aw s.sg (CV s.sg x) [61]) [59] ⟨12,Dh s.sg x,[],b⟩):=by
 rw[DI hq];exact b5J h.1 h.2 hq
theorem a4M{α:Type}{s:ST}{x:Gs}{f:Ps→Option (α×Ps)}{y:α×Gs}(h:okD s x)(hy:BF s.sg x f y):okD s y.2:=⟨⟨h.1.1,hy.1⟩,by have:=hy.2.1;have:=h.2;omega⟩
theorem a4N{s:ST}{x:Gs}{w:List UInt8}(h:okD s x)(hq:isG s.sg x 1 w=true):okN s x:=⟨h,(Dp hq (by omega)).1,(Dp hq (by omega)).2⟩
theorem a4O{s:ST}{x:Gs}{m:List UInt8}(h:okD s x)(hq:isG s.sg x 1 m=true):okD s (An x):=⟨(a4K (a4N h hq)).1,(a4K (a4N h hq)).2⟩
theorem b6x{s:ST}{x:Gs}{n:Nat}{b:Bool}{c q:Int×Gs}(h:okD s x)(hk:(pkG s.sg x 0).kind≠5)(h1:isG s.sg x 1 [118,97,114]=false)(h2:isG s.sg x 1 [114,101,116,117,114,110]=false)(h3:isG s.sg x 1 [105,102]=false)(hq:isG s.sg x 1 [119,104,105,108,101]=true)
 (hc:BF s.sg (An x) (DH s.sg) c) (hz:Ag s.sg c.2 (BN s.sg (stR s.sg n)) q):Ag s.sg x (stR s.sg (n+1) b) (AU q.2,Am q.2 ⟨17,[],[c.1,q.1],b⟩):=
 b5Y h.1.2 hk h1 h2 h3 hq (b5T (a4O h hq).1.2 hc hz)
theorem b6y{α:Type}{s:ST}{x:Gs}{n:Nat}{f:Ps→Option (α×Ps)}{y:α×Gs}(h:20-x.deep≤(n:Int))(hy:BF s.sg x f y):20-y.2.deep≤(n:Int):=by have:=hy.2.1;omega
theorem b6z{α:Type}{s:ST}{x:Gs}{n:Nat}{f:Ps→Option (α×Ps)}{y:α×Gs}(h:20-x.deep≤(n:Int))(hy:Ag s.sg x f y):20-y.2.deep≤(n:Int):=b6y h hy.1
attribute [local irreducible] pE Bx Dg fnR Ag BF gsOk Aq CS Am Dq EE Aw Ec En AU CT pkG isG nmG CV Dh DA Ho DH Cn BN stR CR
end Go.My
end
section
namespace Go.My
open Go.Eng Go.Proofs
variable {G:GInv}
attribute [local irreducible] pE Bx Dg fnR Ag BF gsOk Aq CS Am Dq EE Aw Ec En AU CT pkG isG nmG CV Dh DA Ho DH Cn BN stR CR FO EV Dl CW Hk BS
end Go.My
end
section
namespace Go.My
open Go.Eng
def IC(t:List UInt8)(i br:Int)(l:List Sg)(n:Nat):Prop:=
 (0≤i∧i≤t.length)∧(0≤br∧br≤i)∧(l.length:Int)≤i∧(t.length:Int)-i<n∧El t (t.length+1) 0 0=(El t n i br).map (l++ ·)
theorem b6A{t:List UInt8}:IC t 0 0 [] (t.length+1):=by
 refine⟨by omega,by omega,by simp,by simp;omega,?_⟩
 cases El t (t.length+1) 0 0<;>simp
theorem SS{t:List UInt8}{n:Nat}{i br:Int}{c:UInt8}(hc:t[i.toNat]? =some c):El t (n+1) i br=if c.toNat=32 then El t n (i+1) br
 else if c.toNat=10 then El t n (i+1) (br+1)
 else if(Bd (t.drop i.toNat)).ok then(El t n (i+(Bd (t.drop i.toNat)).size) 0).map (⟨(Bd (t.drop i.toNat)).kind,(Bd (t.drop i.toNat)).text,i,decide (br>1)⟩:: ·)
 else none:=by rw[El,hc]
theorem SU{t:List UInt8}{i br:Int}{l:List Sg}{n:Nat}(h:IC t i br l n)(hi:i<t.length):∃m,n=m+1:=by
 obtain⟨h1,h2,h3,h4,h5⟩:=h
 match n with
 |0=>omega
 |m+1=>exact⟨m,rfl⟩
theorem b6B{t:List UInt8}{i br:Int}{l:List Sg}{n:Nat}{c:UInt8}(hc:t[i.toNat]? =some c)(h:IC t i br l (n+1))(hi:i<t.length)(h32:c.toNat=32):IC t (i+1) br l n:=by
 obtain⟨h1,h2,h3,h4,h5⟩:=h
 refine⟨by omega,by omega,by omega,by omega,?_⟩
 rw[h5,SS hc,if_pos h32]
theorem b6C{t:List UInt8}{i br:Int}{l:List Sg}{n:Nat}{c:UInt8}(hc:t[i.toNat]? =some c)(h:IC t i br l (n+1))(hi:i<t.length)(h32:c.toNat=10):IC t (i+1) (br+1) l n:=by
 obtain⟨h1,h2,h3,h4,h5⟩:=h
 refine⟨by omega,by omega,by omega,by omega,?_⟩
 rw[h5,SS hc,if_neg (by omega),if_pos h32]
theorem b6D{t:List UInt8}{i br:Int}{l:List Sg}{n:Nat}{c:UInt8}(hc:t[i.toNat]? =some c)(h:IC t i br l (n+1))(hi:i<t.length)(h32:c.toNat≠32)(h10:c.toNat≠10)
 (hok:(Bd (t.drop i.toNat)).ok=true) (hz:1≤(Bd (t.drop i.toNat)).size∧(Bd (t.drop i.toNat)).size≤t.length-i):
 IC t (i+(Bd (t.drop i.toNat)).size) 0 (l++[⟨(Bd (t.drop i.toNat)).kind,(Bd (t.drop i.toNat)).text,i,decide (br>1)⟩]) n:=by
 obtain⟨h1,h2,h3,h4,h5⟩:=h
 refine⟨by omega,by omega,by simp;omega,by omega,?_⟩
 rw[h5,SS hc,if_neg h32,if_neg h10,if_pos hok]
 cases El t n (i+(Bd (t.drop i.toNat)).size) 0<;>simp
theorem b6E{t:List UInt8}{i br:Int}{l:List Sg}{n:Nat}{c:UInt8}(hc:t[i.toNat]? =some c)(h:IC t i br l (n+1))(hi:i<t.length)(h32:c.toNat≠32)(h10:c.toNat≠10)
 (hok:(Bd (t.drop i.toNat)).ok=false) (hl:¬3000<t.length):Ct t=none:=by
 rw[Ct,if_neg hl,h.2.2.2.2,SS hc,if_neg h32,if_neg h10,if_neg (by simp [hok])];rfl
theorem b6F{t:List UInt8}{i br:Int}{l:List Sg}{n:Nat}(h:IC t i br l n)(hi:¬i<t.length)(hl:¬3000<t.length):Ct t=some l:=by
 obtain⟨h1,h2,h3,h4,h5⟩:=h
 rw[Ct,if_neg hl,h5]
 match n with
 |0=>omega
 |n+1=>rw[El,List.getElem?_eq_none (by omega)];simp
theorem b6G{t:List UInt8}(h:3000<t.length):Ct t=none:=if_pos h
end Go.My
end
section
namespace Go.My
open Go.Eng Go.Proofs
variable {G:GInv}
theorem Xi{p:UInt8→Bool}{b:UInt8}{s:List UInt8}(h:p b=true):1≤((b::s).takeWhile p).length:=by
 rw[List.takeWhile_cons,if_pos h];simp
theorem SV{p:UInt8→Bool}{s:List UInt8}:(s.takeWhile p).length≤s.length:=(List.takeWhile_prefix p).length_le
theorem b6H{s:List UInt8}:(CM s).length≤s.length:=by
 unfold CM
 have:=(List.dropWhile_suffix (fun c:UInt8=>decide (c.toNat=32)) (l:=s.reverse)).length_le
 simpa using this
theorem SW{s:List UInt8}(h:(Bd s).ok=true):1≤(Bd s).size∧(Bd s).size≤s.length∧(Bd s).text.length≤s.length:=by
 match s with
 |[]=>cases h
 |b::s=>
  unfold Bd at h ⊢
  simp only at h ⊢
  split
  ·rename_i hb
   have:=Xi (s:=s) (p:=BR) (b:=b) (by simp [BR,hb]);have:=SV (p:=BR) (s:=b::s);simp only;omega
  ·rename_i hb
   rw[if_neg hb] at h
   split
   ·rename_i hb2
    have:=Xi (s:=s) (p:=Bj) (b:=b) hb2;have:=SV (p:=Bj) (s:=b::s);simp only;omega
   ·rename_i hb2
    rw[if_neg hb2] at h
    split
    ·rename_i hb3
     rw[if_pos hb3] at h
     simp only at h ⊢
     unfold DD at h ⊢
     split at h
     ·cases h
     ·simp only[List.length_take,List.length_cons] at*;omega
    ·rename_i hb3
     rw[if_neg hb3] at h
     split
     ·rename_i hb4
      have hb5:b=47:=by
       cases s with
       |nil=>simp at hb4
       |cons c s=>simp at hb4;exact hb4.1
      have h1:=Xi (s:=s) (p:=Cl) (b:=b) (by subst hb5;rfl);have h2:=SV (p:=Cl) (s:=b::s);have h3:= @b6H ((b::s).takeWhile Cl)
      simp only;omega
     ·rename_i hb4
      rw[if_neg hb4] at h
      split
      ·simp only[List.length_take,List.length_cons];omega
      ·rename_i hb5
       rw[if_neg hb5] at h
       split
       ·simp only[List.length_take,List.length_cons];omega
       ·rename_i hb6
        rw[if_neg hb6] at h
        cases h
def sgJ(t:List UInt8)(i br:Int)(l:List Sg)(n:Nat):Prop:=(IC t i br l n∧¬3000<t.length)∧∀e∈l,e.text.length≤3000
theorem b6I{t:List UInt8}(h:¬(t.length:Int)>3000):sgJ t 0 0 [] (t.length+1):=⟨⟨b6A,by omega⟩,by simp⟩
theorem Of{t:List UInt8}{i br:Int}{l:List Sg}{n:Nat}(h:sgJ t i br l n):((0≤i∧i≤t.length)∧(0≤br∧br≤i)∧(l.length:Int)≤i)∧t.length≤3000:=by
 have:=h.1.1;have:=h.1.2;exact⟨⟨h.1.1.1,h.1.1.2.1,h.1.1.2.2.1⟩,by omega⟩
theorem a4P{t:List UInt8}{i br:Int}{l:List Sg}{n:Nat}{c:UInt8}(hc:t[i.toNat]? =some c)(h:sgJ t i br l n)(hi:i<t.length)(h32:c.toNat=32):sgJ t (i+1) br l (n-1)∧n-1<n:=by
 obtain⟨m,rfl⟩:=SU h.1.1 hi
 exact⟨⟨⟨b6B hc h.1.1 hi h32,h.1.2⟩,h.2⟩,by omega⟩
theorem a4Q{t:List UInt8}{i br:Int}{l:List Sg}{n:Nat}{c:UInt8}(hc:t[i.toNat]? =some c)(h:sgJ t i br l n)(hi:i<t.length)(h32:c.toNat=10):sgJ t (i+1) (br+1) l (n-1)∧n-1<n:=by
 obtain⟨m,rfl⟩:=SU h.1.1 hi
 exact⟨⟨⟨b6C hc h.1.1 hi h32,h.1.2⟩,h.2⟩,by omega⟩
theorem a4R{t:List UInt8}{i br:Int}{l:List Sg}{n:Nat}(h:sgJ t i br l n)(hok:(Bd (t.drop i.toNat)).ok=true):1≤(Bd (t.drop i.toNat)).size∧(Bd (t.drop i.toNat)).size≤t.length-i∧(Bd (t.drop i.toNat)).text.length≤3000:=by
 have a:=SW hok
 have b:=(Of h)
 simp only[List.length_drop] at a
 omega
theorem b6J{t:List UInt8}{i br:Int}{l:List Sg}{n:Nat}{c:UInt8}(hc:t[i.toNat]? =some c)(h:sgJ t i br l n)(hi:i<t.length)(h32:c.toNat≠32)(h10:c.toNat≠10)
 (hok:(Bd (t.drop i.toNat)).ok=true):
 sgJ t (i+(Bd (t.drop i.toNat)).size) 0 (l++[⟨(Bd (t.drop i.toNat)).kind,(Bd (t.drop i.toNat)).text,i,decide (br>1)⟩]) (n-1)∧n-1<n:=by
 obtain⟨m,rfl⟩:=SU h.1.1 hi
 have hz:=a4R h hok
 refine⟨⟨⟨b6D hc h.1.1 hi h32 h10 hok ⟨hz.1,hz.2.1⟩,h.1.2⟩,?_⟩,by omega⟩
 intro e he
 rcases List.mem_append.1 he with he|he
 ·exact h.2 e he
 ·simp at he;subst he;exact hz.2.2
theorem b6K{t:List UInt8}{i br:Int}{l:List Sg}{n:Nat}{c:UInt8}(hc:t[i.toNat]? =some c)(h:sgJ t i br l n)(hi:i<t.length)(h32:c.toNat≠32)(h10:c.toNat≠10)
 (hok:(Bd (t.drop i.toNat)).ok=false):Ct t=none:=by
 obtain⟨m,rfl⟩:=SU h.1.1 hi
 exact b6E hc h.1.1 hi h32 h10 hok h.1.2
def sgQ(t:List UInt8)(l:List Sg):Prop:=(Ct t=some l∧sgB l)∨(Ct t=none∧l=[])
theorem a4S{t:List UInt8}{i br:Int}{l:List Sg}{n:Nat}(h:sgJ t i br l n)(hi:¬i<t.length):(Ct t).isSome=true∧sgQ t l:=by
 have a:=b6F h.1.1 hi h.1.2
 have b:=Of h
 exact⟨by rw[a];rfl,.inl ⟨a,by omega,h.2⟩⟩
theorem SX{t:List UInt8}(h:Ct t=none):(Ct t).isSome=false∧sgQ t []:=⟨by rw[h];rfl,.inr ⟨h,rfl⟩⟩
theorem a4T{t:List UInt8}(h:(t.length:Int)>3000):Ct t=none:=b6G (by omega)
abbrev iF {α β:Type} (i:Int×Int×Bool×List Nd×α×β):Gs:=⟨i.1,i.2.1,i.2.2.1,i.2.2.2.1⟩
theorem b6L{sg:List Sg}:FR sg ⟨0,0,false,[]⟩ [] [] (sg.length+1):=b6l
theorem b6M{sg:List Sg}{y:Gs}{ks:List Int}{ms:List (Int×Int)}{N:Nat}{b:Bool}{z:Int×Gs}(h:FR sg y ks ms N)(hb:y.bad=false)(hl:y.pos<sg.length)(hz:Ag sg y (CW sg b) z)(e:b=((pkG sg y 0).blank&&decide (0<(ks.length:Int)))):
 FR sg z.2 (ks++[z.1]) (ms++[(y.pos,z.2.pos)]) (N-1)∧N-1<N:=by
 subst e
 exact Oc (b6m h hb hl (z:=z) (by
  have:decide (0<ks.length)=decide (0<(ks.length:Int)):=by simp
  rw[this];exact hz))
theorem b6N{s:ST}{y:Gs}{ks:List Int}{ms:List (Int×Int)}{N:Nat}(hs:sgB s.sg)(h:FR s.sg y ks ms N):okD s y:=⟨⟨hs,h.1⟩,by have:=h.2.1;omega⟩
theorem a4U{sg:List Sg}{y:Gs}{ks:List Int}{ms:List (Int×Int)}{N:Nat}(hs:sgB sg)(h:FR sg y ks ms N):ks.length≤3001∧ms.length=ks.length∧0≤y.pos∧y.pos≤sg.length:=by
 have h1:=h.1.1;have h2:=hs.1;have h3:=h.2.2.2.2.1;have h4:=h.2.2.2.2.2.2
 omega
attribute [local irreducible] pE Bx Dg fnR Ag BF gsOk Aq CS Am Dq EE Aw Ec En AU CT pkG isG nmG CV Dh DA Ho DH Cn BN stR CR FO EV Dl CW Hk BS FR sgJ
end Go.My
end
section
namespace Go.My
open Go.Eng
def Tb(s s2:Ps):Prop:=((∀x∈s.nodes,x.text.length≤3000)→∀x∈s2.nodes,x.text.length≤3000)∧∃e,s2.nodes=s.nodes++e
theorem CB{s1 s2 s3:Ps}(h:Tb s1 s2)(g:Tb s2 s3):Tb s1 s3:=⟨fun hf=>g.1 (h.1 hf),by obtain⟨e,h2⟩:=h.2;obtain⟨e',g2⟩:=g.2;exact⟨e++e',by rw[g2,h2,List.append_assoc]⟩⟩
theorem Og{s1 s2:Ps}(h:s2.nodes=s1.nodes):Tb s1 s2:=⟨fun hf=>by rw[h];exact hf,[],by simp [h]⟩
theorem CG{s1 s2 s3 s4:Ps}(h:Tb s1 s2)(h1:s3.nodes=s1.nodes)(h2:s4.nodes=s2.nodes):Tb s3 s4:=⟨fun hf=>by rw[h2];rw[h1] at hf;exact h.1 hf,by rw[h1,h2];exact h.2⟩
def Pb(r:PR)(s:Ps):Prop:=∀ {k:Int} {s2:Ps},r=some (k,s2)→Tb s s2
def Sb(sg:List Sg):Prop:=∀i,(sgO sg i).text.length≤3000
theorem HW{x:Nd}{s s2:Ps}{k:Int}(hx:x.text.length≤3000)(h:Be x s=some (k,s2)):Tb s s2:=by
 unfold Be at h;split at h
 ·cases h
 ·cases h
  refine⟨fun hf y hy=> ?_,[x],rfl⟩
  rcases List.mem_append.1 hy with hy|hy
  ·exact hf y hy
  ·simp at hy;subst hy;exact hx
theorem Xj{r:PR}{k:Int}{s2:Ps}(h:Gf r=some (k,s2)):∃s3,r=some (k,s3)∧s2.nodes=s3.nodes:=by
 obtain⟨p,h1,h2⟩:=Option.map_eq_some_iff.1 h
 cases h2;exact⟨p.2,h1,rfl⟩
theorem IE{sg:List Sg}{m:List UInt8}{x:Nd}{s s2:Ps}{k:Int}(hx:x.text.length≤3000)(h:Bs sg m x s=some (k,s2)):Tb s s2:=by
 unfold Bs at h;split at h
 ·obtain⟨s3,h1,h2⟩:=Xj h
  exact CG (HW hx h1) rfl h2
 ·cases h
theorem Jl{sg:List Sg}{t:List UInt8}{s s2:Ps}(h:BE sg t s=some s2):s2.nodes=s.nodes:=by
 unfold BE at h;split at h
 ·cases h;rfl
 ·cases h
theorem Xk{sg:List Sg}{s s2:Ps}{t:List UInt8}(h:EU sg s=some (t,s2)):s2.nodes=s.nodes:=by
 unfold EU at h;split at h
 ·cases h;rfl
 ·cases h
theorem Qj{sg:List Sg}{one:Ps→PR}{m:List UInt8}(ho:∀s,Pb (one s) s):∀ {n:Nat} {ks ks2:List Int} {s s2:Ps},Bx sg one m n ks s=some (ks2,s2)→Tb s s2
 |0,_,_,_,_,h=>by cases h
 |n+1,ks,ks2,s,s2,h=>by
  rw[Bx] at h;split at h
  ·cases h;exact Og rfl
  ·obtain⟨p,h1,h2⟩:=Option.bind_eq_some_iff.1 h
   have t1:Tb s p.2:=(ho s (k:=p.1) (s2:=p.2) h1)
   split at h2
   ·exact CB t1 (CG (Qj ho h2) rfl rfl)
   ·cases h2;exact t1
theorem b6O{sg:List Sg}{l:Nat}{s:Ps}:(IA sg l s).length≤2:=by
 unfold IA
 cases h:(BJ l).find? fun m=>isM sg s m with
 |none=>simp
 |some m=>
  have hm:=List.mem_of_find?_eq_some h
  have key:∀m∈BJ l,m.length≤2:=by
   intro m hm
   unfold BJ at hm
   split at hm<;>(simp at hm;(try rcases hm with rfl|rfl)<;>simp_all)
  exact key m hm
theorem Xl{sg:List Sg}{l:Nat}{one:Ps→PR}(ho:∀s,Pb (one s) s):∀ {n:Nat} {t:List UInt8} {ks:List Int} {k:Int} {s s2:Ps},((t=[]→∃j,ks=[j])∧t.length≤2)→Gg sg l one n t ks s=some (k,s2)→Tb s s2
 |0,_,_,_,_,_,_,h=>by cases h
 |n+1,t,ks,k,s,s2,ht,h=>by
  rw[Gg] at h;split at h
  ·obtain⟨p,h1,h2⟩:=Option.bind_eq_some_iff.1 h
   exact CB (HW (by have:=ht.2;simp only;omega) (k:=p.1) (s2:=p.2) h1) (Xl ho ⟨fun _=>⟨_,rfl⟩,by simp⟩ h2)
  ·rename_i hc
   split at h
   ·rename_i he
    have e:t=[]:=by
     rcases Classical.em (t=[]) with e|e
     ·exact e
     ·exact absurd ⟨e,by rw[he];exact fun x=>e x.symm⟩ hc
    obtain⟨j,rfl⟩:=ht.1 e
    cases h;exact Og rfl
   ·rename_i he
    obtain⟨p,h1,h2⟩:=Option.bind_eq_some_iff.1 h
    have t1:Tb s p.2:=(CG (ho (adv s) (k:=p.1) (s2:=p.2) h1) (s3:=s) (s4:=p.2) rfl rfl)
    exact CB t1 (Xl ho ⟨fun e=>absurd e he,b6O⟩ h2)
theorem a4V{sg:List Sg}{val:Ps→PR}(ho:∀s,Pb (val s) s){k k2:Int}{s s2:Ps}(h:Dg sg val k s=some (k2,s2)):Tb s s2:=by
 obtain⟨s1,h1,h2⟩:=Option.bind_eq_some_iff.1 h
 obtain⟨p,h3,h4⟩:=Option.bind_eq_some_iff.1 h2
 exact CB (CG (Qj ho (ks2:=p.1) (s2:=p.2) h3) (Jl h1).symm rfl) (IE (by simp) h4)
theorem Xm{sg:List Sg}(hS:Sb sg){s s2:Ps}{t:List UInt8}(h:EU sg s=some (t,s2)):t.length≤3000:=by
 unfold EU at h;split at h
 ·cases h;exact hS _
 ·cases h
section
variable {sg:List Sg} (hS:Sb sg)
include hS
theorem Oh{k:Int}{b:Bool}{s:Ps}:Pb (FL sg k b s) s:=fun h=>by
 obtain⟨s3,h1,h2⟩:=Xj h
 exact CG (HW (by first|(simp;done)|exact hS _|(simp only;exact hS _)|assumption) h1) rfl h2
theorem SY{s:Ps}:Pb (BS sg s) s:=fun h=>by
 unfold BS at h;split at h
 ·exact(Oh hS) h
 ·cases h
theorem Xn{val:Ps→PR}(ho:∀s,Pb (val s) s):∀ {n:Nat} {k k2:Int} {s s2:Ps},FM sg val n k s=some (k2,s2)→Tb s s2
 |0,_,_,_,_,h=>by cases h
 |n+1,k,k2,s,s2,h=>by
  rw[FM] at h;split at h
  ·obtain⟨p,h1,h2⟩:=Option.bind_eq_some_iff.1 h
   exact CB (a4V ho (k2:=p.1) (s2:=p.2) h1) (Xn ho h2)
  ·split at h
   ·split at h
    ·obtain⟨p,h1,h2⟩:=Option.bind_eq_some_iff.1 h
     obtain⟨s3,h3,h4⟩:=Xj (k:=p.1) (s2:=p.2) h1
     exact CB (CG (HW (by first|(simp;done)|exact hS _|(simp only;exact hS _)|assumption) h3) rfl h4) (Xn ho h2)
    ·cases h
   ·cases h;exact Og rfl
theorem a4W{val:Ps→PR}(ho:∀s,Pb (val s) s):∀ {n:Nat} {ks ks2:List Int} {s s2:Ps},Fl sg val n ks s=some (ks2,s2)→Tb s s2
 |0,_,_,_,_,h=>by cases h
 |n+1,ks,ks2,s,s2,h=>by
  rw[Fl] at h;split at h
  ·obtain⟨p,h1,h2⟩:=Option.bind_eq_some_iff.1 h
   obtain⟨q,h3,h4⟩:=Option.bind_eq_some_iff.1 h2
   have t1:Tb s q.2:=CB (CG (SY hS (k:=p.1) (s2:=p.2) h1) rfl rfl) (a4V ho (k2:=q.1) (s2:=q.2) h3)
   have t2:=t1
   exact CB t2 (a4W ho h4)
  ·cases h;exact Og rfl
theorem GF:∀(n:Nat) (t:NT) (s:Ps),Pb (pE sg n t s) s
 |0,_,_,k,s2,h=>by cases h
 |n+1,.value,s,k,s2,h=>by
  rw[pE] at h
  obtain⟨p,h1,h2⟩:=Option.bind_eq_some_iff.1 h
  have t1:=GF n .pick s (k:=p.1) (s2:=p.2) h1
  split at h2
  ·obtain⟨q,h3,h4⟩:=Option.bind_eq_some_iff.1 h2
   exact CB t1 (CB ((a4W hS) (GF n .value) (ks2:=q.1) (s2:=q.2) h3) (HW (by first|(simp;done)|exact hS _|(simp only;exact hS _)|assumption) h4))
  ·cases h2;exact t1
 |n+1,.pick,s,k,s2,h=>by
  rw[pE] at h
  split at h
  ·cases h
  ·obtain⟨p,h1,h2⟩:=Option.bind_eq_some_iff.1 h
   have t1:Tb s p.2:=CG (GF n (.chain 0) _ (k:=p.1) (s2:=p.2) h1) rfl rfl
   split at h2
   ·obtain⟨a,h3,h4⟩:=Option.bind_eq_some_iff.1 h2
    obtain⟨s1,h5,h6⟩:=Option.bind_eq_some_iff.1 h4
    obtain⟨b,h7,h8⟩:=Option.bind_eq_some_iff.1 h6
    obtain⟨q,h9,h10⟩:=Option.map_eq_some_iff.1 h8
    have t2:Tb p.2 a.2:=CG ((GF n .pick _ (k:=a.1) (s2:=a.2) h3)) rfl rfl
    have t3:Tb a.2 b.2:=CG ((GF n .pick _ (k:=b.1) (s2:=b.2) h7)) (Jl h5).symm rfl
    cases h10
    exact CB t1 (CB t2 (CB t3 (CG (HW (by first|(simp;done)|exact hS _|(simp only;exact hS _)|assumption) (k:=q.1) (s2:=q.2) h9) rfl rfl)))
   ·cases h2;exact CG t1 rfl rfl
 |n+1,.chain l,s,k,s2,h=>by
  rw[pE] at h
  split at h
  ·exact GF n .fin s h
  ·obtain⟨p,h1,h2⟩:=Option.bind_eq_some_iff.1 h
   exact CB (GF n _ s (k:=p.1) (s2:=p.2) h1) (Xl (GF n _) ⟨fun _=>⟨_,rfl⟩,by simp⟩ h2)
 |n+1,.fin,s,k,s2,h=>by
  rw[pE] at h
  obtain⟨p,h1,h2⟩:=Option.bind_eq_some_iff.1 h
  exact CB (GF n .base s (k:=p.1) (s2:=p.2) h1) ((Xn hS) (GF n .value) h2)
 |n+1,.base,s,k,s2,h=>by
  rw[pE] at h
  split at h
  ·exact(SY hS) h
  split at h
  ·exact(Oh hS) h
  split at h
  ·exact(Oh hS) h
  split at h
  ·obtain⟨p,h1,h2⟩:=Option.bind_eq_some_iff.1 h
   exact CB (CG (Qj (GF n .value) (ks2:=p.1) (s2:=p.2) h1) rfl rfl) (IE (by first|(simp;done)|exact hS _|(simp only;exact hS _)|assumption) h2)
  split at h
  ·obtain⟨p,h1,h2⟩:=Option.bind_eq_some_iff.1 h
   obtain⟨s3,h3,h4⟩:=Option.bind_eq_some_iff.1 h2
   obtain⟨s4,h5,h6⟩:=Option.bind_eq_some_iff.1 h4
   obtain⟨q,h7,h8⟩:=Option.bind_eq_some_iff.1 h6
   have t1:Tb s p.2:=CG (Qj (fun s=>(SY hS)) (ks2:=p.1) (s2:=p.2) h1) rfl rfl
   have t2:Tb p.2 q.2:=CG ((GF n .pick _ (k:=q.1) (s2:=q.2) h7)) (s3:=p.2) (s4:=q.2) (by rw[Jl h5,Jl h3]) rfl
   exact CB t1 (CB t2 (HW (by first|(simp;done)|exact hS _|(simp only;exact hS _)|assumption) h8))
  split at h
  ·obtain⟨p,h1,h2⟩:=Option.bind_eq_some_iff.1 h
   exact CB (CG (GF n .value _ (k:=p.1) (s2:=p.2) h1) rfl rfl) (IE (by first|(simp;done)|exact hS _|(simp only;exact hS _)|assumption) h2)
  ·cases h
theorem Qk(s:Ps):Pb (Cn sg s) s:=(GF hS) _ _ _
theorem Xo{b:Bool}(s:Ps):Pb (DA sg b s) s:=fun h=>by
 obtain⟨p,h1,h2⟩:=Option.bind_eq_some_iff.1 h
 have e:=Xk (t:=p.1) (s2:=p.2) h1
 have ht:=Xm hS (t:=p.1) (s2:=p.2) h1
 split at h2
 ·obtain⟨q,h3,h4⟩:=Option.bind_eq_some_iff.1 h2
  exact CB (CG ((Qk hS) _ (k:=q.1) (s2:=q.2) h3) e.symm rfl) (IE (by first|(simp;done)|exact hS _|(simp only;exact hS _)|assumption) h4)
 ·exact CG (IE (by first|(simp;done)|exact hS _|(simp only;exact hS _)|assumption) h2) e.symm rfl
theorem a4X(s:Ps):Pb (DH sg s) s:=fun h=>by
 obtain⟨s1,h1,h2⟩:=Option.bind_eq_some_iff.1 h
 obtain⟨p,h3,h4⟩:=Option.bind_eq_some_iff.1 h2
 obtain⟨s3,h5,h6⟩:=Option.map_eq_some_iff.1 h4
 cases h6
 exact CG ((Qk hS) _ (k:=p.1) (s2:=p.2) h3) (Jl h1).symm (Jl h5)
omit hS in
theorem Xp{one:Bool→Ps→PR}{m:List UInt8}(ho:∀b s,Pb (one b s) s):∀ {n:Nat} {ks ks2:List Int} {s s2:Ps},CR sg one m n ks s=some (ks2,s2)→Tb s s2
 |0,_,_,_,_,h=>by cases h
 |n+1,ks,ks2,s,s2,h=>by
  rw[CR] at h;split at h
  ·cases h;exact Og rfl
  ·obtain⟨p,h1,h2⟩:=Option.bind_eq_some_iff.1 h
   have t1:Tb s p.2:=(ho _ s (k:=p.1) (s2:=p.2) h1)
   exact CB t1 (Xp ho h2)
omit hS in
theorem SZ{one:Bool→Ps→PR}(ho:∀b s,Pb (one b s) s)(s:Ps):Pb (BN sg one s) s:=fun h=>by
 unfold BN at h
 split at h
 ·cases h
 ·obtain⟨s1,h1,h2⟩:=Option.bind_eq_some_iff.1 h
  obtain⟨p,h3,h4⟩:=Option.bind_eq_some_iff.1 h2
  obtain⟨q,h5,h6⟩:=Option.map_eq_some_iff.1 h4
  cases h6
  exact CB (CG ((Xp) ho (ks2:=p.1) (s2:=p.2) h3) (Jl h1).symm rfl) (CG (IE (by first|(simp;done)|exact hS _|(simp only;exact hS _)|assumption) (k:=q.1) (s2:=q.2) h5) rfl rfl)
theorem Ta:∀(n:Nat) (b:Bool) (s:Ps),Pb (stR sg n b s) s
 |0,_,_,k,s2,h=>by cases h
 |n+1,b,s,k,s2,h=>by
  rw[stR] at h
  split at h
  ·exact(Oh hS) h
  split at h
  ·exact CG ((Xo hS) _ h) rfl rfl
  split at h
  ·split at h
   ·exact CG (IE (by first|(simp;done)|exact hS _|(simp only;exact hS _)|assumption) h) rfl rfl
   ·obtain⟨p,h1,h2⟩:=Option.bind_eq_some_iff.1 h
    exact CB (CG ((Qk hS) _ (k:=p.1) (s2:=p.2) h1) rfl rfl) (IE (by first|(simp;done)|exact hS _|(simp only;exact hS _)|assumption) h2)
  split at h
  ·obtain⟨p,h1,h2⟩:=Option.bind_eq_some_iff.1 h
   obtain⟨q,h3,h4⟩:=Option.bind_eq_some_iff.1 h2
   have t1:Tb s p.2:=CG ((a4X hS) _ (k:=p.1) (s2:=p.2) h1) rfl rfl
   have t2:Tb p.2 q.2:=((SZ) (Ta n) _ (k:=q.1) (s2:=q.2) h3)
   split at h4
   ·obtain⟨r,h5,h6⟩:=Option.bind_eq_some_iff.1 h4
    have t3:Tb q.2 r.2:=CG (((SZ) (Ta n) _ (k:=r.1) (s2:=r.2) h5)) rfl rfl
    exact CB t1 (CB t2 (CB t3 (HW (by first|(simp;done)|exact hS _|(simp only;exact hS _)|assumption) h6)))
   ·exact CB t1 (CB t2 (HW (by first|(simp;done)|exact hS _|(simp only;exact hS _)|assumption) h4))
  split at h
  ·obtain⟨p,h1,h2⟩:=Option.bind_eq_some_iff.1 h
   obtain⟨q,h3,h4⟩:=Option.bind_eq_some_iff.1 h2
   have t1:Tb s p.2:=CG ((a4X hS) _ (k:=p.1) (s2:=p.2) h1) rfl rfl
   have t2:Tb p.2 q.2:=((SZ) (Ta n) _ (k:=q.1) (s2:=q.2) h3)
   exact CB t1 (CB t2 (HW (by first|(simp;done)|exact hS _|(simp only;exact hS _)|assumption) h4))
  split at h
  ·obtain⟨p,h1,h2⟩:=Option.bind_eq_some_iff.1 h
   exact CB (CG ((Qk hS) _ (k:=p.1) (s2:=p.2) h1) rfl rfl) (IE (by first|(simp;done)|exact hS _|(simp only;exact hS _)|assumption) h2)
  ·obtain⟨p,h1,h2⟩:=Option.bind_eq_some_iff.1 h
   exact CB ((Qk hS) _ (k:=p.1) (s2:=p.2) h1) (IE (by first|(simp;done)|exact hS _|(simp only;exact hS _)|assumption) h2)
theorem a4Y{b:Bool}(s:Ps):Pb (EV sg b s) s:=fun h=>by
 obtain⟨p,h1,h2⟩:=Option.bind_eq_some_iff.1 h
 obtain⟨s1,h3,h4⟩:=Option.bind_eq_some_iff.1 h2
 obtain⟨q,h5,h6⟩:=Option.bind_eq_some_iff.1 h4
 obtain⟨s3,h7,h8⟩:=Option.bind_eq_some_iff.1 h6
 obtain⟨r,h9,h10⟩:=Option.bind_eq_some_iff.1 h8
 have e:=Xk (t:=p.1) (s2:=p.2) h1
 have ht:=Xm hS (t:=p.1) (s2:=p.2) h1
 have t1:Tb s q.2:=CG (Qj (fun s=>(SY hS)) (ks2:=q.1) (s2:=q.2) h5) (by rw[Jl h3,e]) rfl
 have t2:Tb q.2 r.2:=CG (((SZ) ((Ta hS) stN) _ (k:=r.1) (s2:=r.2) h9)) (s3:=q.2) (s4:=r.2) (Jl h7).symm rfl
 exact CB t1 (CB t2 (HW (by first|(simp;done)|exact hS _|(simp only;exact hS _)|assumption) h10))
theorem b6P(b:Bool)(s:Ps):Pb (Dl sg b s) s:=fun h=>by
 unfold Dl at h
 split at h
 ·exact(Oh hS) h
 split at h
 ·exact CG ((Xo hS) _ h) rfl rfl
 ·exact(a4Y hS) _ h
theorem b6Q{b:Bool}(s:Ps):Pb (Hk sg b s) s:=fun h=>by
 obtain⟨p,h1,h2⟩:=Option.bind_eq_some_iff.1 h
 obtain⟨s1,h3,h4⟩:=Option.bind_eq_some_iff.1 h2
 obtain⟨q,h5,h6⟩:=Option.bind_eq_some_iff.1 h4
 have ht:=Xm hS (t:=p.1) (s2:=p.2) h1
 exact CB (CG (Xp (b6P hS) (ks2:=q.1) (s2:=q.2) h5) (by rw[Jl h3,Xk (t:=p.1) (s2:=p.2) h1]) rfl) (IE (by first|(simp;done)|exact hS _|(simp only;exact hS _)|assumption) h6)
theorem b6R(b:Bool)(s:Ps):Pb (CW sg b s) s:=fun h=>by
 unfold CW at h
 split at h
 ·exact(Oh hS) h
 split at h
 ·exact CG ((Xo hS) _ h) rfl rfl
 split at h
 ·exact CG ((b6Q hS) _ h) rfl rfl
 ·exact(a4Y hS) _ h
theorem Xq:∀ {n:Nat} {ks ks2:List Int} {ms ms2:List (Int×Int)} {s s2:Ps},Gh sg n ks ms s=some ((ks2,ms2),s2)→Tb s s2
 |0,_,_,_,_,_,_,h=>by cases h
 |n+1,ks,ks2,ms,ms2,s,s2,h=>by
  rw[Gh] at h;split at h
  ·obtain⟨p,h1,h2⟩:=Option.bind_eq_some_iff.1 h
   have t1:Tb s p.2:=((b6R hS) _ s (k:=p.1) (s2:=p.2) h1)
   exact CB t1 (Xq h2)
  ·cases h;exact Og rfl
end
theorem Tc{t:List UInt8}:∀(n:Nat) (i br:Int) (l:List Sg),El t n i br=some l→∀e∈l,e.text.length≤t.length
 |0,_,_,_,h=>by cases h
 |n+1,i,br,l,h=>by
  rw[El] at h
  split at h
  ·cases h;intro e he;cases he
  ·split at h
   ·exact Tc n _ _ l h
   ·split at h
    ·exact Tc n _ _ l h
    ·split at h
     ·rename_i hok
      obtain⟨l2,h1,h2⟩:=Option.map_eq_some_iff.1 h
      subst h2
      intro e he
      rcases List.mem_cons.1 he with he|he
      ·subst he
       have:=(SW hok).2.2
       simp only[List.length_drop] at this ⊢;omega
      ·exact Tc n _ _ l2 h1 e he
     ·cases h
theorem Xr{t:List UInt8}{sg:List Sg}(h:Ct t=some sg):Sb sg:=by
 unfold Ct at h
 split at h
 ·cases h
 ·rename_i hl
  intro i
  unfold sgO
  rw[List.getD_eq_getElem?_getD]
  cases hh:sg[i.toNat]? with
  |none=>simp [ED]
  |some e=>have:=Tc _ _ _ _ h e (List.mem_of_getElem? hh);simp only[Option.getD_some];omega
theorem b6S{t:List UInt8}{L:List Nd}(h:Cb t=some L):∀x∈L,x.text.length≤3000:=by
 unfold Cb at h
 obtain⟨sg,h1,h2⟩:=Option.bind_eq_some_iff.1 h
 rw[Option.map_eq_some_iff] at h2
 obtain⟨⟨ms,L'⟩,h3,h4⟩:=h2
 simp only at h4;subst h4
 have hS:=Xr h1
 unfold IB at h3
 obtain⟨⟨⟨ks,ms2⟩,s⟩,h5,h6⟩:=Option.bind_eq_some_iff.1 h3
 obtain⟨⟨k,s2⟩,h7,h8⟩:=Option.bind_eq_some_iff.1 h6
 simp only at h7 h8
 split at h8
 ·simp only[Option.some.injEq,Prod.mk.injEq] at h8
  rw[←h8.2]
  exact(HW (by simp) h7).1 ((Xq hS h5).1 (by simp [ps0]))
 ·cases h8
end Go.My
end
section
namespace Go.My
open Go.Eng Go.Proofs
variable {G:GInv}
def Ah(p:List UInt8×Int):List AV:=[.str p.1,.int .i64 p.2]
def cls(l:Cls):AV:= .sl false 0 2 (List UInt8×Int) Ah l
def KO(l:Cls):AV:= .sl true 0 2 (List UInt8×Int) Ah l
theorem a4Z{a:List UInt8}{b:Int}{q:List UInt8×Int→Prop}(h:q (a,b)):∃x:List UInt8×Int,a=x.1∧b=x.2∧q x:=⟨(a,b),rfl,rfl,h⟩
def Jm(l:Cls)(t:List UInt8)(i:Int):Prop:=(0≤i∧i≤l.length)∧Cz l t=Cz (l.drop i.toNat) t
def nOf:Option Int→Int
 |some n=>n
 |none=>0
theorem b6T{α:Type}{l:List α}{i:Int}{e:α}(h:l[i.toNat]? =some e):l.drop i.toNat=e::l.drop (i.toNat+1):=by
 obtain⟨hi,he⟩:=List.getElem?_eq_some_iff.1 h
 rw[List.drop_eq_getElem_cons hi,he]
theorem GG{α:Type}{l:List α}{i:Int}{e:α}(h0:0≤i)(h:l[i.toNat]? =some e):l.drop i.toNat=e::l.drop (i+1).toNat:=by
 rw[b6T h,show(i+1).toNat=i.toNat+1 by omega]
theorem b6U{l:Cls}{t:List UInt8}:Jm l t 0:=⟨by omega,rfl⟩
theorem b6V{l:Cls}{t:List UInt8}{i:Int}(h:Jm l t i):0≤i∧i≤l.length:=h.1
theorem a5a{l:Cls}{t:List UInt8}{i:Int}{e:List UInt8×Int}(h:Jm l t i)(he:l[i.toNat]? =some e)(hq:e.1=t):Cz l t=some e.2:=by
 rw[h.2,GG h.1.1 he,Cz,if_pos hq]
theorem b6W{l:Cls}{t:List UInt8}{i:Int}{e:List UInt8×Int}(h:Jm l t i)(he:l[i.toNat]? =some e)(hq:¬e.1=t):Jm l t (i+1):=by
 have hl:=(List.getElem?_eq_some_iff.1 he).1
 exact⟨by have:=h.1;omega,by rw[h.2,GG h.1.1 he,Cz,if_neg hq]⟩
theorem a5b{l:Cls}{t:List UInt8}{i:Int}(h:Jm l t i)(hl:¬i<(l.length:Int)):Cz l t=none:=by
 rw[h.2,List.drop_eq_nil_of_le (by omega)];rfl
attribute [local irreducible] Jm
def Ml:Sig:= {X:=Cls,args:=fun x=>[cls x],pre:=fun x=>x.length≤2^30,Y:=Unit,post:=fun x y=>True,res:=fun x y=>KO x,outs:=fun x y=>[.top],keep:=false}
theorem b6X:Aj G Tryz.prog 52 Ml:=
 vcFun_okP [] [(42,⟨List UInt8×Int,Ah⟩)] false (fun x=>[]) Tryz.func52 rfl (by decide) trivial (fun(x:Cls)=>(∀(y:Unit),True→(∀(x:List UInt8×Int),True∧True∧True)∧True∧True)∧∀(b:Bool),(b=true→x=[])→Aa b (rA Ml x [.nil,.top]) (∃(zs:List (List UInt8×Int)),AV.sl false 0 2 (List UInt8×Int) Ah x=AV.sl false 0 2 (List UInt8×Int) Ah zs∧Bo Ah∧AY ((0:Nat)+List.length zs) (24:Nat)∧rA Ml x [AV.sl true 0 2 (List UInt8×Int) Ah ([]++zs),.top])) (fun x=>by kernel_rfl) fun(x:Cls) (hx:x.length≤2^30)=>(by
 dsimp only[Ah,cls,KO,rA,Ml,Au,Az]
 have hx:x.length≤2^30:=hx
 (repeat' first|(with_reducible first|rfl|exact True.intro|apply AK|apply And.intro|((first|apply AA|apply AI|apply AB|apply AJ)<;>intro _))|(apply Ax<;>intro _)|apply AH|refine Ae () ?_ ?_|((first|apply AO|apply AN|apply AM|apply AL|apply AG|apply AF|apply AE|apply AD|apply AC)<;>try dsimp only)|apply Ae|(refine Prod.forall.2 ?_;intro _;try dsimp only)|(intro _;try dsimp only))
 all_goals first
  |rfl
  |(rename_i h0 hb;rw[h0 hb];done)
  |((try simp only[AY,List.length_nil]);omega)
  |skip)
def cpI(l:Cls)(t:List UInt8)(n i:Int):Prop:=((0≤i∧i≤l.length)∧l.length≤2^30)∧CA l t n=l.take i.toNat++CA (l.drop i.toNat) t n
theorem a5c{l:Cls}{t:List UInt8}{n:Int}(h:l.length≤2^30):cpI l t n 0:=⟨⟨by omega,h⟩,by simp⟩
theorem a5d{l:Cls}{t:List UInt8}{n i:Int}(h:cpI l t n i):(0≤i∧i≤l.length)∧l.length≤2^30:=h.1
theorem a5e{l:Cls}{t:List UInt8}{n i:Int}{e:List UInt8×Int}(h:cpI l t n i)(he:l[i.toNat]? =some e)(hq:¬e.1=t):cpI l t n (i+1):=by
 have hl:=(List.getElem?_eq_some_iff.1 he).1
 refine⟨⟨by have:=h.1;omega,h.1.2⟩,?_⟩
 rw[h.2,GG h.1.1.1 he,CA,if_neg hq,Da h.1.1.1,Ey he];simp
theorem a5f{l:Cls}{t:List UInt8}{n i:Int}{e z:List UInt8×Int}(h:cpI l t n i)(he:l[i.toNat]? =some e)(hq:e.1=t)(hz:z=(e.1,n)):l.set i.toNat z=CA l t n:=by
 have hl:=(List.getElem?_eq_some_iff.1 he).1
 rw[h.2,GG h.1.1.1 he,CA,if_pos hq,List.set_eq_take_append_cons_drop,if_pos hl,hz,Da h.1.1.1]
theorem a5g{l:Cls}{t:List UInt8}{n i:Int}(h:cpI l t n i)(hl:¬i<(l.length:Int)):l++[(t,n)]=CA l t n:=by
 rw[h.2,List.drop_eq_nil_of_le (by omega),List.take_of_length_le (by omega)];rfl
attribute [local irreducible] cpI
def Td:Sig:= {X:=Cls×List UInt8×Int,args:=fun x=>[cls x.1,.str x.2.1,.int .i64 x.2.2],pre:=fun x=>x.1.length≤2^30,Y:=Unit,post:=fun x y=>True,res:=fun x y=>cls (CA x.1 x.2.1 x.2.2),outs:=fun x y=>[.top,.top,.top],keep:=true}
def b6Y(x:Cls×List UInt8×Int):LS:= {ι:=Int,inv:=fun i=>cpI x.1 x.2.1 x.2.2 i,regs:=fun i=>[(1,.str x.2.1),(2,.int .i64 x.2.2),(7,KO x.1),(13,.int .i64 x.1.length),(14,.int .i64 i)],als:=[(12,7)],meas:=fun i=>x.1.length-i.toNat}
theorem cPut_ok:Aj G Tryz.prog 22 Td:=
 vcFun_okP [(52,0,Ml)] [(42,⟨List UInt8×Int,Ah⟩)] false (fun x=>[(3,b6Y x)]) Tryz.func22 rfl (by decide) ⟨b6X,trivial⟩ (fun(x:Cls×List UInt8×Int)=>True∧cA Ml [AV.sl false 0 2 (List UInt8×Int) Ah x.1] fun x_1 y=>(∃(i:Int),cpI x.1 x.2.1 x.2.2 i∧(x.2.1=x.2.1∧x.2.2=x.2.2∧AV.sl true 0 2 (List UInt8×Int) Ah x_1=AV.sl true 0 2 (List UInt8×Int) Ah x.1∧(↑(List.length x_1):Int)=(↑(List.length x.1):Int)∧(0:Int)=i∧True)∧True∧True)∧∀(i:Int),cpI x.1 x.2.1 x.2.2 i→Aa (decide (i<(↑(List.length x.1):Int))) (((0:Int)≤i∧i<(↑(List.length x.1):Int))∧Int.toNat i<List.length x.1∧∀(x_2:List UInt8×Int),x.1[Int.toNat i]? =some x_2→Aa (x_2.1==x.2.1) (((0:Int)≤i∧i<(↑(List.length x.1):Int))∧Int.toNat i<List.length x.1∧∀(x_3:List UInt8×Int),x.1[Int.toNat i]? =some x_3→∃(x':List UInt8×Int),([AV.str x'.1]=[.str x_3.1]∧(@List.nil AV)=[])∧x.2.2=x'.2∧rA Td x [AV.sl true 0 2 (List UInt8×Int) Ah (List.set x.1 (Int.toNat i) x'),.top,.top,.top]) (inR IntKind.i64 (i+(1:Int))∧∃(i':Int),cpI x.1 x.2.1 x.2.2 i'∧List.length x.1-Int.toNat i'<List.length x.1-Int.toNat i∧(x.2.1=x.2.1∧x.2.2=x.2.2∧AV.sl true 0 2 (List UInt8×Int) Ah x.1=AV.sl true 0 2 (List UInt8×Int) Ah x.1∧(↑(List.length x.1):Int)=(↑(List.length x.1):Int)∧i+(1:Int)=i'∧True)∧True∧True)) (∃(x_2:List UInt8×Int),x.2.1=x_2.1∧x.2.2=x_2.2∧∃(zs:List (List UInt8×Int)),AV.sl true 0 2 (List UInt8×Int) Ah [x_2]=AV.sl true 0 2 (List UInt8×Int) Ah zs∧Bo Ah∧AY (List.length x.1+List.length zs) (24:Nat)∧rA Td x [AV.sl true 0 2 (List UInt8×Int) Ah (x.1++zs),.top,.top,.top])) (fun x=>by kernel_rfl) fun(x:Cls×List UInt8×Int) (hx:x.1.length≤2^30)=>(by
 dsimp only[cA,Ah,cls,KO,rA,Td,Ml,Au,Az,mvL,lnL,mvE,lnE]
 obtain⟨l,t,n⟩:=x;dsimp only at hx ⊢
 have hx:l.length≤2^30:=hx
 (repeat' first|refine a4Z ?_|(with_reducible first|rfl|exact True.intro|apply AK|apply And.intro|((first|apply AA|apply AI|apply AB|apply AJ)<;>intro _))|(apply Ax<;>intro _)|apply AH|refine Ae () ?_ ?_|((first|apply AO|apply AN|apply AM|apply AL|apply AG|apply AF|apply AE|apply AD|apply AC)<;>try dsimp only)|apply Ae|(refine Prod.forall.2 ?_;intro _;try dsimp only)|(intro _;try dsimp only))
 all_goals(try(have hB:=a5d (show cpI _ _ _ _ by assumption)))
 all_goals(try(repeat(rename(_:List (List UInt8×Int))[_]? =some _=>hq;revert hq;rename(_:List (List UInt8×Int))[_]? =some _=>hr;intro hq;rw[hr] at hq;cases hq)))
 all_goals first
  |rfl
  |exact hx
  |exact a5f ‹_› ‹_› ‹_› rfl
  |exact a5c hx
  |exact a5e ‹_› ‹_› ‹_›
  |exact a5g ‹_› ‹_›
  |((try simp only[AQ,AY,List.length_append,List.length_cons,List.length_nil]);omega)
  |skip)
def Eo:Sig:= {X:=Cls×List UInt8×Int,args:=fun x=>[cls x.1,.str x.2.1,.int .i64 x.2.2],pre:=fun x=>x.1.length≤2^30,Y:=Unit,post:=fun x y=>True,res:=fun x y=>cls (CA x.1 x.2.1 x.2.2),outs:=fun x y=>[.top,.top,.top],keep:=true}
def Te(x:Cls×List UInt8×Int):LS:= {ι:=Int,inv:=fun i=>cpI x.1 x.2.1 x.2.2 i,regs:=fun i=>[(1,.str x.2.1),(2,.int .i64 x.2.2),(7,KO x.1),(8,.int .i64 i)],als:=[],meas:=fun i=>x.1.length-i.toNat}
theorem a5h:Aj G Tryz.prog 26 Eo:=
 vcFun_okP [] [(42,⟨List UInt8×Int,Ah⟩)] false (fun x=>[(3,Te x)]) Tryz.func26 rfl (by decide) trivial (fun(x:Cls×List UInt8×Int)=>True∧∃(zs:List (List UInt8×Int)),AV.sl false 0 2 (List UInt8×Int) Ah x.1=AV.sl false 0 2 (List UInt8×Int) Ah zs∧Bo Ah∧AY ((0:Nat)+List.length zs) (24:Nat)∧eA (Te x) [.str x.2.1,.int .i64 x.2.2,AV.sl true 0 2 (List UInt8×Int) Ah ([]++zs),.int .i64 (0:Int)]∧∀(i:Int),cpI x.1 x.2.1 x.2.2 i→Aa (decide (i<(↑(List.length x.1):Int))) (((0:Int)≤i∧i<(↑(List.length x.1):Int))∧Int.toNat i<List.length x.1∧∀(x_1:List UInt8×Int),x.1[Int.toNat i]? =some x_1→Aa (x_1.1==x.2.1) (((0:Int)≤i∧i<(↑(List.length x.1):Int))∧Int.toNat i<List.length x.1∧∀(x_2:List UInt8×Int),x.1[Int.toNat i]? =some x_2→∃(x':List UInt8×Int),([AV.str x'.1]=[.str x_2.1]∧(@List.nil AV)=[])∧x.2.2=x'.2∧rA Eo x [AV.sl true 0 2 (List UInt8×Int) Ah (List.set x.1 (Int.toNat i) x'),.top,.top,.top]) (inR IntKind.i64 (i+(1:Int))∧eN (Te x) i [.str x.2.1,.int .i64 x.2.2,AV.sl true 0 2 (List UInt8×Int) Ah x.1,.int .i64 (i+(1:Int))])) (∃(x_1:List UInt8×Int),x.2.1=x_1.1∧x.2.2=x_1.2∧∃(zs:List (List UInt8×Int)),AV.sl true 0 2 (List UInt8×Int) Ah [x_1]=AV.sl true 0 2 (List UInt8×Int) Ah zs∧Bo Ah∧AY (List.length x.1+List.length zs) (24:Nat)∧rA Eo x [AV.sl true 0 2 (List UInt8×Int) Ah (x.1++zs),.top,.top,.top])) (fun x=>by kernel_rfl) fun(x:Cls×List UInt8×Int) (hx:x.1.length≤2^30)=>(by
 dsimp only[Ah,cls,eA,eN,Te,KO,rA,Eo,Au,Az,Br]
 obtain⟨l,t,n⟩:=x;dsimp only at hx ⊢
 have hx:l.length≤2^30:=hx
 (repeat' first|refine a4Z ?_|(with_reducible first|rfl|exact True.intro|apply AK|apply And.intro|((first|apply AA|apply AI|apply AB|apply AJ)<;>intro _))|(apply Ax<;>intro _)|apply AH|refine Ae () ?_ ?_|((first|apply AO|apply AN|apply AM|apply AL|apply AG|apply AF|apply AE|apply AD|apply AC)<;>try dsimp only)|apply Ae|(refine Prod.forall.2 ?_;intro _;try dsimp only)|(intro _;try dsimp only))
 all_goals(try(have hB:=a5d (show cpI _ _ _ _ by assumption)))
 all_goals(try(repeat(rename(_:List (List UInt8×Int))[_]? =some _=>hq;revert hq;rename(_:List (List UInt8×Int))[_]? =some _=>hr;intro hq;rw[hr] at hq;cases hq)))
 all_goals first
  |rfl
  |exact hx
  |exact a5f ‹_› ‹_› ‹_› rfl
  |exact a5c hx
  |exact a5e ‹_› ‹_› ‹_›
  |exact a5g ‹_› ‹_›
  |((try simp only[AQ,AY,List.length_append,List.length_cons,List.length_nil]);omega)
  |skip)
def mtI(ns:List Nd)(t:List UInt8)(i:Int):Prop:=(0≤i∧i≤(Bc ns).kids.length)∧(Bc ns).kids.length≤12∧Bb ns t (Bc ns).kids=Bb ns t ((Bc ns).kids.drop i.toNat)
theorem b6Z{ns:List Nd}(h:tOk ns):(Bc ns).kids.length≤12:=(HS h (k:=(ns.length:Int)-1) (by have:=h.2;omega)).1
theorem b7a{ns:List Nd}{t:List UInt8}(h:tOk ns):mtI ns t 0:=⟨by omega,b6Z h,rfl⟩
theorem b7b{ns:List Nd}{t:List UInt8}{i:Int}(h:mtI ns t i):(0≤i∧i≤(Bc ns).kids.length)∧(Bc ns).kids.length≤12:=⟨h.1,h.2.1⟩
theorem Xs{ns:List Nd}{i c:Int}(h:tOk ns)(hc:(Bc ns).kids[i.toNat]? =some c):0≤c∧c<ns.length:=(a3l h (BO hc)).1
theorem a5i{ns:List Nd}{t:List UInt8}{i c:Int}{e:Nd}(h:mtI ns t i)(hc:(Bc ns).kids[i.toNat]? =some c)(he:ns[c.toNat]? =some e)(hk:e.kind=20)(ht:e.text=t):Bb ns t (Bc ns).kids=c:=by
 rw[h.2.2,GG h.1.1 hc,Bb,if_pos ⟨by rw[As,Bn he];exact hk,by rw[Bn he];exact ht⟩]
theorem a5j{ns:List Nd}{t:List UInt8}{i c:Int}{e:Nd}(h:mtI ns t i)(hc:(Bc ns).kids[i.toNat]? =some c)(he:ns[c.toNat]? =some e)(hn:¬(e.kind=20∧e.text=t)):mtI ns t (i+1):=by
 have hl:=(List.getElem?_eq_some_iff.1 hc).1
 exact⟨by have:=h.1;omega,h.2.1,by rw[h.2.2,GG h.1.1 hc,Bb,if_neg (by rw[As,Bn he];exact hn)]⟩
theorem b7c{ns:List Nd}{t:List UInt8}{i:Int}(h:mtI ns t i)(hl:¬i<((Bc ns).kids.length:Int)):Bb ns t (Bc ns).kids= -1:=by
 rw[h.2.2,List.drop_eq_nil_of_le (by omega)];rfl
attribute [local irreducible] mtI Bb
end Go.My
end
section
namespace Go.My
open Go.Eng Go.Proofs
variable {G:GInv}
def mcA(s:ZS)(m:Mc):AV:= .box 0 [nds s.ns,.int .i64 s.L,Ab m.out,.int .i64 0,.int .i64 m.code,.int .i64 m.steps,.int .i64 m.deep]
def frA(f:Fr):AV:= .box 0 [cls f.cells,.bool f.ended,.int .i64 f.ret]
abbrev zh {α:Type} (x:ZS×List Int×Int×Int×Int×α):Mc:=⟨x.2.1,x.2.2.1,x.2.2.2.1,x.2.2.2.2.1⟩
abbrev yM (y:List Int×Int×Int×Int):Mc:=⟨y.1,y.2.1,y.2.2.1,y.2.2.2⟩
abbrev yV {α:Type} (y:α×List Int×Int×Int×Int):α×Mc:=(y.1,⟨y.2.1,y.2.2.1,y.2.2.2.1,y.2.2.2.2⟩)
def HX(n:Int):Int:=if inn n (-1000000000) 1000000000 then n else 0
def zB(s:ZS):Prop:=tOk s.ns∧s.L≤1000
def vPz(n:Nat)(s:ZS)(m:Mc)(cs:Cls)(k:Int):Prop:=(zB s∧(mOk m∧LZ cs m))∧(kOk s.ns m n k∧wK s.ns k≤pot m)
def vQz(n:Nat)(s:ZS)(m:Mc)(cs:Cls)(k:Int)(y:Int×Mc):Prop:=((ev s.ns n).val cs k s.L m=some y∧bdd y.1)∧Ej m y.2 (wK s.ns k)
def bPz(n:Nat)(s:ZS)(m:Mc)(f:Fr)(k:Int):Prop:=(zB s∧(mOk m∧fOk f m))∧(((0≤k∧k<s.ns.length)∧BA s.ns k≤12)∧Cw s.ns m n k)
def bQz(n:Nat)(s:ZS)(m:Mc)(f:Fr)(k:Int)(y:Fr×Mc):Prop:=((ev s.ns n).blk f k s.L m=some y∧fOk y.1 y.2)∧Ej m y.2 0
abbrev ZX (α:Type):=ZS×List Int×Int×Int×Int×Cls×Bool×Int×α
abbrev zf {α:Type} (x:ZX α):Fr:=⟨x.2.2.2.2.2.1,x.2.2.2.2.2.2.1,x.2.2.2.2.2.2.2.1⟩
abbrev zl {α:Type} (x:ZX α):α:=x.2.2.2.2.2.2.2.2
abbrev yB (y:List Int×Int×Int×Int×Cls×Bool×Int):Fr×Mc:=(⟨y.2.2.2.2.1,y.2.2.2.2.2.1,y.2.2.2.2.2.2⟩,⟨y.1,y.2.1,y.2.2.1,y.2.2.2.1⟩)
def b7d(n:Nat):Sig:= {X:=ZX Int,args:=fun x=>[mcA x.1 (zh x),frA (zf x),.int .i64 (zl x)],pre:=fun x=>vPz n x.1 (zh x) (zf x).cells (zl x),Y:=Int×List Int×Int×Int×Int,post:=fun x y=>vQz n x.1 (zh x) (zf x).cells (zl x) (yV y),res:=fun x y=> .int .i64 y.1,outs:=fun x y=>[mcA x.1 (yM y.2),frA (zf x),.top],keep:=true}
def b7e(n:Nat):Sig:= {X:=ZX Int,args:=fun x=>[mcA x.1 (zh x),frA (zf x),.int .i64 (zl x)],pre:=fun x=>bPz n x.1 (zh x) (zf x) (zl x),Y:=List Int×Int×Int×Int×Cls×Bool×Int,post:=fun x y=>bQz n x.1 (zh x) (zf x) (zl x) (yB y),res:=fun x y=> .tup [],outs:=fun x y=>[mcA x.1 (yB y).2,frA (yB y).1,.top],keep:=true}
structure zAll (G:GInv) (n:Nat):Prop where
 val:Aj G Go.Proofs.Tryz.prog 179 (b7d n)
 blk:Aj G Go.Proofs.Tryz.prog 106 (b7e n)
def lpI(s:ZS)(m0 m:Mc)(ks:List Int)(i e:Int):Prop:=((0≤i∧i≤ks.length)∧(mOk m∧m.deep=m0.deep))∧m0.steps≤m.steps∧pot m0-e≤pot m-wS s.ns (ks.drop i.toNat)
theorem Xt{s:ZS}{m:Mc}{ks:List Int}(h:mOk m):lpI s m m ks 0 (wS s.ns ks):=⟨⟨by omega,h,rfl⟩,Int.le_refl _,by simp⟩
theorem a5k{s:ZS}{m0 m:Mc}{ks:List Int}{i e c:Int}(h:lpI s m0 m ks i e)(hc:ks[i.toNat]? =some c)(he:e≤pot m0):wK s.ns c≤pot m:=by
 have h3:=h.2.2;have h0:=h.1.1
 rw[GG h0.1 hc,wS] at h3
 have:= @PS s.ns (ks.drop (i+1).toNat);omega
theorem Mm{s:ZS}{m0 m m2:Mc}{ks:List Int}{i e c:Int}(h:lpI s m0 m ks i e)(hc:ks[i.toNat]? =some c)(g:Ej m m2 (wK s.ns c)):lpI s m0 m2 ks (i+1) e:=by
 have h3:=h.2.2;have h0:=h.1.1
 have hl:=(List.getElem?_eq_some_iff.1 hc).1
 rw[GG h0.1 hc,wS] at h3
 exact⟨⟨by omega,g.1.1,by rw[g.1.2,h.1.2.2]⟩,Int.le_trans h.2.1 g.2.1,by have:=g.2.2;omega⟩
theorem Ql{s:ZS}{m0 m:Mc}{ks:List Int}{i e:Int}(h:lpI s m0 m ks i e):Ej m0 m e:=
 ⟨h.1.2,h.2.1,by have:=h.2.2;have:= @PS s.ns (ks.drop i.toNat);omega⟩
theorem b7f{s:ZS}{m0 m m2:Mc}{ks:List Int}{i e c:Int}(h:lpI s m0 m ks i e)(hc:ks[i.toNat]? =some c)(g:Ej m m2 (wK s.ns c)):Ej m0 m2 e:=Ql (Mm h hc g)
theorem Xu{cs:Cls}{m m2:Mc}(h:LZ cs m)(hs:m.steps≤m2.steps):LZ cs m2:=⟨h.1,by have:=h.2;omega⟩
theorem Hq:bdd 0:=by unfold bdd;omega
theorem a5l{b:Bool}:bdd (tr b):=by cases b<;>(unfold tr bdd;simp)
def cPz(n:Nat)(s:ZS)(m:Mc)(cs:Cls)(x:Nd):Prop:=(zB s∧(mOk m∧LZ cs m))∧((∀c∈x.kids,kOk s.ns m n c)∧(x.kids.length≤12∧wS s.ns x.kids≤pot m))
def cQz(c:Run Int)(s:ZS)(m:Mc)(e:Int)(y:Int×Mc):Prop:=(c s.L m=some y∧bdd y.1)∧Ej m y.2 e
def lgI(n:Nat)(s:ZS)(m0:Mc)(cs:Cls)(x:Nd)(i:Int)(m:Mc):Prop:=
 (lpI s m0 m x.kids i (wS s.ns x.kids)∧x.kids.length≤12)∧PP ((ev s.ns n).val cs) x.text x.kids s.L m0=PP ((ev s.ns n).val cs) x.text (x.kids.drop i.toNat) s.L m
attribute [local irreducible] lgI vQz vPz cQz
end Go.My
end
