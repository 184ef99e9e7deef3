/- joined -/
import Derived.Test.YtglbamflbnldhaaGreatDoorQK
set_option linter.unusedSimpArgs false
set_option linter.unusedVariables false
section
namespace Go.My
open Go.Eng
theorem Om{sg:List Sg}{x:Gs}{f:Ps→PR}{k k':Int}{y y':Gs}(h:Ah sg x f (k,y))(h1:gsOk sg y')(h2:y'.deep=y.deep)(h3:y.pos≤y'.pos)(h4:pur y'=pur y)(h5:y'.bad=false→k'=k):Ah sg x f (k',y'):=by
 obtain⟨⟨a1,a2,a3,a4,a5⟩,b⟩:=h
 simp only at a1 a2 a3 a4 a5 b
 have hb:y'.bad=y.bad:=by
  cases hy:y.bad with
  |true=>exact a3H.1 (h4.trans (Ec hy))
  |false=>
   cases hy':y'.bad with
   |false=>rfl
   |true=>rw[Ec hy',Dm hy] at h4;cases h4
 refine⟨⟨h1,by simp only;omega,by simp only;omega,by simp only;rw[h4];exact a4,fun p hp=> ?_⟩,fun hw=> ?_⟩
 ·simp only
  have:=a5 p hp
  rw[h5 ?_]
  ·exact this
  ·cases hy:y'.bad with
   |false=>rfl
   |true=>rw[←h4,Ec hy,hp] at a4;cases a4
 ·simp only at hw ⊢
  have:=b (by rw[←hb];exact hw);omega
theorem XE{α:Type}{sg:List Sg}{x y y':Gs}{f g:Ps→Option (α×Ps)}{d:Int}(h:restP sg x f y g d)(h1:gsOk sg y')(h2:y'.deep=y.deep)(h3:y.pos≤y'.pos)(h4:pur y'=pur y):restP sg x f y' g d:=by
 obtain⟨a1,a2,a3,a4⟩:=h
 exact⟨h1,by omega,by omega,by rw[h4];exact a4⟩
theorem XF{sg:List Sg}{g:Gs}{w:Nd}(h:gsOk sg g)(hl:g.pos<sg.length)(hw:Dl w):gsOk sg (An (Aq g) w)∧(An (Aq g) w).deep=(Dp (An g w)).deep∧(Dp (An g w)).pos≤(An (Aq g) w).pos∧pur (An (Aq g) w)=pur (Dp (An g w))∧AW (Aq g)=AW g:=by
 refine⟨PV (GB h hl) hw,?_⟩
 cases hf:DN g with
 |true=>
  have hf2:DN (Aq g)=true:=hf
  simp only[An,AW,hf,hf2,if_true]
  simp [Dp,Bt,Aq,pur];omega
 |false=>
  have hf2:DN (Aq g)=false:=hf
  have:=(Sy hf).1
  simp only[An,AW,hf,hf2,Bool.false_eq_true,if_false]
  simp [Dp,Bt,Aq,pur,this]
theorem Iy{sg:List Sg}{x g:Gs}{f:Ps→PR}{m:List UInt8}{w:Nd}(hg:gsOk sg g)(hw:Dl w)(h:Ah sg x f (CQ sg g m,CP sg g m w)):Ah sg x f (AW (As sg g m),An (As sg g m) w):=by
 cases hq:isG sg g 4 m with
 |true=>
  obtain⟨a,b,c,d,e⟩:=XF hg (Dn hq (by omega)).2 hw
  simp only[CP,CQ,As,hq,if_true] at h ⊢
  exact Om h a b c d (fun _=>e)
 |false=>
  simp only[CP,CQ,As,hq,Bool.false_eq_true,if_false] at h ⊢
  have hf:DN (Bt g)=true:=by simp [DN,Bt]
  simp only[An,AW,hf,if_true]
  exact Om h hg rfl (Int.le_refl _) rfl (fun _=>rfl)
theorem Qt{sg:List Sg}{g:Gs}{k:Int}(hk:k≠1):kdG sg g k=decide ((pkG sg g 0).kind=k):=by simp [kdG,hk]
theorem On{sg:List Sg}{x g:Gs}{f:Ps→PR}{k c:Int}(hs:sgB sg)(hg:gsOk sg g)(hk:k≠0)(hq:kdG sg g k=true)(h:Ah sg x f (AW g,EA sg g c false)):Ah sg x f (AW (Bi sg g k),An (Bi sg g k) ⟨c,BC sg g k,[],false⟩):=by
 have hl:=Tg hk hq
 have hw:Dl ⟨c,(pkG sg g 0).text,[],false⟩:=⟨PW hs,by simp⟩
 obtain⟨a1,a2,a3,a4,a5⟩:=XF hg hl.2 hw
 simp only[Bi,BC,hq,if_true]
 exact Om h a1 a2 a3 a4 (fun _=>a5)
theorem b8W{sg:List Sg}{g:Gs}(hs:sgB sg)(hg:gsOk sg g):Ah sg g (BS sg) (AW (Bi sg g 1),An (Bi sg g 1) ⟨1,BC sg g 1,[],false⟩):=by
 have h:=SA hs hg
 cases hq:nmG sg g 0 with
 |true=>
  refine On hs hg (by omega) (by rw[Jj];exact hq) ?_
  simp only[Ed,Eo,hq,if_true] at h;exact h
 |false=>
  have hq2:kdG sg g 1=false:=by rw[Jj];exact hq
  simp only[Ed,Eo,hq,Bool.false_eq_true,if_false] at h
  have hf:DN (Bt g)=true:=by simp [DN,Bt]
  simp only[Bi,BC,hq2,Bool.false_eq_true,if_false,An,AW,hf,if_true]
  exact Om h hg rfl (Int.le_refl _) rfl (fun _=>rfl)
theorem Iz{sg:List Sg}{g:Gs}:Bi sg g 1=CU sg g∧BC sg g 1=Dh sg g:=by
 simp only[Bi,CU,BC,Dh,Jj];exact⟨trivial,trivial⟩
theorem Tk{sg:List Sg}{g:Gs}{m:List UInt8}(h:g.bad=true):As sg g m=g:=by
 have:isG sg g 4 m=false:=a3I (Ec h) (by omega)
 simp only[As,this,Bool.false_eq_true,if_false,Bt]
 cases g;simp only at h;simp [h]
theorem JW{sg:List Sg}{g:Gs}{m:List UInt8}(h:isG sg g 4 m=true):As sg g m=Aq g:=by simp [As,h]
theorem Qu{sg:List Sg}{g:Gs}{m:List UInt8}(h:isG sg g 4 m=false):As sg g m=Bt g:=by simp [As,h]
theorem XG{w:Nd}{s:Ps}(h:¬300≤s.nodes.length):Bd w s=some ((s.nodes.length:Int),⟨s.pos,s.deep,s.nodes++[w]⟩):=if_neg h
theorem XH{w:Nd}{s:Ps}(h:300≤s.nodes.length):Bd w s=none:=if_pos h
def chS(sg:List Sg)(n l:Nat)(x y:Gs)(t:List UInt8)(ks:List Int)(N:Nat):Prop:=
 restP sg x (pE sg (n+1) (.chain l)) y (chF sg n l N t ks) 0∧(2*((sg.length:Int)-y.pos)+4≤N∨(t=[]∧2*((sg.length:Int)-y.pos)+3≤N))∧(ks.length:Int)≤y.pos+1∧(y.bad=false→x.pos<y.pos)∧(t=[]→ks.length=1)∧(t≠[]→2≤ks.length∧t∈BT l)
theorem b8X{sg:List Sg}{x:Gs}{n l:Nat}{z:Int×Gs}(h:gsOk sg x)(hl:l≠6)(h1:Ah sg x (pE sg n (.chain (l+1))) z):chS sg n l x z.2 [] [z.1] (2*sg.length+4):=by
 obtain⟨a,b,c⟩:=b6x h hl h1
 have:=a.1.1
 exact⟨a,.inr ⟨rfl,b⟩,by simp;omega,c,fun _=>rfl,fun h=>(h rfl).elim⟩
theorem XI{sg:List Sg}{l:Nat}{m:List UInt8}{ks:List Int}(hs:sgB sg)(hml:m∈BT l)(hk:(ks.length:Int)≤sg.length+1):Dl ⟨7,m,ks,false⟩:=by
 refine⟨?_,by have:=hs.1;simp only;omega⟩
 simp only
 unfold BT at hml
 split at hml<;>simp at hml<;>(first|(subst hml;simp)|(rcases hml with rfl|rfl<;>simp))
theorem b8Y{sg:List Sg}{n l:Nat}{x y:Gs}{t:List UInt8}{ks:List Int}{N:Nat}{z:Int×Gs}(h:chS sg n l x y t ks N)(hm:Dt sg l y≠[])(ht:t=[]∨Dt sg l y=t)(hz:Ah sg (Aq y) (pE sg n (.chain (l+1))) z):
 chS sg n l x z.2 (Dt sg l y) (ks++[z.1]) (N-1)∧N-1<N:=by
 obtain⟨h1,hN,hk,hb,hk1,hk2⟩:=h
 have hq:=(KS hm).1
 have hp:=h1.1.1
 have hl:=Dn hq (by omega)
 match N with
 |0=>omega
 |M+1=>
  refine⟨?_,by omega⟩
  have k1:=Hl (g':=fun s=>(pE sg n (.chain (l+1)) s).bind fun p=>chF sg n l M (Dt sg l y) (ks++[p.1]) p.2) h1 (by omega) hq (fun s hs hts=>by
   rw[chF,Gb,if_neg ?_,if_neg (by rw[KR hs];exact hm),KR hs];rfl
   rw[KR hs];rintro⟨q1,q2⟩;rcases ht with ht|ht
   ·exact q1 ht
   ·exact q2 ht)
  have k2:=BU (k:=fun k s=>chF sg n l M (Dt sg l y) (ks++[k]) s) k1 hz.1 (fun _ _=>rfl)
  have e:=CX hz
  simp only[Aq] at e
  have:=h1.2.2.1
  simp only[Nat.add_sub_cancel]
  refine⟨k2,.inl (by omega),by simp;omega,fun hb2=>by omega,fun he=>(hm he).elim,fun _=>⟨?_,(KS hm).2⟩⟩
  simp only[List.length_append,List.length_cons,List.length_nil]
  rcases Classical.em (t=[]) with e0|e0
  ·have:=hk1 e0;omega
  ·have:=(hk2 e0).1;omega
theorem b8Z{sg:List Sg}{n l:Nat}{x y:Gs}{t:List UInt8}{ks:List Int}{N:Nat}{z:Int×Gs}(hs:sgB sg)(h:chS sg n l x y t ks N)(hm:Dt sg l y≠[])(ht:t≠[])(hne:Dt sg l y≠t)(hz:Ah sg (An (Aq y) ⟨7,t,ks,false⟩) (pE sg n (.chain (l+1))) z):
 chS sg n l x z.2 (Dt sg l y) ([AW (Aq y)]++[z.1]) (N-2)∧N-2<N:=by
 obtain⟨h1,hN,hk,hb,hk1,hk2⟩:=h
 have hq:=(KS hm).1
 have hp:=h1.1.1
 have hl:=Dn hq (by omega)
 have hN2:2*((sg.length:Int)-y.pos)+4≤N:=by
  rcases hN with h|h
  ·exact h
  ·exact(ht h.1).elim
 match N with
 |0=>omega
 |1=>omega
 |M+2=>
  refine⟨?_,by omega⟩
  have hw:Dl ⟨7,t,ks,false⟩:=XI hs (hk2 ht).2 (by omega)
  have k1:=Hl (g':=fun s=>(Bd ⟨7,t,ks,false⟩ s).bind fun p=>(pE sg n (.chain (l+1)) p.2).bind fun q=>chF sg n l M (Dt sg l y) ([p.1]++[q.1]) q.2) h1 (by omega) hq (fun s hs hts=>by
   rw[chF,Gb,if_pos ⟨ht,by rw[KR hs];exact hne⟩]
   by_cases h3:300≤s.nodes.length
   ·rw[XH h3,XH (s:=adv s) h3];rfl
   ·rw[XG h3,XG (s:=adv s) h3]
    simp only[Option.bind_some]
    have e:JH sg l ⟨s.pos,s.deep,s.nodes++[⟨7,t,ks,false⟩]⟩=Dt sg l y:=by rw[←KR hs];rfl
    rw[Gb,if_neg (by simp),if_neg (by rw[e];exact hm),e];rfl)
  have k2:=BU (k:=fun k s=>(pE sg n (.chain (l+1)) s).bind fun q=>chF sg n l M (Dt sg l y) ([k]++[q.1]) q.2) k1 (Sz k1.1 hw) (fun _ _=>rfl)
  have k3:=BU (k:=fun k s=>chF sg n l M (Dt sg l y) ([AW (Aq y)]++[k]) s) k2 hz.1 (fun _ _=>rfl)
  have e:=CX hz
  obtain⟨d1,d2,d3⟩:= @JT (Aq y) ⟨7,t,ks,false⟩
  rw[d2] at e;simp only[Aq] at e
  have:=h1.2.2.1
  simp only[Nat.add_sub_cancel]
  refine⟨k3,.inl (by omega),by simp;omega,fun hb2=>by omega,fun he=>(hm he).elim,fun _=>⟨by simp,(KS hm).2⟩⟩
theorem a5B{sg:List Sg}{n l:Nat}{x y:Gs}{t:List UInt8}{ks:List Int}{N:Nat}{k:Int}(h:chS sg n l x y t ks N)(hm:y.bad=true∨Dt sg l y=[])(hl:ks.length=1)(hk:ks[0]? =some k):Ah sg x (pE sg (n+1) (.chain l)) (k,y):=by
 obtain⟨h1,hN,hk0,hb,hk1,hk2⟩:=h
 rcases hm with hm|hm
 ·exact⟨Qj h1 hm,fun hb2=>by simp only at hb2;rw[hm] at hb2;cases hb2⟩
 ·have ht:t=[]:=by
   rcases Classical.em (t=[]) with e0|e0
   ·exact e0
   ·have:=(hk2 e0).1;omega
  subst ht
  have hp:=h1.1.1
  match ks,hl with
  |[k0],_=>
   simp at hk;subst hk
   match N with
   |0=>omega
   |N+1=>exact⟨Hk (Ee h1 (g':=fun s=>some (k0,s)) (fun s hs=>by rw[chF,Gb,if_neg (by simp),if_pos (by rw[KR hs,hm])];rfl)),hb⟩
theorem a5C{sg:List Sg}{n l:Nat}{x y:Gs}{t:List UInt8}{ks:List Int}{N:Nat}(hs:sgB sg)(h:chS sg n l x y t ks N)(hm:y.bad=true∨Dt sg l y=[])(hl:ks.length≠1):Ah sg x (pE sg (n+1) (.chain l)) (AW y,An y ⟨7,t,ks,false⟩):=by
 obtain⟨h1,hN,hk0,hb,hk1,hk2⟩:=h
 have ht:t≠[]:=fun e=>hl (hk1 e)
 have hp:=h1.1.1
 have hw:Dl ⟨7,t,ks,false⟩:=XI hs (hk2 ht).2 (by omega)
 obtain⟨d1,d2,d3⟩:= @JT y ⟨7,t,ks,false⟩
 have hN2:2*((sg.length:Int)-y.pos)+4≤N:=by
  rcases hN with h|h
  ·exact h
  ·exact(ht h.1).elim
 match N with
 |0=>omega
 |1=>omega
 |M+2=>
  have k1:restP sg x (pE sg (n+1) (.chain l)) y (Bd ⟨7,t,ks,false⟩) 0:=by
   rcases hm with hm|hm
   ·exact Ee h1 (fun s hs=>by rw[Ec hm] at hs;cases hs)
   ·refine Ee h1 (fun s hs=> ?_)
    rw[chF,Gb,if_pos ⟨ht,by rw[KR hs,hm];exact Ne.symm ht⟩,Bd]
    split
    ·rfl
    ·simp only[Option.bind_some]
     have e:JH sg l ⟨s.pos,s.deep,s.nodes++[⟨7,t,ks,false⟩]⟩=[]:=by rw[←hm,←KR hs];rfl
     rw[Gb,if_neg (by simp),if_pos e];rfl
  exact⟨SS k1 hw,fun hb2=>by simp only[d2];exact hb (d3 hb2)⟩
def gM(y:Gs)(m:List UInt8):Gs:=if m=[] then y else Aq y
theorem XJ{y:Gs}:gM y []=y:=rfl
theorem Tl{y:Gs}{m:List UInt8}(h:m≠[]):gM y m=Aq y:=if_neg h
def mkQ(sg:List Sg)(y:Gs)(l:Nat)(i:Int)(m:List UInt8):Prop:=(0≤i∧i≤(BT l).length)∧((m=[]∧Dt sg l y=(((BT l).drop i.toNat).find? fun m=>isG sg y 4 m).getD [])∨(m≠[]∧m=Dt sg l y))
theorem b9a{sg:List Sg}{y:Gs}{l:Nat}:mkQ sg y l 0 []:=⟨by omega,.inl ⟨rfl,rfl⟩⟩
theorem b9b{sg:List Sg}{y:Gs}{l:Nat}{i:Int}{m v:List UInt8}(h:mkQ sg y l i m)(hm:m=[])(ha:(BT l)[i.toNat]? =some v)(hg:isG sg (gM y m) 4 v=false):mkQ sg y l (i+1) m:=by
 subst hm
 have hlt:=(List.getElem?_eq_some_iff.1 ha).1
 refine⟨by have:=h.1;omega,?_⟩
 rcases h.2 with h2|h2
 ·left;refine⟨rfl,?_⟩
  rw[h2.2,List.drop_eq_getElem_cons hlt,(List.getElem?_eq_some_iff.1 ha).2,List.find?_cons_of_neg (by simp;exact hg),show(i+1).toNat=i.toNat+1 by have:=h.1;omega]
 ·exact(h2.1 rfl).elim
theorem XK{sg:List Sg}{y:Gs}{l:Nat}{i:Int}{m v:List UInt8}(h:mkQ sg y l i m)(hm:m=[])(ha:(BT l)[i.toNat]? =some v)(hg:isG sg (gM y m) 4 v=true):mkQ sg y l (i+1) v∧Au sg (gM y m) v=gM y v:=by
 subst hm
 have hlt:=(List.getElem?_eq_some_iff.1 ha).1
 have hv:=b6y (List.mem_of_getElem? ha)
 refine⟨⟨by have:=h.1;omega,.inr ⟨hv,?_⟩⟩,?_⟩
 ·exact(b6A (List.mem_of_getElem? ha) hg).symm
 ·rw[XJ] at hg ⊢;rw[Tl hv];exact EE hg
theorem b9c{sg:List Sg}{y:Gs}{l:Nat}{i:Int}{m:List UInt8}(h:mkQ sg y l i m)(hi:i<((BT l).length:Int))(hm:m≠[]):mkQ sg y l (i+1) m:=by
 refine⟨by have:=h.1;omega,?_⟩
 rcases h.2 with h2|h2
 ·exact(hm h2.1).elim
 ·exact .inr h2
theorem Tm{sg:List Sg}{y:Gs}{l:Nat}{i:Int}{m:List UInt8}(h:mkQ sg y l i m)(hi:¬i<((BT l).length:Int)):m=Dt sg l y:=by
 rcases h.2 with h2|h2
 ·rw[h2.2,List.drop_eq_nil_of_le (by omega),h2.1];rfl
 ·exact h2.2
theorem a5D{sg:List Sg}{x:Gs}{f:Ps→PR}{a:Int}(h:gsOk sg x)(hb:x.bad=true):Ah sg x f (a,x):=⟨Qj (Ds h) hb,fun hb2=>by simp only at hb2;rw[hb] at hb2;cases hb2⟩
theorem b9d{sg:List Sg}{n:Nat}{x y y':Gs}{k k':Int}{N:Nat}(h:enI sg n x y k N)(h1:gsOk sg y')(h2:y'.deep=y.deep)(h3:y.pos≤y'.pos)(h4:pur y'=pur y)(h5:y'.bad=false→k'=k):enI sg n x y' k' N:=by
 obtain⟨a,b,c⟩:=h
 cases hb:y'.bad with
 |false=>
  have hy:y.bad=false:=by
   cases hy:y.bad with
   |false=>rfl
   |true=>rw[Ec hy,Dm hb] at h4;cases h4
  rw[h5 hb]
  exact⟨XE a h1 h2 h3 h4,fun _=>by have:=b hy;omega,fun _=>by have:=c hy;omega⟩
 |true=>
  have hy:y.bad=true:=by
   cases hy:y.bad with
   |true=>rfl
   |false=>rw[Ec hb,Dm hy] at h4;cases h4
  refine⟨Ee (XE a h1 h2 h3 h4) (fun s hs=>by rw[Ec hb] at hs;cases hs),fun e=>(Bool.noConfusion (hb.symm.trans e)),fun e=>(Bool.noConfusion (hb.symm.trans e))⟩
theorem b9e{sg:List Sg}{n:Nat}{x y:Gs}{a k:Int}{N:Nat}(h:Ah sg x (pE sg (n+1) .fin) (a,y))(hb:y.bad=true):enI sg n x y k N:=
 ⟨Ee (b6f h.1) (fun s hs=>by rw[Ec hb] at hs;cases hs),fun e=>(Bool.noConfusion (hb.symm.trans e)),fun e=>(Bool.noConfusion (hb.symm.trans e))⟩
theorem b9f{sg:List Sg}{n:Nat}{x y:Gs}{k:Int}{N:Nat}(hs:sgB sg)(h:enI sg n x y k N)(hp:isG sg y 4 [40]=false)(hq:isG sg y 4 [46]=true):
 enI sg n x (An (Bi sg (Aq y) 1) ⟨6,BC sg (Aq y) 1,[k],false⟩) (AW (Bi sg (Aq y) 1)) (N-1)∧N-1<N:=by
 have hl:=Dn hq (by omega)
 obtain⟨M,rfl⟩:=Ql h hl.1
 refine⟨?_,by omega⟩
 have ho:=GB h.1.1 hl.2
 have hw:Dl ⟨6,(pkG sg (Aq y) 0).text,[k],false⟩:=⟨PW hs,by simp⟩
 cases hn:nmG sg (Aq y) 0 with
 |true=>
  obtain⟨M',e,h2⟩:=b6E hs h hp hq hn
  have:M'=M:=by omega
  subst this
  obtain⟨a1,a2,a3,a4,a5⟩:=XF ho (by have:=(Sw hn).2;omega) hw
  have e1:Bi sg (Aq y) 1=Aq (Aq y):=by rw[Bi,Jj,if_pos hn]
  have e2:BC sg (Aq y) 1=(pkG sg (Aq y) 0).text:=by rw[BC,Jj,if_pos hn]
  rw[e1,e2]
  exact b9d h2 a1 a2 a3 a4 (fun _=>a5)
 |false=>
  have h2:=b6F (a:=0) h hp hq hn
  have e1:Bi sg (Aq y) 1=Bt (Aq y):=by rw[Bi,Jj,if_neg (by simp [hn])]
  have hf:DN (Bt (Aq y))=true:=by simp [DN,Bt]
  rw[e1]
  have e3:An (Bt (Aq y)) ⟨6,BC sg (Aq y) 1,[k],false⟩=Bt (Bt (Aq y)):=if_pos hf
  rw[e3]
  exact b9e (a:=0) (Om h2 ho rfl (Int.le_refl _) rfl (fun _=>rfl)) rfl
def vlQ(sg:List Sg)(one:Ps→PR)(m:List UInt8)(ks0:List Int)(x:Gs)(y:List Int×Gs):Prop:=∃l:List Int×Gs,(BG sg x (Bw sg one m (sg.length+1) []) l∧l.1.length≤3001)∧y=(ks0++l.1,As sg l.2 m)
theorem XL{s:ST}{one:Ps→PR}{m:List UInt8}{ks0:List Int}{x:Gs}{y:List Int×Gs}(hs:sgB s.sg)(h:vlQ s.sg one m ks0 x y):rOk s y.2∧y.1.length≤ks0.length+3001∧y.2.deep=x.deep∧x.pos≤y.2.pos:=by
 obtain⟨l,⟨h1,h2⟩,rfl⟩:=h
 have t:=HO (m:=m) h1.1
 have:=h1.2.1;have:=h1.2.2.1
 exact⟨⟨hs,t.1⟩,by simp;omega,by simp only;omega,by simp only;omega⟩
theorem a5E{sg:List Sg}{x:Gs}{one:Ps→PR}{k:Int}{y:List Int×Gs}(hx:gsOk sg x)(h:vlQ sg one [41] [k] (As sg x [40]) y):Ah sg x (Dg sg one k) (AW y.2,An y.2 ⟨5,[],y.1,false⟩):=by
 obtain⟨l,⟨h1,h2⟩,rfl⟩:=h
 exact Iy h1.1 ⟨by simp,by simp;omega⟩ (b6X hx ⟨h1,h2⟩)
theorem b9g{sg:List Sg}{x y:Gs}{n N:Nat}{ks:List Int}{c w:Int×Gs}(h:KQ sg n x y ks N)(hq:isG sg y 4 [46,46]=true)(hc:Ah sg (Aq y) (BS sg) c)
 (h2:Ah sg c.2 (Dg sg (pE sg n .value) c.1) w):∃M,N=M+1∧KQ sg n x w.2 (ks++[w.1]) M:=by
 obtain⟨h1,hN,hk,hb⟩:=h
 obtain⟨hl1,hl⟩:=Dn hq (by omega)
 match N with
 |0=>omega
 |M+1=>
  refine⟨M,rfl,?_⟩
  have k1:=Hl (g':=fun s=>((BS sg s).bind fun p=>(Dg sg (pE sg n .value) p.1 p.2).bind fun q=>Fm sg (pE sg n .value) M (ks++[q.1]) q.2).bind fun q=>Bd ⟨10,[],q.1,false⟩ q.2)
   h1 (by omega) hq (fun s hs ht=>by rw[Fm,if_pos (show isM sg s [46,46]=true from ht)])
  have k2:=BU (k:=fun k s=>((Dg sg (pE sg n .value) k s).bind fun q=>Fm sg (pE sg n .value) M (ks++[q.1]) q.2).bind fun q=>Bd ⟨10,[],q.1,false⟩ q.2) k1 hc.1 (fun s _=>by simp only[Option.bind_assoc])
  have k3:=BU (k:=fun k s=>(Fm sg (pE sg n .value) M (ks++[k]) s).bind fun q=>Bd ⟨10,[],q.1,false⟩ q.2) k2 h2.1 (fun s _=>by simp only[Option.bind_assoc])
  have e0:(Aq y).pos≤c.2.pos:=hc.1.2.2.1
  have e1:=CX h2
  have ea:(Aq y).pos=y.pos+1:=rfl
  refine⟨k3,by omega,by simp;omega,fun hb2=> ?_⟩
  have:=h1.2.2.1
  omega
theorem b9h{sg:List Sg}(hm:sgM sg){s:Ps}(h0:0≤s.pos)(h:KF sg s=true):KP sg s=true:=by
 have hp:∀(n:Nat) (i:Int),0≤i→0≤En sg n i:=by
  intro n
  induction n with
  |zero=>intro i hi;simpa [En] using hi
  |succ n ih=>
   intro i hi;rw[En];split
   ·split
    ·exact ih _ (by omega)
    ·omega
   ·exact hi
 exact a4H hm _ _ (by omega) (by rw[←Xs hm (hp _ _ (by omega))];exact h)
theorem b9i{sg:List Sg}(hm:sgM sg){s:Ps}(h0:0≤s.pos)(h1:KP sg s=true)(h2:KF sg s=false)(N:Nat):Bw sg (BS sg) [41] N [] (adv s)=none:=by
 have hp:∀(n:Nat) (i:Int),0≤i→0≤En sg n i:=by
  intro n
  induction n with
  |zero=>intro i hi;simpa [En] using hi
  |succ n ih=>
   intro i hi;rw[En];split
   ·split
    ·exact ih _ (by omega)
    ·omega
   ·exact hi
 exact a4I hm (sg.length+1) (s.pos+1) (by omega) h1 (by rw[←Xs hm (hp _ _ (by omega))];exact h2) N [] (adv s) rfl
theorem b9j{sg:List Sg}{x:Gs}{n:Nat}{z:Int×Gs}(hm:sgM sg)(hx:gsOk sg x)(h1:(pkG sg x 0).kind≠1)(h2:(pkG sg x 0).kind≠2)(h3:(pkG sg x 0).kind≠3)(hn:isG sg x 4 [91]=false)(hq:isG sg x 4 [40]=true)
 (ha:∀s,pur x=some s→KP sg s=true) (hz:Ah sg x (fnR sg n) z):Ah sg x (pE sg (n+1) .base) z:=by
 refine KT hz (fun s hs=> ?_)
 have h0:0≤s.pos:=by obtain⟨_,rfl⟩:=EU.1 hs;exact hx.1.1
 cases har:KF sg s with
 |true=>rw[Qm hs h1 h2 h3,if_neg (by simp [EW hs hn]),if_pos (by simp [JR hs hq,har]),fnR,BF,if_pos (JR hs hq)];rfl
 |false=>
  rw[Qm hs h1 h2 h3,if_neg (by simp [EW hs hn]),if_neg (by simp [har]),if_pos (JR hs hq),b6i (x:=⟨0,[],[],false⟩) hm h0 (ha s hs) har (fun k=>⟨11,[],[k],false⟩),fnR,BF,if_pos (JR hs hq)]
  simp only[Option.bind_some]
  rw[b9i hm h0 (ha s hs) har];rfl
theorem b9k{sg:List Sg}{x:Gs}{n:Nat}{z:Int×Gs}(hm:sgM sg)(h:gsOk sg x)(h1:(pkG sg x 0).kind≠1)(h2:(pkG sg x 0).kind≠2)(h3:(pkG sg x 0).kind≠3)(hn:isG sg x 4 [91]=false)(hq:isG sg x 4 [40]=true)
 (ha:∀s,pur x=some s→KP sg s=false) (hz:Ah sg (Aq x) (pE sg n .value) z):
 Ah sg x (pE sg (n+1) .base) (AW (As sg z.2 [41]),An (As sg z.2 [41]) ⟨11,[],[z.1],false⟩):=by
 refine Iy (Gc hz) ⟨by simp,by simp⟩ (b6J h h1 h2 h3 hn hq (fun s hs=> ?_) hz)
 have h0:0≤s.pos:=by obtain⟨_,rfl⟩:=EU.1 hs;exact h.1.1
 cases har:KF sg s with
 |false=>rfl
 |true=>have:=b9h hm h0 har;rw[ha s hs] at this;cases this
end Go.My
end
section
namespace Go.My
open Go.Eng Go.Proofs
variable {G:GInv}
def vQ(r n:Nat)(s:ST)(g:Gs):Prop:=vP r n s g∧sgM s.sg
def wQ(r n:Nat)(s:ST)(g:Gs):Prop:=wP r n s g∧sgM s.sg
def MD(n:Nat):Sig:= {X:=ST×Int×Int×Bool×List Nd,args:=fun x=>[srd x.1 (xg x)],pre:=fun x=>vQ 11 n x.1 (xg x),Y:=Int×Int×Int×Bool×List Nd,post:=fun x y=>Ah x.1.sg (xg x) (pE x.1.sg n .value) (yS y),res:=fun x y=> .int .i64 y.1,outs:=fun x y=>[srd x.1 (yG y.2)],keep:=true}
def Ho(n:Nat):Sig:= {X:=ST×Int×Int×Bool×List Nd,args:=fun x=>[srd x.1 (xg x)],pre:=fun x=>vQ 10 n x.1 (xg x),Y:=Int×Int×Int×Bool×List Nd,post:=fun x y=>Ah x.1.sg (xg x) (pE x.1.sg n .pick) (yS y),res:=fun x y=> .int .i64 y.1,outs:=fun x y=>[srd x.1 (yG y.2)],keep:=true}
def IA(n:Nat):Sig:= {X:=ST×Int×Int×Bool×List Nd×Int,args:=fun x=>[srd x.1 (xh x),.int .i64 x.2.2.2.2.2],pre:=fun x=>wQ (9-x.2.2.2.2.2.toNat) n x.1 (xh x)∧0≤x.2.2.2.2.2∧x.2.2.2.2.2≤6,Y:=Int×Int×Int×Bool×List Nd,post:=fun x y=>Ah x.1.sg (xh x) (pE x.1.sg n (.chain x.2.2.2.2.2.toNat)) (yS y),res:=fun x y=> .int .i64 y.1,outs:=fun x y=>[srd x.1 (yG y.2),.top],keep:=true}
def To(n:Nat):Sig:= {X:=ST×Int×Int×Bool×List Nd,args:=fun x=>[srd x.1 (xg x)],pre:=fun x=>wQ 2 n x.1 (xg x),Y:=Int×Int×Int×Bool×List Nd,post:=fun x y=>Ah x.1.sg (xg x) (pE x.1.sg n .fin) (yS y),res:=fun x y=> .int .i64 y.1,outs:=fun x y=>[srd x.1 (yG y.2)],keep:=true}
def Tp(n:Nat):Sig:= {X:=ST×Int×Int×Bool×List Nd,args:=fun x=>[srd x.1 (xg x)],pre:=fun x=>wQ 1 n x.1 (xg x),Y:=Int×Int×Int×Bool×List Nd,post:=fun x y=>Ah x.1.sg (xg x) (pE x.1.sg n .base) (yS y),res:=fun x y=> .int .i64 y.1,outs:=fun x y=>[srd x.1 (yG y.2)],keep:=true}
structure qAll (G:GInv) (n:Nat):Prop where
 val:Al G Go.Proofs.Tryz.prog 91 (MD n)
 pick:Al G Go.Proofs.Tryz.prog 109 (Ho n)
 chain:Al G Go.Proofs.Tryz.prog 137 (IA n)
 fin:Al G Go.Proofs.Tryz.prog 180 (To n)
 base:Al G Go.Proofs.Tryz.prog 206 (Tp n)
def saI(sg:List Sg)(p:Int)(i:Int)(N:Nat):Prop:=(p+1≤i∧i≤sg.length+1∧(sg.length:Int)-i<N)∧ED sg (sg.length+1) (p+1)=ED sg N i
def arG(sg:List Sg)(x:Gs):Bool:=isG sg x 4 [40]&&KP sg ⟨x.pos,x.deep,x.nodes⟩
theorem b9l{sg:List Sg}{p i:Int}{N:Nat}(h:saI sg p i N):p+1≤i∧i≤sg.length+1:=⟨h.1.1,h.1.2.1⟩
theorem b9m{sg:List Sg}{p:Int}(h0:0≤p)(h:p≤sg.length):saI sg p (p+1) (sg.length+1):=⟨by omega,rfl⟩
theorem a5F{sg:List Sg}{p i:Int}{N:Nat}(h0:0≤p)(h:saI sg p i N)(h1:i+1<sg.length)(hk:(sgO sg i).kind=1)(ht:((sgO sg (i+1)).text==[44])=true):saI sg p (i+1+1) (N-1)∧N-1<N:=by
 obtain⟨⟨a1,a2,a3⟩,h4⟩:=h
 match N with
 |0=>omega
 |N+1=>
  refine⟨⟨⟨by omega,by omega,by simp;omega⟩,?_⟩,by omega⟩
  rw[h4,ED,if_pos ⟨h1,hk⟩,if_pos (by simpa using ht)]
  simp only[Nat.add_sub_cancel];congr 1;omega
theorem b9n{sg:List Sg}{p i:Int}{N:Nat}(h:saI sg p i N)(h1:i+1<sg.length)(hk:(sgO sg i).kind=1)(ht:((sgO sg (i+1)).text==[44])=false):ED sg (sg.length+1) (p+1)=i+1:=by
 obtain⟨⟨a1,a2,a3⟩,h4⟩:=h
 match N with
 |0=>omega
 |N+1=>rw[h4,ED,if_pos ⟨h1,hk⟩,if_neg (by simpa using ht)]
theorem b9o{sg:List Sg}{p i:Int}{N:Nat}(h:saI sg p i N)(h1:¬i+1<sg.length):ED sg (sg.length+1) (p+1)=i:=by
 rw[h.2]
 match N with
 |0=>rfl
 |N+1=>rw[ED,if_neg (fun hh=>h1 hh.1)]
theorem b9p{sg:List Sg}{p i:Int}{N:Nat}(h:saI sg p i N)(hk:(sgO sg i).kind≠1):ED sg (sg.length+1) (p+1)=i:=by
 rw[h.2]
 match N with
 |0=>rfl
 |N+1=>rw[ED,if_neg (fun hh=>hk hh.2)]
theorem b9q{sg:List Sg}{x:Gs}(h:isG sg x 4 [40]=false):false=arG sg x:=by simp [arG,h]
theorem XM{sg:List Sg}{x:Gs}{i:Int}{b:Bool}(h:isG sg x 4 [40]=true)(hi:ED sg (sg.length+1) (x.pos+1)=i)(hb:b=FL sg i):b=arG sg x:=by
 rw[arG,h,Bool.true_and,KP];simp only[hi];exact hb
theorem a5G{sg:List Sg}{i k:Int}{e:Sg}(he:sg[i.toNat]? =some e)(hk:e.kind=k):(sgO sg i).kind=k:=by rw[JK he];exact hk
theorem a5H{sg:List Sg}{i:Int}{e:Sg}{m:List UInt8}{b:Bool}(he:sg[i.toNat]? =some e)(hk:(e.text==m)=b):((sgO sg i).text==m)=b:=by rw[JK he];exact hk
def lqJ(sg:List Sg)(one:Ps→PR)(m:List UInt8)(x y:Gs)(ks:List Int)(N:Nat):Prop:=Ji sg one m x y ks N∧(y.bad=false→x.bad=false)
theorem a5I{sg:List Sg}{one:Ps→PR}{m:List UInt8}{x:Gs}(h:gsOk sg x):lqJ sg one m x x [] (sg.length+1):=⟨b6q h,fun h=>h⟩
theorem JX{s:ST}{one:Ps→PR}{m:List UInt8}{x y:Gs}{ks:List Int}{N:Nat}(hs:sgB s.sg)(h:lqJ s.sg one m x y ks N):rOk s y:=b6W hs h
theorem Qv{s:ST}{one:Ps→PR}{m:List UInt8}{x y:Gs}{ks:List Int}{N:Nat}(hs:sgB s.sg)(h:lqJ s.sg one m x y ks N):ks.length≤3000:=b6U hs h
theorem b9r{s:ST}{one:Ps→PR}{m:List UInt8}{x y:Gs}{ks:List Int}{N n:Nat}(hx:wQ 11 n s x)(h:lqJ s.sg one m x y ks N)(hb:y.bad=false)(hq:isG s.sg y 4 m=false):vQ 11 n s (Au s.sg y m):=by
 rw[DJ hq];exact⟨b6V hx.1.1.1.1 h hb hx.1.1.2 hx.1.2,hx.2⟩
theorem Tq{sg:List Sg}{one:Ps→PR}{m:List UInt8}{x y:Gs}{ks:List Int}{N:Nat}{z:Int×Gs}(h:lqJ sg one m x y ks N)(hq:isG sg y 4 m=false)(hz:Ah sg (Au sg y m) one z)(hc:isG sg z.2 4 [44]=true):
 lqJ sg one m x (Au sg z.2 [44]) (ks++[z.1]) (N-1)∧N-1<N:=by
 rw[DJ hq] at hz;exact b6T h hz hq hc
theorem a5J{s:ST}{one:Ps→PR}{m:List UInt8}{ks0:List Int}{x y:Gs}{ks:List Int}{N:Nat}{z:Int×Gs}(hs:sgB s.sg)(h:lqJ s.sg one m x y ks N)(hq:isG s.sg y 4 m=false)(hz:Ah s.sg (Au s.sg y m) one z)(hc:isG s.sg z.2 4 [44]=false):
 vlQ s.sg one m ks0 x (ks0++ks++[z.1],As s.sg (Au s.sg z.2 [44]) m):=by
 rw[DJ hq] at hz
 have a:=b6S h hz hq hc
 refine⟨_,⟨a,?_⟩,?_⟩
 ·have:=Qv hs h;simp;omega
 ·simp only[List.append_assoc]
theorem a5K{s:ST}{one:Ps→PR}{m:List UInt8}{ks0:List Int}{x y:Gs}{ks:List Int}{N:Nat}(hs:sgB s.sg)(h:lqJ s.sg one m x y ks N)(hb:y.bad=true):vlQ s.sg one m ks0 x (ks0++ks,y):=by
 refine⟨_,⟨b6r h.1 hb,?_⟩,by simp only[Tk hb]⟩
 have:=Qv hs h;simp only;omega
theorem a5L{s:ST}{one:Ps→PR}{m:List UInt8}{ks0:List Int}{x y:Gs}{ks:List Int}{N:Nat}(hs:sgB s.sg)(h:lqJ s.sg one m x y ks N)(hq:isG s.sg y 4 m=true):vlQ s.sg one m ks0 x (ks0++ks,Au s.sg y m):=by
 refine⟨_,⟨b6s h.1 hq,?_⟩,by simp only[EE hq,JW hq]⟩
 have:=Qv hs h;simp only;omega
theorem FO{s:ST}{y:Gs}{m:List UInt8}(h:rOk s y):rOk s (Au s.sg y m):=by
 cases hq:isG s.sg y 4 m with
 |true=>rw[EE hq];exact⟨h.1,GB h.2 (Dn hq (by omega)).2⟩
 |false=>rw[DJ hq];exact h
theorem HS{s:ST}{y:Gs}{k:Int}(h:rOk s y)(hk:k≠0):rOk s (Bi s.sg y k):=by
 unfold Bi;split
 ·rename_i hq;exact⟨h.1,GB h.2 (Tg hk hq).2⟩
 ·exact h
theorem Oo{s:ST}{y:Gs}{m:List UInt8}(h:rOk s y):Ah s.sg (Au s.sg y m) (BS s.sg) (AW (Bi s.sg (Au s.sg y m) 1),An (Bi s.sg (Au s.sg y m) 1) ⟨1,BC s.sg (Au s.sg y m) 1,[],false⟩):=b8W h.1 (FO h).2
theorem XN{s:ST}{y:Gs}{m:List UInt8}(h:rOk s y):rOk s (An (Bi s.sg (Au s.sg y m) 1) ⟨1,BC s.sg (Au s.sg y m) 1,[],false⟩):=⟨h.1,Gc (Oo (m:=m) h)⟩
attribute [local irreducible] pE Bw Dg fnR Ah BG gsOk As CP An Dp EA Au Ed Eo AW CQ pkG isG nmG kdG Bi BC BS vlQ lqJ saI
def Ei:Sig:= {X:=ST×Int×Int×Bool×List Nd,args:=fun x=>[srd x.1 (xg x)],pre:=fun x=>rOk x.1 (xg x),Y:=Unit,post:=fun x y=>True,res:=fun x y=> .bool (arG x.1.sg (xg x)),outs:=fun x y=>[srd x.1 (xg x)],keep:=true}
def Tr(x:ST×Int×Int×Bool×List Nd):LS:= {ι:=Int×Nat,inv:=fun i=>saI x.1.sg (xg x).pos i.1 i.2,regs:=fun i=>[(0,srd x.1 (xg x)),(3,.int .i64 i.1)],als:=[],meas:=fun i=>i.2}
theorem b9s:Al G Tryz.prog 225 Ei:=
 vcFun_okP [(90,0,Eg)] [] false (fun x=>[(5,Tr x)]) Tryz.func225 rfl (by decide) ⟨Qs,trivial⟩ (fun(x:ST×Int×Int×Bool×List Nd)=>True∧cA Eg [srd x.1 (xg x),.int .i64 (4:Int),.str #[(40:UInt8)].toList] fun x_1 y=>Ab (!isG x_1.1.sg (xh x_1) x_1.2.2.2.2.2.1 x_1.2.2.2.2.2.2) (rA Ei x [.bool false,srd x_1.1 (xh x_1)]) (inR IntKind.i64 ((xg x).pos+(1:Int))∧eA (Tr x) [srd x_1.1 (xh x_1),.int .i64 ((xg x).pos+(1:Int))]∧∀(i:Int×Nat),saI x.1.sg (xg x).pos i.1 i.2→inR IntKind.i64 (i.1+(1:Int))∧Ab (decide (i.1+(1:Int)<(↑(List.length x.1.sg):Int))) (((0:Int)≤i.1∧i.1<(↑(List.length x.1.sg):Int))∧∀(e:Sg),x.1.sg[Int.toNat i.1]? =some e→Ab (e.kind==(1:Int)) (inR IntKind.i64 (i.1+(1:Int))∧((0:Int)≤i.1+(1:Int)∧i.1+(1:Int)<(↑(List.length x.1.sg):Int))∧∀(e:Sg),x.1.sg[Int.toNat (i.1+(1:Int))]? =some e→Ab (!e.text== #[(44:UInt8)].toList) (inR IntKind.i64 (i.1+(1:Int)+(1:Int))∧Ab (decide (i.1+(1:Int)+(1:Int)<(↑(List.length x.1.sg):Int))) (((0:Int)≤i.1+(1:Int)∧i.1+(1:Int)<(↑(List.length x.1.sg):Int))∧∀(e:Sg),x.1.sg[Int.toNat (i.1+(1:Int))]? =some e→Ab (e.text== #[(41:UInt8)].toList) (((0:Int)≤i.1+(1:Int)∧i.1+(1:Int)<(↑(List.length x.1.sg):Int))∧∀(e:Sg),x.1.sg[Int.toNat (i.1+(1:Int))]? =some e→Ab (e.kind==(4:Int)) (inR IntKind.i64 (i.1+(1:Int)+(1:Int))∧((0:Int)≤i.1+(1:Int)+(1:Int)∧i.1+(1:Int)+(1:Int)<(↑(List.length x.1.sg):Int))∧∀(e:Sg),x.1.sg[Int.toNat (i.1+(1:Int)+(1:Int))]? =some e→Ab (e.text== #[(61:UInt8),(62:UInt8)].toList) (inR IntKind.i64 (i.1+(1:Int)+(1:Int))∧((0:Int)≤i.1+(1:Int)+(1:Int)∧i.1+(1:Int)+(1:Int)<(↑(List.length x.1.sg):Int))∧∀(e:Sg),x.1.sg[Int.toNat (i.1+(1:Int)+(1:Int))]? =some e→rA Ei x [.bool (e.kind==(4:Int)),srd x.1 (xg x)]) (rA Ei x [.bool false,srd x.1 (xg x)])) (rA Ei x [.bool false,srd x.1 (xg x)])) (rA Ei x [.bool false,srd x.1 (xg x)])) (rA Ei x [.bool false,srd x.1 (xg x)])) (inR IntKind.i64 (i.1+(1:Int)+(1:Int))∧eN (Tr x) i [srd x.1 (xg x),.int .i64 (i.1+(1:Int)+(1:Int))])) (inR IntKind.i64 (i.1+(1:Int))∧Ab (decide (i.1+(1:Int)<(↑(List.length x.1.sg):Int))) (((0:Int)≤i.1∧i.1<(↑(List.length x.1.sg):Int))∧∀(e:Sg),x.1.sg[Int.toNat i.1]? =some e→Ab (e.text== #[(41:UInt8)].toList) (((0:Int)≤i.1∧i.1<(↑(List.length x.1.sg):Int))∧∀(e:Sg),x.1.sg[Int.toNat i.1]? =some e→Ab (e.kind==(4:Int)) (inR IntKind.i64 (i.1+(1:Int))∧((0:Int)≤i.1+(1:Int)∧i.1+(1:Int)<(↑(List.length x.1.sg):Int))∧∀(e:Sg),x.1.sg[Int.toNat (i.1+(1:Int))]? =some e→Ab (e.text== #[(61:UInt8),(62:UInt8)].toList) (inR IntKind.i64 (i.1+(1:Int))∧((0:Int)≤i.1+(1:Int)∧i.1+(1:Int)<(↑(List.length x.1.sg):Int))∧∀(e:Sg),x.1.sg[Int.toNat (i.1+(1:Int))]? =some e→rA Ei x [.bool (e.kind==(4:Int)),srd x.1 (xg x)]) (rA Ei x [.bool false,srd x.1 (xg x)])) (rA Ei x [.bool false,srd x.1 (xg x)])) (rA Ei x [.bool false,srd x.1 (xg x)])) (rA Ei x [.bool false,srd x.1 (xg x)]))) (inR IntKind.i64 (i.1+(1:Int))∧Ab (decide (i.1+(1:Int)<(↑(List.length x.1.sg):Int))) (((0:Int)≤i.1∧i.1<(↑(List.length x.1.sg):Int))∧∀(e:Sg),x.1.sg[Int.toNat i.1]? =some e→Ab (e.text== #[(41:UInt8)].toList) (((0:Int)≤i.1∧i.1<(↑(List.length x.1.sg):Int))∧∀(e:Sg),x.1.sg[Int.toNat i.1]? =some e→Ab (e.kind==(4:Int)) (inR IntKind.i64 (i.1+(1:Int))∧((0:Int)≤i.1+(1:Int)∧i.1+(1:Int)<(↑(List.length x.1.sg):Int))∧∀(e:Sg),x.1.sg[Int.toNat (i.1+(1:Int))]? =some e→Ab (e.text== #[(61:UInt8),(62:UInt8)].toList) (inR IntKind.i64 (i.1+(1:Int))∧((0:Int)≤i.1+(1:Int)∧i.1+(1:Int)<(↑(List.length x.1.sg):Int))∧∀(e:Sg),x.1.sg[Int.toNat (i.1+(1:Int))]? =some e→rA Ei x [.bool (e.kind==(4:Int)),srd x.1 (xg x)]) (rA Ei x [.bool false,srd x.1 (xg x)])) (rA Ei x [.bool false,srd x.1 (xg x)])) (rA Ei x [.bool false,srd x.1 (xg x)])) (rA Ei x [.bool false,srd x.1 (xg x)])))) (fun x=>by kernel_rfl) fun(x:ST×Int×Int×Bool×List Nd) (hx:rOk x.1 (xg x))=>(by
 dsimp only[cA,eA,eN,Tr,Bx,AZ,rA,Ei,Eg,Df,sgs,srd,Aw,Az,mvL,lnL,mvE,lnE,Bv]
 obtain⟨s,p,d,b,ns⟩:=x;dsimp only[xg,xh] at hx ⊢
 have hx:rOk s ⟨p,d,b,ns⟩:=hx;have hs:=He hx;dsimp only at hs
 (repeat' first|(with_reducible first|rfl|exact True.intro|apply AK|apply And.intro|((first|apply AA|apply AI|apply AB|apply AJ)<;>intro _))|(apply Ax<;>intro _)|apply AH|refine Af () ?_ ?_|((first|apply AO|apply AN|apply AM|apply AL|apply AG|apply AF|apply AE|apply AD|apply AC)<;>try dsimp only)|apply Af|(refine Prod.forall.2 ?_;intro _;try dsimp only)|(intro _;try dsimp only))
 all_goals(try dsimp only[xg,xh,yG,yS,iG] at*)
 all_goals first
  |(show Nat;skip)
  |rfl
  |exact hx
  |exact b9m hs.1.1.1 hs.1.1.2
  |exact b9q (x:=⟨p,d,b,ns⟩) ‹_›
  |exact(a5F hs.1.1.1 ‹_› ‹_› (a5G ‹_› ‹_›) (a5H ‹_› ‹_›)).1
  |(have hq:=b9l (show saI _ _ _ _ by assumption);(try simp only[AQ]);omega)
  |omega
  |skip
 all_goals first
  |exact(a5F hs.1.1.1 ‹_› ‹_› (a5G ‹_› ‹_›) (a5H ‹_› ‹_›)).2
  |skip
 all_goals(repeat(rename s.sg[_]? =some _=>hq;have hq2:=JK hq;clear hq;subst hq2))
 all_goals first
  |(refine XM (x:=⟨p,d,b,ns⟩) ‹_› (b9n ‹_› ‹_› ‹_› ‹_›) ?_;rw[Bool.eq_iff_iff];simp [FL,JS, *];done)
  |(refine XM (x:=⟨p,d,b,ns⟩) ‹_› (b9o ‹_› ‹_›) ?_;rw[Bool.eq_iff_iff];simp [FL,JS, *];done)
  |(refine XM (x:=⟨p,d,b,ns⟩) ‹_› (b9p ‹_› ‹_›) ?_;rw[Bool.eq_iff_iff];simp [FL,JS, *];done)
  |skip)
def GH(n:Nat):Sig:= {X:=ST×Int×Int×Bool×List Nd×List UInt8×List Int,args:=fun x=>[srd x.1 (xh x),.str x.2.2.2.2.2.1,Ad x.2.2.2.2.2.2],pre:=fun x=>wQ 11 n x.1 (xh x)∧x.2.2.2.2.2.2.length≤1,Y:=List Int×Int×Int×Bool×List Nd,post:=fun x y=>vlQ x.1.sg (pE x.1.sg n .value) x.2.2.2.2.2.1 x.2.2.2.2.2.2 (xh x) (yS y),res:=fun x y=>Ad y.1,outs:=fun x y=>[srd x.1 (yG y.2),.top,.top],keep:=true}
def Ts(n:Nat)(x:ST×Int×Int×Bool×List Nd×List UInt8×List Int):LS:= {ι:=Int×Int×Bool×List Nd×List Int×Nat,inv:=fun i=>lqJ x.1.sg (pE x.1.sg n .value) x.2.2.2.2.2.1 (xh x) (iG i) i.2.2.2.2.1 i.2.2.2.2.2,regs:=fun i=>[(0,srd x.1 (iG i)),(1,.str x.2.2.2.2.2.1),(2,Ad (x.2.2.2.2.2.2++i.2.2.2.2.1))],als:=[],meas:=fun i=>i.2.2.2.2.2}
theorem XO(n:Nat)(h:qAll G n):Al G Tryz.prog 110 (GH n):=
 vcFun_okP [(63,0,Cb),(91,0,(MD n)),(62,0,BO)] [(25,⟨Int,Bc⟩)] false (fun x=>[(1,Ts n x)]) Tryz.func110 rfl (by decide) ⟨HQ,h.val,Ix,trivial⟩ (fun(x:ST×Int×Int×Bool×List Nd×List UInt8×List Int)=>True∧eA (Ts n x) [srd x.1 (xh x),.str x.2.2.2.2.2.1,Ad x.2.2.2.2.2.2]∧∀(i:Int×Int×Bool×List Nd×List Int×Nat),lqJ x.1.sg (pE x.1.sg n NT.value) x.2.2.2.2.2.1 (xh x) (iG i) i.2.2.2.2.1 i.2.2.2.2.2→Ab (!(iG i).bad) (cA Cb [srd x.1 (iG i),.str x.2.2.2.2.2.1] fun x_1 y=>Ab (!isG x_1.1.sg (xh x_1) (4:Int) x_1.2.2.2.2.2) (cA (MD n) [srd x_1.1 (Au x_1.1.sg (xh x_1) x_1.2.2.2.2.2)] fun x_2 y=>∃(x_3:Int),y.1=x_3∧∃(zs:List Int),Ad [x_3]=Ad zs∧Br Bc∧Ba (List.length (x.2.2.2.2.2.2++i.2.2.2.2.1)+List.length zs) (8:Nat)∧cA Cb [srd x_2.1 (yG y.2),.str #[(44:UInt8)].toList] fun x_4 y=>Ab (!isG x_4.1.sg (xh x_4) (4:Int) x_4.2.2.2.2.2) (cA BO [srd x_4.1 (Au x_4.1.sg (xh x_4) x_4.2.2.2.2.2),.str x.2.2.2.2.2.1] fun x_5 y=>rA (GH n) x [Ad (x.2.2.2.2.2.2++i.2.2.2.2.1++zs),srd x_5.1 (As x_5.1.sg (xh x_5) x_5.2.2.2.2.2),.top,.top]) (eN (Ts n x) i [srd x_4.1 (Au x_4.1.sg (xh x_4) x_4.2.2.2.2.2),.str x.2.2.2.2.2.1,Ad (x.2.2.2.2.2.2++i.2.2.2.2.1++zs)])) (rA (GH n) x [Ad (x.2.2.2.2.2.2++i.2.2.2.2.1),srd x_1.1 (Au x_1.1.sg (xh x_1) x_1.2.2.2.2.2),.top,.top])) (rA (GH n) x [Ad (x.2.2.2.2.2.2++i.2.2.2.2.1),srd x.1 (iG i),.top,.top])) (fun x=>by kernel_rfl) fun(x:ST×Int×Int×Bool×List Nd×List UInt8×List Int) (hx:wQ 11 n x.1 (xh x)∧x.2.2.2.2.2.2.length≤1)=>(by
 dsimp only[cA,eA,eN,Ts,Bx,Ad,AZ,rA,Cb,MD,GH,BO,Df,sgs,srd,Aw,Az,mvL,lnL,mvE,lnE,Bv]
 obtain⟨s,p,d,b,ns,m,ks0⟩:=x;dsimp only[xg,xh] at hx ⊢
 obtain⟨hx,hk0⟩:=hx
 have hx:wQ 11 n s ⟨p,d,b,ns⟩:=hx
 have hs:=hx.1.1.1.1;have h1:=hx.1.1.1
 (repeat' first|(with_reducible first|rfl|exact True.intro|apply AK|apply And.intro|((first|apply AA|apply AI|apply AB|apply AJ)<;>intro _))|(apply Ax<;>intro _)|apply AH|refine Af () ?_ ?_|((first|apply AO|apply AN|apply AM|apply AL|apply AG|apply AF|apply AE|apply AD|apply AC)<;>try dsimp only)|apply Af|(refine Prod.forall.2 ?_;intro _;try dsimp only)|(intro _;try dsimp only))
 all_goals(try dsimp only[xg,xh,yG,yS,iG] at*)
 all_goals(try simp only[GE] at*)
 all_goals first
  |(show Nat;skip)
  |rfl
  |exact h1
  |exact a5I h1.2
  |exact JX hs ‹_›
  |exact b9r hx ‹_› ‹_› ‹_›
  |exact Fs h1 ‹_›
  |exact FO (Fs h1 ‹_›)
  |exact(Tq ‹_› ‹_› ‹_› ‹_›).1
  |exact a5J hs ‹_› ‹_› ‹_› ‹_›
  |exact a5K hs ‹_› ‹_›
  |exact a5L hs ‹_› ‹_›
  |(simp;done)
  |(have hq:=Qv hs (show lqJ _ _ _ _ _ _ _ by assumption);(try simp only[Ba,List.length_append,List.length_cons,List.length_nil]);omega)
  |skip
 all_goals first
  |exact(Tq ‹_› ‹_› ‹_› ‹_›).2
  |(simp;done)
  |skip)
def GI:Sig:= {X:=ST×Int×Int×Bool×List Nd,args:=fun x=>[srd x.1 (xg x)],pre:=fun x=>rOk x.1 (xg x),Y:=List Int×Int×Int×Bool×List Nd,post:=fun x y=>vlQ x.1.sg (BS x.1.sg) [41] [] (As x.1.sg (xg x) [40]) (yS y),res:=fun x y=>Ad y.1,outs:=fun x y=>[srd x.1 (yG y.2)],keep:=true}
def Tt(x:ST×Int×Int×Bool×List Nd):LS:= {ι:=Int×Int×Bool×List Nd×List Int×Nat,inv:=fun i=>lqJ x.1.sg (BS x.1.sg) [41] (As x.1.sg (xg x) [40]) (iG i) i.2.2.2.2.1 i.2.2.2.2.2,regs:=fun i=>[(0,srd x.1 (iG i)),(3,Ad i.2.2.2.2.1)],als:=[],meas:=fun i=>i.2.2.2.2.2}
theorem XP:Al G Tryz.prog 64 GI:=
 vcFun_okP [(63,0,Cb),(62,0,BO),(36,0,Bq),(59,0,CF)] [(25,⟨Int,Bc⟩)] false (fun x=>[(3,Tt x)]) Tryz.func64 rfl (by decide) ⟨HQ,Ix,HR,KX,trivial⟩ (fun(x:ST×Int×Int×Bool×List Nd)=>True∧cA BO [srd x.1 (xg x),.str #[(40:UInt8)].toList] fun x_1 y=>eA (Tt x) [srd x_1.1 (As x_1.1.sg (xh x_1) x_1.2.2.2.2.2),Ad []]∧∀(i:Int×Int×Bool×List Nd×List Int×Nat),lqJ x.1.sg (BS x.1.sg) [(41:UInt8)] (As x.1.sg (xg x) [(40:UInt8)]) (iG i) i.2.2.2.2.1 i.2.2.2.2.2→Ab (!(iG i).bad) (cA Cb [srd x.1 (iG i),.str #[(41:UInt8)].toList] fun x_2 y=>Ab (!isG x_2.1.sg (xh x_2) (4:Int) x_2.2.2.2.2.2) (cA CF [srd x_2.1 (Au x_2.1.sg (xh x_2) x_2.2.2.2.2.2),.int .i64 (1:Int)] fun x_3 y=>cA Bq [srd x_3.1 (Bi x_3.1.sg (xh x_3) x_3.2.2.2.2.2),.int .i64 (1:Int),.str (BC x_3.1.sg (xh x_3) x_3.2.2.2.2.2),Ad []] fun x_4 y=>∃(x_5:Int),AW (xh x_4)=x_5∧∃(zs:List Int),Ad [x_5]=Ad zs∧Br Bc∧Ba (List.length i.2.2.2.2.1+List.length zs) (8:Nat)∧cA Cb [srd x_4.1 (An (xh x_4) {kind:=x_4.2.2.2.2.2.1,text:=x_4.2.2.2.2.2.2.1,kids:=x_4.2.2.2.2.2.2.2,blank:=false}),.str #[(44:UInt8)].toList] fun x_6 y=>Ab (!isG x_6.1.sg (xh x_6) (4:Int) x_6.2.2.2.2.2) (cA BO [srd x_6.1 (Au x_6.1.sg (xh x_6) x_6.2.2.2.2.2),.str #[(41:UInt8)].toList] fun x_7 y=>rA GI x [Ad (i.2.2.2.2.1++zs),srd x_7.1 (As x_7.1.sg (xh x_7) x_7.2.2.2.2.2)]) (eN (Tt x) i [srd x_6.1 (Au x_6.1.sg (xh x_6) x_6.2.2.2.2.2),Ad (i.2.2.2.2.1++zs)])) (rA GI x [Ad i.2.2.2.2.1,srd x_2.1 (Au x_2.1.sg (xh x_2) x_2.2.2.2.2.2)])) (rA GI x [Ad i.2.2.2.2.1,srd x.1 (iG i)])) (fun x=>by kernel_rfl) fun(x:ST×Int×Int×Bool×List Nd) (hx:rOk x.1 (xg x))=>(by
 dsimp only[cA,eA,eN,Tt,Bx,Ad,AZ,rA,Cb,GI,Bq,CF,BO,Df,sgs,srd,Aw,Az,mvL,lnL,mvE,lnE,Bv]
 obtain⟨s,p,d,b,ns⟩:=x;dsimp only[xg,xh] at hx ⊢
 have h1:rOk s ⟨p,d,b,ns⟩:=hx;have hs:=h1.1
 have t:=Hn (m:=[40]) h1
 (repeat' first|(with_reducible first|rfl|exact True.intro|apply AK|apply And.intro|((first|apply AA|apply AI|apply AB|apply AJ)<;>intro _))|(apply Ax<;>intro _)|apply AH|refine Af () ?_ ?_|((first|apply AO|apply AN|apply AM|apply AL|apply AG|apply AF|apply AE|apply AD|apply AC)<;>try dsimp only)|apply Af|(refine Prod.forall.2 ?_;intro _;try dsimp only)|(intro _;try dsimp only))
 all_goals(try dsimp only[xg,xh,yG,yS,iG] at*)
 all_goals(try simp only[GE] at*)
 all_goals first
  |(show Nat;skip)
  |rfl
  |exact h1
  |omega
  |exact a5I t.1.2
  |exact JX hs ‹_›
  |exact FO (JX hs ‹_›)
  |exact HS (FO (JX hs ‹_›)) (by omega)
  |exact XN (JX hs ‹_›)
  |exact FO (XN (JX hs ‹_›))
  |exact(Tq ‹_› ‹_› (Oo (JX hs ‹_›)) ‹_›).1
  |exact a5J (ks0:=[]) hs ‹_› ‹_› (Oo (JX hs ‹_›)) ‹_›
  |exact a5K (ks0:=[]) hs ‹_› ‹_›
  |exact a5L (ks0:=[]) hs ‹_› ‹_›
  |(have hq:=Qv hs (show lqJ _ _ _ _ _ _ _ by assumption);(try simp only[Ba,List.length_append,List.length_cons,List.length_nil]);omega)
  |skip
 all_goals first
  |exact(Tq ‹_› ‹_› (Oo (JX hs ‹_›)) ‹_›).2
  |skip)
end Go.My
end
section
namespace Go.My
open Go.Eng Go.Proofs
variable {G:GInv}
theorem JY{sg:List Sg}{x:Gs}{k:Int}(h:kdG sg x k=false)(hk:k≠1):(pkG sg x 0).kind≠k:=by
 rw[Qt hk] at h;simpa using h
theorem b9t{sg:List Sg}{x:Gs}{n:Nat}{k:Int}{y:Gs}(hs:sgB sg)(h:gsOk sg x)(h1:kdG sg x 1=false)(hk:(pkG sg x 0).kind=1)(hy:y=Bt x):Ah sg x (pE sg (n+1) .base) (k,y):=by
 have a:=a4O (n:=n) hs h hk
 rw[Jj] at h1
 rw[Eo,Ed,if_neg (by simp [h1]),if_neg (by simp [h1])] at a
 subst hy
 exact Om a h rfl (Int.le_refl _) rfl (fun hb=>by simp [Bt] at hb)
theorem b9u{sg:List Sg}{x:Gs}{n:Nat}(hs:sgB sg)(h:gsOk sg x)(h1:kdG sg x 1=true):Ah sg x (pE sg (n+1) .base) (AW (Bi sg x 1),An (Bi sg x 1) ⟨1,BC sg x 1,[],false⟩):=by
 have hn:=h1
 rw[Jj] at hn
 have a:=a4O (n:=n) hs h (by simp [nmG] at hn;exact hn.1)
 rw[Eo,Ed,if_pos hn,if_pos hn] at a
 exact On hs h (by omega) h1 a
theorem a5M{sg:List Sg}{x:Gs}{n:Nat}{k:Int}(hs:sgB sg)(h:gsOk sg x)(hk:k=2∨k=3)(h1:kdG sg x k=true):Ah sg x (pE sg (n+1) .base) (AW (Bi sg x k),An (Bi sg x k) ⟨k,BC sg x k,[],false⟩):=by
 have hn:=h1
 rw[Qt (by omega)] at hn
 exact On hs h (by omega) h1 (b6H hs h (by simpa using hn) hk)
theorem XQ{sg:List Sg}{x:Gs}{m:List UInt8}(hq:isG sg x 4 m=true):(pkG sg x 0).kind≠1:=by
 simp [isG] at hq;rw[hq.1];omega
theorem b9v{s:ST}{x:Gs}{n:Nat}{v:List Int×Gs}(h:rOk s x)(h1:kdG s.sg x 1=false)(h2:kdG s.sg x 2=false)(h3:kdG s.sg x 3=false)(hq:isG s.sg x 4 [91]=true)(hv:vlQ s.sg (pE s.sg n .value) [93] [] (Au s.sg x [91]) v):
 Ah s.sg x (pE s.sg (n+1) .base) (AW v.2,An v.2 ⟨4,[],v.1,false⟩):=by
 rw[EE hq] at hv
 obtain⟨l,⟨a,b⟩,rfl⟩:=hv
 exact Iy a.1 ⟨by simp,by simp;omega⟩ (b6I h.2 (XQ hq) (JY h2 (by omega)) (JY h3 (by omega)) hq a b)
theorem b9w{s:ST}{x:Gs}{n:Nat}{v:List Int×Gs}{z:Int×Gs}(hm:sgM s.sg)(h:rOk s x)(h1:kdG s.sg x 1=false)(h2:kdG s.sg x 2=false)(h3:kdG s.sg x 3=false)(hn:isG s.sg x 4 [91]=false)(ha:arG s.sg (Au s.sg x [91])=true)
 (hv:vlQ s.sg (BS s.sg) [41] [] (As s.sg (Au s.sg x [91]) [40]) v) (hz:Ah s.sg (As s.sg v.2 [61,62]) (pE s.sg n .pick) z):Ah s.sg x (pE s.sg (n+1) .base) (AW z.2,An z.2 ⟨9,[],v.1++[z.1],false⟩):=by
 rw[DJ hn] at ha hv
 simp only[arG,Bool.and_eq_true] at ha
 obtain⟨l,⟨a,b⟩,rfl⟩:=hv
 refine b9j hm h.2 (XQ ha.1) (JY h2 (by omega)) (JY h3 (by omega)) hn ha.1 (fun s0 hs=> ?_) (b6L (l:=l) h.2 a b hz)
 obtain⟨_,rfl⟩:=EU.1 hs;exact ha.2
theorem b9x{s:ST}{x:Gs}{n:Nat}{z:Int×Gs}(hm:sgM s.sg)(h:rOk s x)(h1:kdG s.sg x 1=false)(h2:kdG s.sg x 2=false)(h3:kdG s.sg x 3=false)(hn:isG s.sg x 4 [91]=false)(ha:arG s.sg (Au s.sg x [91])=false)(hb:(As s.sg (Au s.sg x [91]) [40]).bad=false)
 (hz:Ah s.sg (As s.sg (Au s.sg x [91]) [40]) (pE s.sg n .value) z):Ah s.sg x (pE s.sg (n+1) .base) (AW (As s.sg z.2 [41]),An (As s.sg z.2 [41]) ⟨11,[],[z.1],false⟩):=by
 rw[DJ hn] at ha hb hz
 have hq:isG s.sg x 4 [40]=true:=by
  cases hq:isG s.sg x 4 [40] with
  |true=>rfl
  |false=>rw[Qu hq] at hb;cases hb
 rw[JW hq] at hz
 simp only[arG,hq,Bool.true_and] at ha
 refine b9k hm h.2 (XQ hq) (JY h2 (by omega)) (JY h3 (by omega)) hn hq (fun s0 hs=> ?_) hz
 obtain⟨_,rfl⟩:=EU.1 hs;exact ha
theorem b9y{s:ST}{x:Gs}{n:Nat}{k:Int}(h:rOk s x)(h1:kdG s.sg x 1=false)(h2:kdG s.sg x 2=false)(h3:kdG s.sg x 3=false)(hn:isG s.sg x 4 [91]=false)(hx:x.bad=false)(hb:(As s.sg (Au s.sg x [91]) [40]).bad=true):
 Ah s.sg x (pE s.sg (n+1) .base) (k,As s.sg (Au s.sg x [91]) [40]):=by
 rw[DJ hn] at hb ⊢
 have hq:isG s.sg x 4 [40]=false:=by
  cases hq:isG s.sg x 4 [40] with
  |false=>rfl
  |true=>rw[JW hq] at hb;simp only[Aq] at hb;rw[hx] at hb;cases hb
 rw[Qu hq]
 rcases Classical.em ((pkG s.sg x 0).kind=1) with e|e
 ·exact b9t h.1 h.2 h1 e rfl
 ·exact b6K h.2 e (JY h2 (by omega)) (JY h3 (by omega)) hn hq
theorem b9z{s:ST}{x:Gs}{n:Nat}(hx:wQ 1 (n+1) s x)(hq:isG s.sg x 4 [91]=true):wQ 11 n s (Au s.sg x [91]):=by
 rw[EE hq];exact⟨(a4P hq (by omega) hx.1.1.1 hx.1.1.2 hx.1.2 (by omega)).1,hx.2⟩
theorem b9A{s:ST}{x:Gs}{n:Nat}{v:List Int×Gs}(hx:wQ 1 (n+1) s x)(hn:isG s.sg x 4 [91]=false)(ha:arG s.sg (Au s.sg x [91])=true)(hv:vlQ s.sg (BS s.sg) [41] [] (As s.sg (Au s.sg x [91]) [40]) v):vQ 10 n s (As s.sg v.2 [61,62]):=by
 rw[DJ hn] at ha hv
 simp only[arG,Bool.and_eq_true] at ha
 obtain⟨l,a,rfl⟩:=hv
 exact⟨b6Y (x:=x) (n:=n) (l:=l) hx.1.1.1 (hx.1.1.2 (Dn ha.1 (by omega)).1) ha.1 (by have:=hx.1.2;omega) a,hx.2⟩
theorem b9B{s:ST}{x:Gs}{n:Nat}(hx:wQ 1 (n+1) s x)(hn:isG s.sg x 4 [91]=false)(hb:(As s.sg (Au s.sg x [91]) [40]).bad=false):vQ 11 n s (As s.sg (Au s.sg x [91]) [40]):=by
 rw[DJ hn] at hb ⊢
 have hq:isG s.sg x 4 [40]=true:=by
  cases hq:isG s.sg x 4 [40] with
  |true=>rfl
  |false=>rw[Qu hq] at hb;cases hb
 rw[JW hq];exact⟨(a4P hq (by omega) hx.1.1.1 hx.1.1.2 hx.1.2 (by omega)).2,hx.2⟩
theorem XR{s:ST}{one:Ps→PR}{m:List UInt8}{ks0:List Int}{x:Gs}{y:List Int×Gs}(hs:sgB s.sg)(h:vlQ s.sg one m ks0 x y):rOk s y.2:=(XL hs h).1
theorem XS{s:ST}{one:Ps→PR}{m:List UInt8}{ks0:List Int}{x:Gs}{y:List Int×Gs}(hs:sgB s.sg)(h:vlQ s.sg one m ks0 x y):y.1.length≤ks0.length+3001:=(XL hs h).2.1
def eqJ(sg:List Sg)(n:Nat)(x y:Gs)(k:Int)(N:Nat):Prop:=enI sg n x y k N∧(y.bad=false→y.deep≤20)
theorem b9C{s:ST}{x:Gs}{n:Nat}{z:Int×Gs}(hx:wQ 2 (n+1) s x)(hz:Ah s.sg x (pE s.sg n .base) z):eqJ s.sg n x z.2 z.1 (s.sg.length+1):=b7a hx.1.1.1 hx.1.1.2 hz
theorem a5N{s:ST}{x y:Gs}{n:Nat}{k:Int}{N:Nat}(hx:wQ 2 (n+1) s x)(h:eqJ s.sg n x y k N):rOk s y:=⟨hx.1.1.1.1,h.1.1.1⟩
theorem b9D{s:ST}{x y:Gs}{n:Nat}{k:Int}{N:Nat}(hx:wQ 2 (n+1) s x)(h:eqJ s.sg n x y k N)(hq:isG s.sg y 4 [40]=true):wQ 11 n s (Au s.sg y [40]):=by
 have hb:=(Dn hq (by omega)).1
 have:=h.1.2.2 hb;have:=hx.1.2
 have hl:=Dn hq (by omega)
 rw[EE hq]
 have e1:(Aq y).pos=y.pos+1:=rfl
 have e2:(Aq y).deep=y.deep:=rfl
 exact⟨⟨⟨⟨hx.1.1.1.1,GB h.1.1.1 hl.2⟩,fun _=>by rw[e2];exact h.2 hb⟩,by omega⟩,hx.2⟩
theorem a5O{s:ST}{x y:Gs}{n:Nat}{k:Int}{N:Nat}{v:List Int×Gs}(hx:wQ 2 (n+1) s x)(h:eqJ s.sg n x y k N)(hq:isG s.sg y 4 [40]=true)(hv:vlQ s.sg (pE s.sg n .value) [41] [k] (Au s.sg y [40]) v):
 eqJ s.sg n x (An v.2 ⟨5,[],v.1,false⟩) (AW v.2) (N-1)∧N-1<N:=by
 rw[EE hq,←JW hq] at hv
 have hw:=a5E h.1.1.1 hv
 exact b7b h hw hq
theorem a5P{s:ST}{x y:Gs}{n:Nat}{k:Int}{N:Nat}(hx:wQ 2 (n+1) s x)(h:eqJ s.sg n x y k N)(hp:isG s.sg y 4 [40]=false)(hq:isG s.sg (Au s.sg y [40]) 4 [46]=true):
 eqJ s.sg n x (An (Bi s.sg (Au s.sg (Au s.sg y [40]) [46]) 1) ⟨6,BC s.sg (Au s.sg (Au s.sg y [40]) [46]) 1,[k],false⟩) (AW (Bi s.sg (Au s.sg (Au s.sg y [40]) [46]) 1)) (N-1)∧N-1<N:=by
 rw[DJ hp] at hq ⊢
 rw[EE hq]
 obtain⟨a,b⟩:=b9f hx.1.1.1.1 h.1 hp hq
 refine⟨⟨a,fun _=> ?_⟩,b⟩
 rw[Xt]
 have:=h.2 (Dn hq (by omega)).1
 have e:(Bi s.sg (Aq y) 1).deep=y.deep:=by unfold Bi;split<;>rfl
 omega
theorem XT{s:ST}{x y:Gs}{n:Nat}{k:Int}{N:Nat}(hx:wQ 2 (n+1) s x)(h:eqJ s.sg n x y k N):rOk s (Au s.sg y [40])∧rOk s (Au s.sg (Au s.sg y [40]) [46])∧rOk s (Bi s.sg (Au s.sg (Au s.sg y [40]) [46]) 1):=
 have a:=FO (m:=[40]) (a5N hx h)
 ⟨a,FO a,HS (FO a) (by omega)⟩
theorem b9E{s:ST}{x y:Gs}{n:Nat}{k:Int}{N:Nat}(h:eqJ s.sg n x y k N)(hb:y.bad=true):Ah s.sg x (pE s.sg (n+1) .fin) (k,y):=b6C h.1 hb
theorem b9F{s:ST}{x y:Gs}{n:Nat}{k:Int}{N:Nat}(h:eqJ s.sg n x y k N)(hb:y.bad=false)(hp:isG s.sg y 4 [40]=false)(hq:isG s.sg (Au s.sg y [40]) 4 [46]=false):Ah s.sg x (pE s.sg (n+1) .fin) (k,Au s.sg (Au s.sg y [40]) [46]):=by
 rw[DJ hp] at hq ⊢
 rw[DJ hq];exact b6G h.1 hb hp hq
attribute [local irreducible] pE Bw Dg fnR Ah BG gsOk As CP An Dp EA Au Ed Eo AW CQ pkG isG nmG kdG Bi BC BS vlQ lqJ saI arG eqJ
def Jk(n:Nat):Sig:= {X:=ST×Int×Int×Bool×List Nd,args:=fun x=>[srd x.1 (xg x)],pre:=fun x=>wQ 1 (n+1) x.1 (xg x),Y:=Int×Int×Int×Bool×List Nd,post:=fun x y=>Ah x.1.sg (xg x) (pE x.1.sg (n+1) .base) (yS y),res:=fun x y=> .int .i64 y.1,outs:=fun x y=>[srd x.1 (yG y.2)],keep:=true}
theorem b9G(n:Nat)(h:qAll G n):Al G Tryz.prog 206 (Jk n):=
 vcFun_okP [(58,0,Eh),(59,0,CF),(36,0,Bq),(63,0,Cb),(110,0,(GH n)),(225,0,Ei),(64,0,GI),(62,0,BO),(109,0,(Ho n)),(91,0,(MD n))] [(25,⟨Int,Bc⟩)] false (fun x=>[]) Tryz.func206 rfl (by decide) ⟨Th,KX,HR,HQ,(XO n h),b9s,XP,Ix,h.pick,h.val,trivial⟩ (fun(x:ST×Int×Int×Bool×List Nd)=>True∧Ab (xg x).bad (rA (Jk n) x [.int .i64 (0:Int),srd x.1 (xg x)]) (cA Eh [srd x.1 (xg x),.int .i64 (1:Int)] fun x_1 y=>Ab (kdG x_1.1.sg (xh x_1) x_1.2.2.2.2.2) (cA CF [srd x_1.1 (xh x_1),.int .i64 (1:Int)] fun x_2 y=>cA Bq [srd x_2.1 (Bi x_2.1.sg (xh x_2) x_2.2.2.2.2.2),.int .i64 (1:Int),.str (BC x_2.1.sg (xh x_2) x_2.2.2.2.2.2),Ad []] fun x_3 y=>rA (Jk n) x [.int .i64 (AW (xh x_3)),srd x_3.1 (An (xh x_3) {kind:=x_3.2.2.2.2.2.1,text:=x_3.2.2.2.2.2.2.1,kids:=x_3.2.2.2.2.2.2.2,blank:=false})]) (cA Eh [srd x_1.1 (xh x_1),.int .i64 (2:Int)] fun x_2 y=>Ab (kdG x_2.1.sg (xh x_2) x_2.2.2.2.2.2) (cA CF [srd x_2.1 (xh x_2),.int .i64 (2:Int)] fun x_3 y=>cA Bq [srd x_3.1 (Bi x_3.1.sg (xh x_3) x_3.2.2.2.2.2),.int .i64 (2:Int),.str (BC x_3.1.sg (xh x_3) x_3.2.2.2.2.2),Ad []] fun x_4 y=>rA (Jk n) x [.int .i64 (AW (xh x_4)),srd x_4.1 (An (xh x_4) {kind:=x_4.2.2.2.2.2.1,text:=x_4.2.2.2.2.2.2.1,kids:=x_4.2.2.2.2.2.2.2,blank:=false})]) (cA Eh [srd x_2.1 (xh x_2),.int .i64 (3:Int)] fun x_3 y=>Ab (kdG x_3.1.sg (xh x_3) x_3.2.2.2.2.2) (cA CF [srd x_3.1 (xh x_3),.int .i64 (3:Int)] fun x_4 y=>cA Bq [srd x_4.1 (Bi x_4.1.sg (xh x_4) x_4.2.2.2.2.2),.int .i64 (3:Int),.str (BC x_4.1.sg (xh x_4) x_4.2.2.2.2.2),Ad []] fun x_5 y=>rA (Jk n) x [.int .i64 (AW (xh x_5)),srd x_5.1 (An (xh x_5) {kind:=x_5.2.2.2.2.2.1,text:=x_5.2.2.2.2.2.2.1,kids:=x_5.2.2.2.2.2.2.2,blank:=false})]) (cA Cb [srd x_3.1 (xh x_3),.str #[(91:UInt8)].toList] fun x_4 y=>Ab (isG x_4.1.sg (xh x_4) (4:Int) x_4.2.2.2.2.2) (cA (GH n) [srd x_4.1 (Au x_4.1.sg (xh x_4) x_4.2.2.2.2.2),.str #[(93:UInt8)].toList,Ad []] fun x_5 y=>cA Bq [srd x_5.1 (yG y.2),.int .i64 (4:Int),.str #[].toList,Ad y.1] fun x_6 y=>rA (Jk n) x [.int .i64 (AW (xh x_6)),srd x_6.1 (An (xh x_6) {kind:=x_6.2.2.2.2.2.1,text:=x_6.2.2.2.2.2.2.1,kids:=x_6.2.2.2.2.2.2.2,blank:=false})]) (cA Ei [srd x_4.1 (Au x_4.1.sg (xh x_4) x_4.2.2.2.2.2)] fun x_5 y=>Ab (arG x_5.1.sg (xg x_5)) (cA GI [srd x_5.1 (xg x_5)] fun x_6 y=>cA BO [srd x_6.1 (yG y.2),.str #[(61:UInt8),(62:UInt8)].toList] fun x_7 y_1=>cA (Ho n) [srd x_7.1 (As x_7.1.sg (xh x_7) x_7.2.2.2.2.2)] fun x_8 y_2=>∃(x_9:Int),y_2.1=x_9∧∃(zs:List Int),Ad [x_9]=Ad zs∧Br Bc∧Ba (List.length y.1+List.length zs) (8:Nat)∧cA Bq [srd x_8.1 (yG y_2.2),.int .i64 (9:Int),.str #[].toList,Ad (y.1++zs)] fun x_10 y=>rA (Jk n) x [.int .i64 (AW (xh x_10)),srd x_10.1 (An (xh x_10) {kind:=x_10.2.2.2.2.2.1,text:=x_10.2.2.2.2.2.2.1,kids:=x_10.2.2.2.2.2.2.2,blank:=false})]) (cA BO [srd x_5.1 (xg x_5),.str #[(40:UInt8)].toList] fun x_6 y=>Ab (As x_6.1.sg (xh x_6) x_6.2.2.2.2.2).bad (rA (Jk n) x [.int .i64 (0:Int),srd x_6.1 (As x_6.1.sg (xh x_6) x_6.2.2.2.2.2)]) (cA (MD n) [srd x_6.1 (As x_6.1.sg (xh x_6) x_6.2.2.2.2.2)] fun x_7 y=>cA BO [srd x_7.1 (yG y.2),.str #[(41:UInt8)].toList] fun x_8 y_1=>∃(x_9:Int),y.1=x_9∧cA Bq [srd x_8.1 (As x_8.1.sg (xh x_8) x_8.2.2.2.2.2),.int .i64 (11:Int),.str #[].toList,Ad [x_9]] fun x_10 y=>rA (Jk n) x [.int .i64 (AW (xh x_10)),srd x_10.1 (An (xh x_10) {kind:=x_10.2.2.2.2.2.1,text:=x_10.2.2.2.2.2.2.1,kids:=x_10.2.2.2.2.2.2.2,blank:=false})])))))))) (fun x=>by kernel_rfl) fun(x:ST×Int×Int×Bool×List Nd) (hx:wQ 1 (n+1) x.1 (xg x))=>(by
 dsimp only[cA,Bx,Ad,AZ,rA,Ei,Jk,Eh,Cb,GI,Ho,Bq,CF,MD,GH,BO,Df,sgs,srd,Aw,Az,mvL,lnL,mvE,lnE]
 obtain⟨s,p,d,b,ns⟩:=x;dsimp only[xg,xh] at hx ⊢
 have hx:wQ 1 (n+1) s ⟨p,d,b,ns⟩:=hx
 have h1:=hx.1.1.1;have hs:=h1.1
 (repeat' first|(with_reducible first|rfl|exact True.intro|apply AK|apply And.intro|((first|apply AA|apply AI|apply AB|apply AJ)<;>intro _))|(apply Ax<;>intro _)|apply AH|refine Af () ?_ ?_|((first|apply AO|apply AN|apply AM|apply AL|apply AG|apply AF|apply AE|apply AD|apply AC)<;>try dsimp only)|apply Af|(refine Prod.forall.2 ?_;intro _;try dsimp only)|(intro _;try dsimp only))
 all_goals(try dsimp only[xg,xh,yG,yS,iG] at*)
 all_goals(try simp only[GE] at*)
 all_goals first
  |rfl
  |exact h1
  |omega
  |(simp;done)
  |exact a5D h1.2 ‹_›
  |exact b9u hs h1.2 ‹_›
  |exact a5M hs h1.2 (.inl rfl) ‹_›
  |exact a5M hs h1.2 (.inr rfl) ‹_›
  |exact HS h1 (by omega)
  |exact b9z hx ‹_›
  |exact b9v h1 ‹_› ‹_› ‹_› ‹_› ‹_›
  |exact XR hs ‹_›
  |exact FO h1
  |exact b9A hx ‹_› ‹_› ‹_›
  |exact b9B hx ‹_› ‹_›
  |exact(Hn (FO h1)).1
  |exact Fs h1 ‹_›
  |exact(Hn (Fs h1 ‹_›)).1
  |exact b9w hx.2 h1 ‹_› ‹_› ‹_› ‹_› ‹_› ‹_› ‹_›
  |exact b9x hx.2 h1 ‹_› ‹_› ‹_› ‹_› ‹_› ‹_› ‹_›
  |exact b9y h1 ‹_› ‹_› ‹_› ‹_› ‹_› ‹_›
  |(have hq:=XS hs (show vlQ _ _ _ [] _ _ by assumption);(try simp only[Ba,List.length_append,List.length_cons,List.length_nil] at*);omega)
  |skip)
def Tu(n:Nat):Sig:= {X:=ST×Int×Int×Bool×List Nd,args:=fun x=>[srd x.1 (xg x)],pre:=fun x=>wQ 2 (n+1) x.1 (xg x),Y:=Int×Int×Int×Bool×List Nd,post:=fun x y=>Ah x.1.sg (xg x) (pE x.1.sg (n+1) .fin) (yS y),res:=fun x y=> .int .i64 y.1,outs:=fun x y=>[srd x.1 (yG y.2)],keep:=true}
def Qw(n:Nat)(x:ST×Int×Int×Bool×List Nd):LS:= {ι:=Int×Int×Bool×List Nd×Int×Nat,inv:=fun i=>eqJ x.1.sg n (xg x) (iG i) i.2.2.2.2.1 i.2.2.2.2.2,regs:=fun i=>[(0,srd x.1 (iG i)),(3,.int .i64 i.2.2.2.2.1)],als:=[],meas:=fun i=>i.2.2.2.2.2}
theorem b9H(n:Nat)(h:qAll G n):Al G Tryz.prog 180 (Tu n):=
 vcFun_okP [(206,0,(Tp n)),(63,0,Cb),(110,0,(GH n)),(36,0,Bq),(59,0,CF)] [(25,⟨Int,Bc⟩)] false (fun x=>[(2,Qw n x)]) Tryz.func180 rfl (by decide) ⟨h.base,HQ,(XO n h),HR,KX,trivial⟩ (fun(x:ST×Int×Int×Bool×List Nd)=>True∧cA (Tp n) [srd x.1 (xg x)] fun x_1 y=>eA (Qw n x) [srd x_1.1 (yG y.2),.int .i64 y.1]∧∀(i:Int×Int×Bool×List Nd×Int×Nat),eqJ x.1.sg n (xg x) (iG i) i.2.2.2.2.1 i.2.2.2.2.2→Ab (!(iG i).bad) (cA Cb [srd x.1 (iG i),.str #[(40:UInt8)].toList] fun x_2 y=>Ab (isG x_2.1.sg (xh x_2) (4:Int) x_2.2.2.2.2.2) (∃(x_3:Int),i.2.2.2.2.1=x_3∧cA (GH n) [srd x_2.1 (Au x_2.1.sg (xh x_2) x_2.2.2.2.2.2),.str #[(41:UInt8)].toList,Ad [x_3]] fun x_4 y=>cA Bq [srd x_4.1 (yG y.2),.int .i64 (5:Int),.str #[].toList,Ad y.1] fun x_5 y=>eN (Qw n x) i [srd x_5.1 (An (xh x_5) {kind:=x_5.2.2.2.2.2.1,text:=x_5.2.2.2.2.2.2.1,kids:=x_5.2.2.2.2.2.2.2,blank:=false}),.int .i64 (AW (xh x_5))]) (cA Cb [srd x_2.1 (Au x_2.1.sg (xh x_2) x_2.2.2.2.2.2),.str #[(46:UInt8)].toList] fun x_3 y=>Ab (isG x_3.1.sg (xh x_3) (4:Int) x_3.2.2.2.2.2) (cA CF [srd x_3.1 (Au x_3.1.sg (xh x_3) x_3.2.2.2.2.2),.int .i64 (1:Int)] fun x_4 y=>∃(x_5:Int),i.2.2.2.2.1=x_5∧cA Bq [srd x_4.1 (Bi x_4.1.sg (xh x_4) x_4.2.2.2.2.2),.int .i64 (6:Int),.str (BC x_4.1.sg (xh x_4) x_4.2.2.2.2.2),Ad [x_5]] fun x_6 y=>eN (Qw n x) i [srd x_6.1 (An (xh x_6) {kind:=x_6.2.2.2.2.2.1,text:=x_6.2.2.2.2.2.2.1,kids:=x_6.2.2.2.2.2.2.2,blank:=false}),.int .i64 (AW (xh x_6))]) (rA (Tu n) x [.int .i64 i.2.2.2.2.1,srd x_3.1 (Au x_3.1.sg (xh x_3) x_3.2.2.2.2.2)]))) (rA (Tu n) x [.int .i64 i.2.2.2.2.1,srd x.1 (iG i)])) (fun x=>by kernel_rfl) fun(x:ST×Int×Int×Bool×List Nd) (hx:wQ 2 (n+1) x.1 (xg x))=>(by
 dsimp only[cA,eA,eN,Qw,Bx,Ad,AZ,rA,Tp,Tu,Cb,Bq,CF,GH,Df,sgs,srd,Aw,Az,mvL,lnL,mvE,lnE,Bv]
 obtain⟨s,p,d,b,ns⟩:=x;dsimp only[xg,xh] at hx ⊢
 have hx:wQ 2 (n+1) s ⟨p,d,b,ns⟩:=hx
 have h1:=hx.1.1.1;have hs:=h1.1
 (repeat' first|(with_reducible first|rfl|exact True.intro|apply AK|apply And.intro|((first|apply AA|apply AI|apply AB|apply AJ)<;>intro _))|(apply Ax<;>intro _)|apply AH|refine Af () ?_ ?_|((first|apply AO|apply AN|apply AM|apply AL|apply AG|apply AF|apply AE|apply AD|apply AC)<;>try dsimp only)|apply Af|(refine Prod.forall.2 ?_;intro _;try dsimp only)|(intro _;try dsimp only))
 all_goals(try dsimp only[xg,xh,yG,yS,iG] at*)
 all_goals(try simp only[GE] at*)
 all_goals first
  |(show Nat;skip)
  |rfl
  |exact⟨b7c hx.1.1.1 hx.1.1.2 hx.1.2,hx.2⟩
  |exact b9C hx ‹_›
  |exact a5N hx ‹_›
  |exact b9D hx ‹_› ‹_›
  |exact(XT hx ‹_›).1
  |exact(XT hx ‹_›).2.1
  |exact(XT hx ‹_›).2.2
  |exact XR hs ‹_›
  |exact(a5O hx ‹_› ‹_› ‹_›).1
  |exact(a5P hx ‹_› ‹_› ‹_›).1
  |exact b9E ‹_› ‹_›
  |exact b9F ‹_› ‹_› ‹_› ‹_›
  |omega
  |(simp;done)
  |skip
 all_goals first
  |exact(a5O hx ‹_› ‹_› ‹_›).2
  |exact(a5P hx ‹_› ‹_› ‹_›).2
  |skip)
end Go.My
end
section
namespace Go.My
open Go.Eng Go.Proofs
variable {G:GInv}
theorem bt{a b:List UInt8}(h:(a==b)=true):a=b:=by simpa using h
theorem bf{a b:List UInt8}(h:(a==b)=false):a≠b:=by simpa using h
def csJ(sg:List Sg)(n l:Nat)(x y:Gs)(t:List UInt8)(ks:List Int)(N:Nat):Prop:=chS sg n l x y t ks N∧(y.bad=false→y.deep≤20)
theorem b9I{s:ST}{x:Gs}{n:Nat}{l:Int}(hx:wQ (9-l.toNat) (n+1) s x)(hl:l>5)(h6:l≤6):wQ 2 n s x:=by
 have e:l.toNat=6:=by omega
 have a:=hx.1.2
 rw[e] at a
 exact⟨⟨hx.1.1,by omega⟩,hx.2⟩
theorem b9J{s:ST}{x:Gs}{n:Nat}{l:Int}{z:Int×Gs}(hl:l>5)(h6:l≤6)(h:Ah s.sg x (pE s.sg n .fin) z):Ah s.sg x (pE s.sg (n+1) (.chain l.toNat)) z:=b7e (by omega) h
theorem b9K{s:ST}{x:Gs}{n:Nat}{l:Int}(hx:wQ (9-l.toNat) (n+1) s x)(h0:0≤l)(hl:¬l>5):wQ (9-(l+1).toNat) n s x:=⟨⟨hx.1.1,by have:=hx.1.2;omega⟩,hx.2⟩
theorem b9L{s:ST}{x:Gs}{n:Nat}{l:Int}{z:Int×Gs}(hx:wQ (9-l.toNat) (n+1) s x)(h0:0≤l)(hl:¬l>5)(hz:Ah s.sg x (pE s.sg n (.chain (l+1).toNat)) z):csJ s.sg n l.toNat x z.2 [] [z.1] (2*s.sg.length+4):=by
 rw[show(l+1).toNat=l.toNat+1 by omega] at hz
 exact⟨b8X hx.1.1.1.2 (by omega) hz,Qn hz hx.1.1.2⟩
theorem a5Q{s:ST}{x y:Gs}{n l:Nat}{t:List UInt8}{ks:List Int}{N:Nat}(hs:sgB s.sg)(h:csJ s.sg n l x y t ks N):rOk s y:=⟨hs,h.1.1.1⟩
theorem a5R{s:ST}{x y:Gs}{n l:Nat}{t:List UInt8}{ks:List Int}{N:Nat}{i:Int}{m:List UInt8}(hs:sgB s.sg)(h:csJ s.sg n l x y t ks N)(hq:mkQ s.sg y l i m):rOk s (gM y m):=by
 unfold gM;split
 ·exact a5Q hs h
 ·rename_i hm
  rcases hq.2 with h2|h2
  ·exact(hm h2.1).elim
  ·have hg:=(KS (sg:=s.sg) (l:=l) (g:=y) (by rw[←h2.2];exact hm)).1
   exact⟨hs,GB h.1.1.1 (Dn hg (by omega)).2⟩
theorem a5S{s:ST}{x y:Gs}{n:Nat}{l:Int}{t:List UInt8}{ks:List Int}{N:Nat}{i:Int}{m:List UInt8}(hx:wQ (9-l.toNat) (n+1) s x)(h0:0≤l)(hl:¬l>5)(h:csJ s.sg n l.toNat x y t ks N)(hq:mkQ s.sg y l.toNat i m)(hm:m≠[]):wQ (9-(l+1).toNat) n s (gM y m):=by
 have hr:=a5R hx.1.1.1.1 h hq
 rw[Tl hm] at hr ⊢
 rcases hq.2 with h2|h2
 ·exact(hm h2.1).elim
 ·have hg:=(KS (sg:=s.sg) (l:=l.toNat) (g:=y) (by rw[←h2.2];exact hm)).1
  have hb:=Dn hg (by omega)
  have e1:(Aq y).pos=y.pos+1:=rfl
  have e2:(Aq y).deep=y.deep:=rfl
  have:=h.1.1.2.2.1;have:=hx.1.2;have:=h.2 hb.1
  exact⟨⟨⟨hr,fun _=>by omega⟩,by omega⟩,hx.2⟩
theorem b9M{s:ST}{x y:Gs}{n:Nat}{l:Int}{t:List UInt8}{ks:List Int}{N:Nat}{i:Int}{m:List UInt8}(hx:wQ (9-l.toNat) (n+1) s x)(h0:0≤l)(hl:¬l>5)(h:csJ s.sg n l.toNat x y t ks N)(hq:mkQ s.sg y l.toNat i m)(hm:m≠[])(ht:t≠[]):wQ (9-(l+1).toNat) n s (An (gM y m) ⟨7,t,ks,false⟩):=by
 have a:=a5S hx h0 hl h hq hm
 obtain⟨d1,d2,d3⟩:= @JT (gM y m) ⟨7,t,ks,false⟩
 have hw:=XI (ks:=ks) hx.1.1.1.1 (h.1.2.2.2.2.2 ht).2 (by have:=h.1.2.2.1;have:=h.1.1.1.1;omega)
 exact⟨⟨⟨⟨a.1.1.1.1,PV a.1.1.1.2 hw⟩,fun hb=>by rw[d1];exact a.1.1.2 (d3 hb)⟩,by rw[d2];exact a.1.2⟩,a.2⟩
theorem Tv{s:ST}{x y:Gs}{n:Nat}{l:Int}{t:List UInt8}{ks:List Int}{N:Nat}{i:Int}{m:List UInt8}{z:Int×Gs}(h0:0≤l)(h:csJ s.sg n l.toNat x y t ks N)(hq:mkQ s.sg y l.toNat i m)(hi:¬i<((BT l.toNat).length:Int))(hm:m≠[])(ht:t=[]∨m=t)
 (hz:Ah s.sg (gM y m) (pE s.sg n (.chain (l+1).toNat)) z):csJ s.sg n l.toNat x z.2 m (ks++[z.1]) (N-1)∧N-1<N:=by
 have e:=Tm hq hi
 rw[Tl hm,show(l+1).toNat=l.toNat+1 by omega] at hz
 obtain⟨a,b⟩:=b8Y h.1 (by rw[←e];exact hm) (by rw[←e];exact ht) hz
 rw[←e] at a
 have hg:=(KS (sg:=s.sg) (l:=l.toNat) (g:=y) (by rw[←e];exact hm)).1
 exact⟨⟨a,Qn hz (fun _=>h.2 (Dn hg (by omega)).1)⟩,b⟩
theorem a5T{s:ST}{x y:Gs}{n:Nat}{l:Int}{t:List UInt8}{ks:List Int}{N:Nat}{i:Int}{m:List UInt8}{z:Int×Gs}(hs:sgB s.sg)(h0:0≤l)(h:csJ s.sg n l.toNat x y t ks N)(hq:mkQ s.sg y l.toNat i m)(hi:¬i<((BT l.toNat).length:Int))(hm:m≠[])(ht:t≠[])(hne:m≠t)
 (hz:Ah s.sg (An (gM y m) ⟨7,t,ks,false⟩) (pE s.sg n (.chain (l+1).toNat)) z):csJ s.sg n l.toNat x z.2 m ([AW (gM y m)]++[z.1]) (N-2)∧N-2<N:=by
 have e:=Tm hq hi
 rw[Tl hm] at hz ⊢
 rw[show(l+1).toNat=l.toNat+1 by omega] at hz
 obtain⟨a,b⟩:=b8Z hs h.1 (by rw[←e];exact hm) ht (by rw[←e];exact hne) hz
 rw[←e] at a
 have hg:=(KS (sg:=s.sg) (l:=l.toNat) (g:=y) (by rw[←e];exact hm)).1
 refine⟨⟨a,Qn hz (fun hb=> ?_)⟩,b⟩
 rw[Xt];exact h.2 (Dn hg (by omega)).1
theorem b9N{s:ST}{x y:Gs}{n l:Nat}{t:List UInt8}{ks:List Int}{N:Nat}{i:Int}{m:List UInt8}{k:Int}(h:csJ s.sg n l x y t ks N)(hq:mkQ s.sg y l i m)(hi:¬i<((BT l).length:Int))(hm:m=[])(hl:(ks.length:Int)=1)(hk:ks[(0:Int).toNat]? =some k):Ah s.sg x (pE s.sg (n+1) (.chain l)) (k,gM y m):=by
 have e:=Tm hq hi
 subst hm
 exact a5B h.1 (.inr e.symm) (by omega) hk
theorem b9O{s:ST}{x y:Gs}{n l:Nat}{t:List UInt8}{ks:List Int}{N:Nat}{i:Int}{m:List UInt8}(hs:sgB s.sg)(h:csJ s.sg n l x y t ks N)(hq:mkQ s.sg y l i m)(hi:¬i<((BT l).length:Int))(hm:m=[])(hl:(ks.length:Int)≠1):Ah s.sg x (pE s.sg (n+1) (.chain l)) (AW (gM y m),An (gM y m) ⟨7,t,ks,false⟩):=by
 have e:=Tm hq hi
 subst hm
 exact a5C hs h.1 (.inr e.symm) (by omega)
theorem b9P{s:ST}{x y:Gs}{n l:Nat}{t:List UInt8}{ks:List Int}{N:Nat}{k:Int}(h:csJ s.sg n l x y t ks N)(hb:y.bad=true)(hl:(ks.length:Int)=1)(hk:ks[(0:Int).toNat]? =some k):Ah s.sg x (pE s.sg (n+1) (.chain l)) (k,y):=a5B h.1 (.inl hb) (by omega) hk
theorem b9Q{s:ST}{x y:Gs}{n l:Nat}{t:List UInt8}{ks:List Int}{N:Nat}(hs:sgB s.sg)(h:csJ s.sg n l x y t ks N)(hb:y.bad=true)(hl:(ks.length:Int)≠1):Ah s.sg x (pE s.sg (n+1) (.chain l)) (AW y,An y ⟨7,t,ks,false⟩):=a5C hs h.1 (.inl hb) (by omega)
theorem b9R{s:ST}{x y:Gs}{n l:Nat}{t:List UInt8}{ks:List Int}{N:Nat}(hs:sgB s.sg)(h:csJ s.sg n l x y t ks N):ks.length≤3001∧1≤ks.length:=by
 have h1:=h.1.2.2.1;have h2:=h.1.1.1.1.2;have h3:=hs.1
 refine⟨by omega,?_⟩
 rcases Classical.em (t=[]) with e|e
 ·have:=h.1.2.2.2.2.1 e;omega
 ·have:=(h.1.2.2.2.2.2 e).1;omega
theorem b9S{sg:List Sg}{y:Gs}{l:Nat}{i:Int}{m:List UInt8}(h:mkQ sg y l i m):(0≤i∧i≤(BT l).length)∧(BT l).length≤2:=⟨h.1,b6Z⟩
theorem KY{sg:List Sg}{y:Gs}{l:Nat}{i:Int}{m v:List UInt8}(h:mkQ sg y l i m)(hm:m=[])(ha:(BT l)[i.toNat]? =some v)(hg:isG sg (gM y m) 4 v=true):
 (Au sg (gM y m) v).pos=(gM y v).pos∧(Au sg (gM y m) v).bad=(gM y v).bad∧(Au sg (gM y m) v).deep=(gM y v).deep∧(Au sg (gM y m) v).nodes=(gM y v).nodes:=by
 rw[(XK h hm ha hg).2];exact⟨rfl,rfl,rfl,rfl⟩
theorem b9T{sg:List Sg}{p d:Int}{b:Bool}{ns:List Nd}{f:Ps→PR}{z:Int×Gs}(hd:d≤20)(h:d+1>20)(hz:Ah sg ⟨p,d+1,true,ns⟩ f z):Ah sg (pkX ⟨p,d,b,ns⟩) f z:=by
 have e:pkX ⟨p,d,b,ns⟩=⟨p,d+1,true,ns⟩:=by simp only[pkX];rw[if_pos (show d=20 by omega)];rfl
 rw[e];exact hz
theorem b9U{sg:List Sg}{p d:Int}{b:Bool}{ns:List Nd}{f:Ps→PR}{z:Int×Gs}(h:¬d+1>20)(hz:Ah sg ⟨p,d+1,b,ns⟩ f z):Ah sg (pkX ⟨p,d,b,ns⟩) f z:=by
 have e:pkX ⟨p,d,b,ns⟩=⟨p,d+1,b,ns⟩:=by simp only[pkX];rw[if_neg (show¬d=20 by omega)];rfl
 rw[e];exact hz
theorem b9V{s:ST}{p d:Int}{b:Bool}{ns:List Nd}{n:Nat}(hx:vQ 10 (n+1) s ⟨p,d,b,ns⟩)(h:d+1>20):wQ (9-(0:Int).toNat) n s ⟨p,d+1,true,ns⟩:=by
 have a:=(a4Q hx.1.1.1 hx.1.1.2 hx.1.2).1
 have hd:=hx.1.1.2;simp only at hd
 have e:pkX ⟨p,d,b,ns⟩=⟨p,d+1,true,ns⟩:=by simp only[pkX];rw[if_pos (show d=20 by omega)];rfl
 rw[e] at a;exact⟨a,hx.2⟩
theorem b9W{s:ST}{p d:Int}{b:Bool}{ns:List Nd}{n:Nat}(hx:vQ 10 (n+1) s ⟨p,d,b,ns⟩)(h:¬d+1>20):wQ (9-(0:Int).toNat) n s ⟨p,d+1,b,ns⟩:=by
 have a:=(a4Q hx.1.1.1 hx.1.1.2 hx.1.2).1
 have e:pkX ⟨p,d,b,ns⟩=⟨p,d+1,b,ns⟩:=by simp only[pkX];rw[if_neg (show¬d=20 by omega)];rfl
 rw[e] at a;exact⟨a,hx.2⟩
theorem b9X{s:ST}{x y:Gs}{n:Nat}{ks:List Int}{N:Nat}(hx:vQ 11 (n+1) s x)(h:vaJ s.sg n x y ks N)(hq:isG s.sg y 4 [46,46]=true):
 wQ 11 n s (As s.sg (An (Bi s.sg (Au s.sg y [46,46]) 1) ⟨1,BC s.sg (Au s.sg y [46,46]) 1,[],false⟩) [40]):=by
 have hr:=Xu hx.1.1.1 h
 have a:=Oo (m:=[46,46]) hr
 have e:=CX a
 have t:=HO (m:=[40]) (Gc a)
 rw[EE hq] at a e t ⊢
 simp only at e t
 have e1:(Aq y).pos=y.pos+1:=rfl
 have e2:(Aq y).deep=y.deep:=rfl
 have:=h.1.1.2.2.1;have:=h.2;have:=hx.1.2
 exact⟨⟨⟨⟨hx.1.1.1.1,t.1⟩,fun _=>by omega⟩,by omega⟩,hx.2⟩
theorem a5U{s:ST}{x y:Gs}{n:Nat}{ks:List Int}{N:Nat}{v:List Int×Gs}(hs:sgB s.sg)(h:vaJ s.sg n x y ks N)(hq:isG s.sg y 4 [46,46]=true)
 (hv:vlQ s.sg (pE s.sg n .value) [41] [AW (Bi s.sg (Au s.sg y [46,46]) 1)] (As s.sg (An (Bi s.sg (Au s.sg y [46,46]) 1) ⟨1,BC s.sg (Au s.sg y [46,46]) 1,[],false⟩) [40]) v):
 vaJ s.sg n x (An v.2 ⟨5,[],v.1,false⟩) (ks++[AW v.2]) (N-1)∧N-1<N:=by
 have a:=Oo (m:=[46,46]) (show rOk s y from⟨hs,h.1.1.1⟩)
 have hw:=a5E (Gc a) hv
 have e:=(CX a).1
 rw[EE hq] at a e
 obtain⟨c1,c2⟩:=Og (b9g h.1 hq a (by rw[EE hq] at hw;exact hw))
 have e2:(Aq y).deep=y.deep:=rfl
 have e3:=(CX hw).1
 rw[EE hq] at e3
 have:=h.2
 exact⟨a4S ⟨c1,by simp only at*;omega⟩,c2⟩
theorem XU{s:ST}{x y:Gs}{n:Nat}{ks:List Int}{N:Nat}(hs:sgB s.sg)(h:vaJ s.sg n x y ks N):rOk s (Au s.sg y [46,46])∧rOk s (Bi s.sg (Au s.sg y [46,46]) 1)∧rOk s (An (Bi s.sg (Au s.sg y [46,46]) 1) ⟨1,BC s.sg (Au s.sg y [46,46]) 1,[],false⟩):=
 have hr:rOk s y:=⟨hs,h.1.1.1⟩
 ⟨FO hr,HS (FO hr) (by omega),XN hr⟩
def lqI(s:ST)(e:Int)(j:Int×Int×Bool×List Nd×List UInt8×List Int×Nat):LS:= {
 ι:=Int×List UInt8,inv:=fun i=>mkQ s.sg (iF j) e.toNat i.1 i.2,regs:=fun i=>[(0,srd s (gM (iF j) i.2)),(1,.int .i64 e),(5,Ad j.2.2.2.2.2.1),(6,.str j.2.2.2.2.1),(7,.sl false 0 1 (List UInt8) BA (BT e.toNat)),(8,.str i.2),(9,.int .i64 i.1)],als:=[],meas:=fun i=>(BT e.toNat).length-i.1.toNat}
def lqO(n:Nat)(x:ST×Int×Int×Bool×List Nd×Int):LS:= {
 ι:=Int×Int×Bool×List Nd×List UInt8×List Int×Nat,inv:=fun i=>csJ x.1.sg n x.2.2.2.2.2.toNat (xh x) (iF i) i.2.2.2.2.1 i.2.2.2.2.2.1 i.2.2.2.2.2.2,regs:=fun i=>[(0,srd x.1 (iF i)),(1,.int .i64 x.2.2.2.2.2),(5,Ad i.2.2.2.2.2.1),(6,.str i.2.2.2.2.1),(7,.sl false 0 1 (List UInt8) BA (BT x.2.2.2.2.2.toNat))],als:=[],meas:=fun i=>i.2.2.2.2.2.2,
 sub:=fun j=>[(9,lqI x.1 x.2.2.2.2.2 j)]}
attribute [local irreducible] pE Bw Dg fnR Ah BG gsOk As CP An Dp EA Au Ed Eo AW CQ pkG isG nmG kdG Bi BC BS vlQ lqJ saI arG eqJ csJ mkQ gM vaJ
def IB:Sig:= {X:=Int,args:=fun x=>[.int .i64 x],pre:=fun x=>0≤x∧x≤5,Y:=Unit,post:=fun x y=>True,res:=fun x y=> .sl false 0 1 (List UInt8) BA (BT x.toNat),outs:=fun x y=>[.top],keep:=true}
theorem b9Y:Al G Tryz.prog 181 IB:=
 vcFun_okP [] [(91,⟨List UInt8,BA⟩)] false (fun x=>[]) Tryz.func181 rfl (by decide) trivial (fun(x:Int)=>True∧Ab (x==(0:Int)) (∃(x_1:List UInt8),#[(124:UInt8),(124:UInt8)].toList=x_1∧rA IB x [AV.sl true 0 1 (List UInt8) BA [x_1],.top]) (Ab (x==(1:Int)) (∃(x_1:List UInt8),#[(38:UInt8),(38:UInt8)].toList=x_1∧rA IB x [AV.sl true 0 1 (List UInt8) BA [x_1],.top]) (Ab (x==(2:Int)) (∃(x_1:List UInt8),#[(61:UInt8),(61:UInt8)].toList=x_1∧rA IB x [AV.sl true 0 1 (List UInt8) BA [x_1],.top]) (Ab (x==(3:Int)) (∃(x_1:List UInt8),#[(60:UInt8)].toList=x_1∧rA IB x [AV.sl true 0 1 (List UInt8) BA [x_1],.top]) (Ab (x==(4:Int)) (∃(x_1:List UInt8),#[(43:UInt8)].toList=x_1∧∃(x_2:List UInt8),#[(45:UInt8)].toList=x_2∧rA IB x [AV.sl true 0 1 (List UInt8) BA [x_1,x_2],.top]) (∃(x_1:List UInt8),#[(42:UInt8)].toList=x_1∧rA IB x [AV.sl true 0 1 (List UInt8) BA [x_1],.top])))))) (fun x=>by kernel_rfl) fun(x:Int) (hx:0≤x∧x≤5)=>(by
 dsimp only[rA,IB,Aw,Az]
 obtain⟨h1,h2⟩:=hx
 have hh:x=0∨x=1∨x=2∨x=3∨x=4∨x=5:=by omega
 rcases hh with rfl|rfl|rfl|rfl|rfl|rfl
 all_goals(repeat' first|(with_reducible first|rfl|exact True.intro|apply AK|apply And.intro|((first|apply AA|apply AI|apply AB|apply AJ)<;>intro _))|(apply Ax<;>intro _)|apply AH|refine Af () ?_ ?_|((first|apply AO|apply AN|apply AM|apply AL|apply AG|apply AF|apply AE|apply AD|apply AC)<;>try dsimp only)|apply Af|(refine Prod.forall.2 ?_;intro _;try dsimp only)|(intro _;try dsimp only))
 all_goals first
  |rfl
  |omega
  |(simp [Ba];done)
  |skip)
def ME(n:Nat):Sig:= {X:=ST×Int×Int×Bool×List Nd×Int,args:=fun x=>[srd x.1 (xh x),.int .i64 x.2.2.2.2.2],pre:=fun x=>wQ (9-x.2.2.2.2.2.toNat) (n+1) x.1 (xh x)∧0≤x.2.2.2.2.2∧x.2.2.2.2.2≤6,Y:=Int×Int×Int×Bool×List Nd,post:=fun x y=>Ah x.1.sg (xh x) (pE x.1.sg (n+1) (.chain x.2.2.2.2.2.toNat)) (yS y),res:=fun x y=> .int .i64 y.1,outs:=fun x y=>[srd x.1 (yG y.2),.top],keep:=true}
theorem b9Z(n:Nat)(h:qAll G n):Al G Tryz.prog 137 (ME n):=
 vcFun_okP [(180,0,(To n)),(137,0,(IA n)),(181,0,IB),(63,0,Cb),(36,0,Bq)] [(25,⟨Int,Bc⟩),(91,⟨List UInt8,BA⟩)] false (fun x=>[(6,lqO n x)]) Tryz.func137 rfl (by decide) ⟨h.fin,h.chain,b9Y,HQ,HR,trivial⟩ (fun(x:ST×Int×Int×Bool×List Nd×Int)=>True∧Ab (decide (x.2.2.2.2.2>(5:Int))) (cA (To n) [srd x.1 (xh x)] fun x_1 y=>rA (ME n) x [.int .i64 y.1,srd x_1.1 (yG y.2),.top]) (inR IntKind.i64 (x.2.2.2.2.2+(1:Int))∧cA (IA n) [srd x.1 (xh x),.int .i64 (x.2.2.2.2.2+(1:Int))] fun x_1 y=>∃(x_2:Int),y.1=x_2∧cA IB [.int .i64 x.2.2.2.2.2] fun x_3 y_1=>eA (lqO n x) [srd x_1.1 (yG y.2),.int .i64 x.2.2.2.2.2,Ad [x_2],.str #[].toList,AV.sl false 0 1 (List UInt8) BA (BT (Int.toNat x_3))]∧∀(i:Int×Int×Bool×List Nd×List UInt8×List Int×Nat),csJ x.1.sg n (Int.toNat x.2.2.2.2.2) (xh x) (iF i) i.2.2.2.2.1 i.2.2.2.2.2.1 i.2.2.2.2.2.2→Ab (!(iF i).bad) (eA (lqI x.1 x.2.2.2.2.2 i) [srd x.1 (iF i),.int .i64 x.2.2.2.2.2,Ad i.2.2.2.2.2.1,.str i.2.2.2.2.1,AV.sl false 0 1 (List UInt8) BA (BT (Int.toNat x.2.2.2.2.2)),.str #[].toList,.int .i64 (0:Int)]∧∀(i_1:Int×List UInt8),mkQ x.1.sg (iF i) (Int.toNat x.2.2.2.2.2) i_1.1 i_1.2→Ab (decide (i_1.1<(↑(List.length (BT (Int.toNat x.2.2.2.2.2))):Int))) (Ab (i_1.2== #[].toList) (((0:Int)≤i_1.1∧i_1.1<(↑(List.length (BT (Int.toNat x.2.2.2.2.2))):Int))∧∀(e:List UInt8),(BT (Int.toNat x.2.2.2.2.2))[Int.toNat i_1.1]? =some e→cA Cb [srd x.1 (gM (iF i) i_1.2),.str e] fun x_4 y=>Ab (isG x_4.1.sg (xh x_4) (4:Int) x_4.2.2.2.2.2) (((0:Int)≤i_1.1∧i_1.1<(↑(List.length (BT (Int.toNat x.2.2.2.2.2))):Int))∧∀(e:List UInt8),(BT (Int.toNat x.2.2.2.2.2))[Int.toNat i_1.1]? =some e→inR IntKind.i64 (i_1.1+(1:Int))∧eN (lqI x.1 x.2.2.2.2.2 i) i_1 [srd x_4.1 (Au x_4.1.sg (xh x_4) x_4.2.2.2.2.2),.int .i64 x.2.2.2.2.2,Ad i.2.2.2.2.2.1,.str i.2.2.2.2.1,AV.sl false 0 1 (List UInt8) BA (BT (Int.toNat x.2.2.2.2.2)),.str e,.int .i64 (i_1.1+(1:Int))]) (inR IntKind.i64 (i_1.1+(1:Int))∧eN (lqI x.1 x.2.2.2.2.2 i) i_1 [srd x_4.1 (Au x_4.1.sg (xh x_4) x_4.2.2.2.2.2),.int .i64 x.2.2.2.2.2,Ad i.2.2.2.2.2.1,.str i.2.2.2.2.1,AV.sl false 0 1 (List UInt8) BA (BT (Int.toNat x.2.2.2.2.2)),.str i_1.2,.int .i64 (i_1.1+(1:Int))])) (inR IntKind.i64 (i_1.1+(1:Int))∧eN (lqI x.1 x.2.2.2.2.2 i) i_1 [srd x.1 (gM (iF i) i_1.2),.int .i64 x.2.2.2.2.2,Ad i.2.2.2.2.2.1,.str i.2.2.2.2.1,AV.sl false 0 1 (List UInt8) BA (BT (Int.toNat x.2.2.2.2.2)),.str i_1.2,.int .i64 (i_1.1+(1:Int))])) (Ab (i_1.2== #[].toList) (Ab ((↑(List.length i.2.2.2.2.2.1):Int)==(1:Int)) (((0:Int)≤(0:Int)∧(0:Int)<(↑(List.length i.2.2.2.2.2.1):Int))∧(0:Nat)<List.length i.2.2.2.2.2.1∧∀(x_4:Int),i.2.2.2.2.2.1[(0:Nat)]? =some x_4→rA (ME n) x [.int .i64 x_4,srd x.1 (gM (iF i) i_1.2),.top]) (cA Bq [srd x.1 (gM (iF i) i_1.2),.int .i64 (7:Int),.str i.2.2.2.2.1,Ad i.2.2.2.2.2.1] fun x_4 y=>rA (ME n) x [.int .i64 (AW (xh x_4)),srd x_4.1 (An (xh x_4) {kind:=x_4.2.2.2.2.2.1,text:=x_4.2.2.2.2.2.2.1,kids:=x_4.2.2.2.2.2.2.2,blank:=false}),.top])) (Ab (!i.2.2.2.2.1== #[].toList) (Ab (!i_1.2==i.2.2.2.2.1) (cA Bq [srd x.1 (gM (iF i) i_1.2),.int .i64 (7:Int),.str i.2.2.2.2.1,Ad i.2.2.2.2.2.1] fun x_4 y=>∃(x_5:Int),AW (xh x_4)=x_5∧inR IntKind.i64 (x.2.2.2.2.2+(1:Int))∧cA (IA n) [srd x_4.1 (An (xh x_4) {kind:=x_4.2.2.2.2.2.1,text:=x_4.2.2.2.2.2.2.1,kids:=x_4.2.2.2.2.2.2.2,blank:=false}),.int .i64 (x.2.2.2.2.2+(1:Int))] fun x_6 y=>∃(x_7:Int),y.1=x_7∧∃(zs:List Int),Ad [x_7]=Ad zs∧Br Bc∧Ba (List.length [x_5]+List.length zs) (8:Nat)∧eN (lqO n x) i [srd x_6.1 (yG y.2),.int .i64 x.2.2.2.2.2,Ad ([x_5]++zs),.str i_1.2,AV.sl false 0 1 (List UInt8) BA (BT (Int.toNat x.2.2.2.2.2))]) (inR IntKind.i64 (x.2.2.2.2.2+(1:Int))∧cA (IA n) [srd x.1 (gM (iF i) i_1.2),.int .i64 (x.2.2.2.2.2+(1:Int))] fun x_4 y=>∃(x_5:Int),y.1=x_5∧∃(zs:List Int),Ad [x_5]=Ad zs∧Br Bc∧Ba (List.length i.2.2.2.2.2.1+List.length zs) (8:Nat)∧eN (lqO n x) i [srd x_4.1 (yG y.2),.int .i64 x.2.2.2.2.2,Ad (i.2.2.2.2.2.1++zs),.str i_1.2,AV.sl false 0 1 (List UInt8) BA (BT (Int.toNat x.2.2.2.2.2))])) (inR IntKind.i64 (x.2.2.2.2.2+(1:Int))∧cA (IA n) [srd x.1 (gM (iF i) i_1.2),.int .i64 (x.2.2.2.2.2+(1:Int))] fun x_4 y=>∃(x_5:Int),y.1=x_5∧∃(zs:List Int),Ad [x_5]=Ad zs∧Br Bc∧Ba (List.length i.2.2.2.2.2.1+List.length zs) (8:Nat)∧eN (lqO n x) i [srd x_4.1 (yG y.2),.int .i64 x.2.2.2.2.2,Ad (i.2.2.2.2.2.1++zs),.str i_1.2,AV.sl false 0 1 (List UInt8) BA (BT (Int.toNat x.2.2.2.2.2))])))) (Ab ((↑(List.length i.2.2.2.2.2.1):Int)==(1:Int)) (((0:Int)≤(0:Int)∧(0:Int)<(↑(List.length i.2.2.2.2.2.1):Int))∧(0:Nat)<List.length i.2.2.2.2.2.1∧∀(x_4:Int),i.2.2.2.2.2.1[(0:Nat)]? =some x_4→rA (ME n) x [.int .i64 x_4,srd x.1 (iF i),.top]) (cA Bq [srd x.1 (iF i),.int .i64 (7:Int),.str i.2.2.2.2.1,Ad i.2.2.2.2.2.1] fun x_4 y=>rA (ME n) x [.int .i64 (AW (xh x_4)),srd x_4.1 (An (xh x_4) {kind:=x_4.2.2.2.2.2.1,text:=x_4.2.2.2.2.2.2.1,kids:=x_4.2.2.2.2.2.2.2,blank:=false}),.top])))) (fun x=>by kernel_rfl) fun(x:ST×Int×Int×Bool×List Nd×Int) (hx:wQ (9-x.2.2.2.2.2.toNat) (n+1) x.1 (xh x)∧0≤x.2.2.2.2.2∧x.2.2.2.2.2≤6)=>(by
 dsimp only[cA,eA,eN,lqI,lqO,Bx,Ad,AZ,rA,IA,ME,To,IB,Cb,Bq,Df,sgs,srd,Aw,Az,mvL,lnL,mvE,lnE,Bv]
 obtain⟨s,p,d,b,ns,e⟩:=x;dsimp only[xg,xh] at hx ⊢
 obtain⟨hx,h4,h5⟩:=hx
 have hx:wQ (9-e.toNat) (n+1) s ⟨p,d,b,ns⟩:=hx
 have h1:=hx.1.1.1;have hs:=h1.1
 (repeat' first|(with_reducible first|rfl|exact True.intro|apply AK|apply And.intro|((first|apply AA|apply AI|apply AB|apply AJ)<;>intro _))|(apply Ax<;>intro _)|apply AH|refine Af () ?_ ?_|((first|apply AO|apply AN|apply AM|apply AL|apply AG|apply AF|apply AE|apply AD|apply AC)<;>try dsimp only)|apply Af|(refine Prod.forall.2 ?_;intro _;try dsimp only)|(intro _;try dsimp only))
 all_goals(try dsimp only[xg,xh,yG,yS,iG,iF] at*)
 all_goals(try simp only[GE] at*)
 all_goals first
  |(show Nat;skip)
  |rfl
  |assumption
  |exact h1
  |exact b9I hx ‹_› h5
  |exact b9J ‹_› h5 ‹_›
  |exact b9K hx h4 ‹_›
  |exact b9L hx h4 ‹_› ‹_›
  |exact a5Q hs ‹_›
  |exact a5R hs ‹_› ‹_›
  |exact b9a
  |(simp only[XJ];done)
  |exact(KY ‹_› ‹_› ‹_› ‹_›).1
  |exact(KY ‹_› ‹_› ‹_› ‹_›).2.1
  |exact(KY ‹_› ‹_› ‹_› ‹_›).2.2.1
  |exact(KY ‹_› ‹_› ‹_› ‹_›).2.2.2
  |exact b9b ‹_› ‹_› ‹_› ‹_›
  |exact(XK ‹_› ‹_› ‹_› ‹_›).1
  |exact b9c ‹_› ‹_› ‹_›
  |exact a5S hx h4 ‹_› ‹_› ‹_› ‹_›
  |exact b9M hx h4 ‹_› ‹_› ‹_› ‹_› (bf ‹_›)
  |exact(a5T hs h4 ‹_› ‹_› ‹_› ‹_› (bf ‹_›) (bf ‹_›) ‹_›).1
  |exact(Tv h4 ‹_› ‹_› ‹_› ‹_› (.inl (bt ‹_›)) ‹_›).1
  |exact(Tv h4 ‹_› ‹_› ‹_› ‹_› (.inr (bt ‹_›)) ‹_›).1
  |exact b9N ‹_› ‹_› ‹_› ‹_› ‹_› ‹_›
  |exact b9O hs ‹_› ‹_› ‹_› ‹_› ‹_›
  |exact b9P ‹_› ‹_› ‹_› ‹_›
  |exact b9Q hs ‹_› ‹_› ‹_›
  |((try simp only[AQ]);omega)
  |(have hq:=b9S (show mkQ _ _ _ _ _ by assumption);(try simp only[AQ]);omega)
  |(have hq:=b9R hs (show csJ _ _ _ _ _ _ _ _ by assumption);(try simp only[Ba,List.length_append,List.length_cons,List.length_nil]);omega)
  |skip
 all_goals first
  |exact(a5T hs h4 ‹_› ‹_› ‹_› ‹_› (bf ‹_›) (bf ‹_›) ‹_›).2
  |exact(Tv h4 ‹_› ‹_› ‹_› ‹_› (.inl (bt ‹_›)) ‹_›).2
  |exact(Tv h4 ‹_› ‹_› ‹_› ‹_› (.inr (bt ‹_›)) ‹_›).2
  |(simp only[XJ];done)
  |skip
 all_goals(try(repeat(rename(BT _)[_]? =some _=>hq;revert hq;rename(BT _)[_]? =some _=>hr;intro hq;rw[hr] at hq;cases hq)))
 all_goals first
  |exact(XK ‹_› ‹_› ‹_› ‹_›).1
  |exact(KY ‹_› ‹_› ‹_› ‹_›).1
  |exact(KY ‹_› ‹_› ‹_› ‹_›).2.1
  |exact(KY ‹_› ‹_› ‹_› ‹_›).2.2.1
  |exact(KY ‹_› ‹_› ‹_› ‹_›).2.2.2
  |(rw[DJ ‹_›];done)
  |skip)
def MF(n:Nat):Sig:= {X:=ST×Int×Int×Bool×List Nd,args:=fun x=>[srd x.1 (xg x)],pre:=fun x=>vQ 10 (n+1) x.1 (xg x),Y:=Int×Int×Int×Bool×List Nd,post:=fun x y=>Ah x.1.sg (xg x) (pE x.1.sg (n+1) .pick) (yS y),res:=fun x y=> .int .i64 y.1,outs:=fun x y=>[srd x.1 (yG y.2)],keep:=true}
theorem c0a(n:Nat)(h:qAll G n):Al G Tryz.prog 109 (MF n):=
 vcFun_okP [(137,0,(IA n)),(63,0,Cb),(109,0,(Ho n)),(62,0,BO),(36,0,Bq)] [(25,⟨Int,Bc⟩)] false (fun x=>[]) Tryz.func109 rfl (by decide) ⟨h.chain,HQ,h.pick,Ix,HR,trivial⟩ (fun(x:ST×Int×Int×Bool×List Nd)=>True∧Ab (xg x).bad (rA (MF n) x [.int .i64 (0:Int),srd x.1 (xg x)]) (inR IntKind.i64 ((xg x).deep+(1:Int))∧Ab (decide ((xg x).deep+(1:Int)>(20:Int))) (cA (IA n) [.box 0 [sgs x.1.sg,.int .i64 (xg x).pos,.bool true,.int .i64 ((xg x).deep+(1:Int)),AZ (xg x).nodes],.int .i64 (0:Int)] fun x_1 y=>cA Cb [srd x_1.1 (yG y.2),.str #[(63:UInt8)].toList] fun x_2 y_1=>Ab (isG x_2.1.sg (xh x_2) (4:Int) x_2.2.2.2.2.2) (cA (Ho n) [srd x_2.1 (Au x_2.1.sg (xh x_2) x_2.2.2.2.2.2)] fun x_3 y_2=>cA BO [srd x_3.1 (yG y_2.2),.str #[(58:UInt8)].toList] fun x_4 y_3=>cA (Ho n) [srd x_4.1 (As x_4.1.sg (xh x_4) x_4.2.2.2.2.2)] fun x_5 y_4=>∃(x_6:Int),y.1=x_6∧∃(x_7:Int),y_2.1=x_7∧∃(x_8:Int),y_4.1=x_8∧cA Bq [srd x_5.1 (yG y_4.2),.int .i64 (8:Int),.str #[].toList,Ad [x_6,x_7,x_8]] fun x_9 y=>inR IntKind.i64 ((An (xh x_9) {kind:=x_9.2.2.2.2.2.1,text:=x_9.2.2.2.2.2.2.1,kids:=x_9.2.2.2.2.2.2.2,blank:=false}).deep-(1:Int))∧rA (MF n) x [.int .i64 (AW (xh x_9)),.box 0 [sgs x_9.1.sg,.int .i64 (An (xh x_9) {kind:=x_9.2.2.2.2.2.1,text:=x_9.2.2.2.2.2.2.1,kids:=x_9.2.2.2.2.2.2.2,blank:=false}).pos,.bool (An (xh x_9) {kind:=x_9.2.2.2.2.2.1,text:=x_9.2.2.2.2.2.2.1,kids:=x_9.2.2.2.2.2.2.2,blank:=false}).bad,.int .i64 ((An (xh x_9) {kind:=x_9.2.2.2.2.2.1,text:=x_9.2.2.2.2.2.2.1,kids:=x_9.2.2.2.2.2.2.2,blank:=false}).deep-(1:Int)),AZ (An (xh x_9) {kind:=x_9.2.2.2.2.2.1,text:=x_9.2.2.2.2.2.2.1,kids:=x_9.2.2.2.2.2.2.2,blank:=false}).nodes]]) (inR IntKind.i64 ((Au x_2.1.sg (xh x_2) x_2.2.2.2.2.2).deep-(1:Int))∧rA (MF n) x [.int .i64 y.1,.box 0 [sgs x_2.1.sg,.int .i64 (Au x_2.1.sg (xh x_2) x_2.2.2.2.2.2).pos,.bool (Au x_2.1.sg (xh x_2) x_2.2.2.2.2.2).bad,.int .i64 ((Au x_2.1.sg (xh x_2) x_2.2.2.2.2.2).deep-(1:Int)),AZ (Au x_2.1.sg (xh x_2) x_2.2.2.2.2.2).nodes]])) (cA (IA n) [.box 0 [sgs x.1.sg,.int .i64 (xg x).pos,.bool (xg x).bad,.int .i64 ((xg x).deep+(1:Int)),AZ (xg x).nodes],.int .i64 (0:Int)] fun x_1 y=>cA Cb [srd x_1.1 (yG y.2),.str #[(63:UInt8)].toList] fun x_2 y_1=>Ab (isG x_2.1.sg (xh x_2) (4:Int) x_2.2.2.2.2.2) (cA (Ho n) [srd x_2.1 (Au x_2.1.sg (xh x_2) x_2.2.2.2.2.2)] fun x_3 y_2=>cA BO [srd x_3.1 (yG y_2.2),.str #[(58:UInt8)].toList] fun x_4 y_3=>cA (Ho n) [srd x_4.1 (As x_4.1.sg (xh x_4) x_4.2.2.2.2.2)] fun x_5 y_4=>∃(x_6:Int),y.1=x_6∧∃(x_7:Int),y_2.1=x_7∧∃(x_8:Int),y_4.1=x_8∧cA Bq [srd x_5.1 (yG y_4.2),.int .i64 (8:Int),.str #[].toList,Ad [x_6,x_7,x_8]] fun x_9 y=>inR IntKind.i64 ((An (xh x_9) {kind:=x_9.2.2.2.2.2.1,text:=x_9.2.2.2.2.2.2.1,kids:=x_9.2.2.2.2.2.2.2,blank:=false}).deep-(1:Int))∧rA (MF n) x [.int .i64 (AW (xh x_9)),.box 0 [sgs x_9.1.sg,.int .i64 (An (xh x_9) {kind:=x_9.2.2.2.2.2.1,text:=x_9.2.2.2.2.2.2.1,kids:=x_9.2.2.2.2.2.2.2,blank:=false}).pos,.bool (An (xh x_9) {kind:=x_9.2.2.2.2.2.1,text:=x_9.2.2.2.2.2.2.1,kids:=x_9.2.2.2.2.2.2.2,blank:=false}).bad,.int .i64 ((An (xh x_9) {kind:=x_9.2.2.2.2.2.1,text:=x_9.2.2.2.2.2.2.1,kids:=x_9.2.2.2.2.2.2.2,blank:=false}).deep-(1:Int)),AZ (An (xh x_9) {kind:=x_9.2.2.2.2.2.1,text:=x_9.2.2.2.2.2.2.1,kids:=x_9.2.2.2.2.2.2.2,blank:=false}).nodes]]) (inR IntKind.i64 ((Au x_2.1.sg (xh x_2) x_2.2.2.2.2.2).deep-(1:Int))∧rA (MF n) x [.int .i64 y.1,.box 0 [sgs x_2.1.sg,.int .i64 (Au x_2.1.sg (xh x_2) x_2.2.2.2.2.2).pos,.bool (Au x_2.1.sg (xh x_2) x_2.2.2.2.2.2).bad,.int .i64 ((Au x_2.1.sg (xh x_2) x_2.2.2.2.2.2).deep-(1:Int)),AZ (Au x_2.1.sg (xh x_2) x_2.2.2.2.2.2).nodes]])))) (fun x=>by kernel_rfl) fun(x:ST×Int×Int×Bool×List Nd) (hx:vQ 10 (n+1) x.1 (xg x))=>(by
 dsimp only[cA,Bx,Ad,AZ,rA,IA,Cb,Ho,MF,Bq,BO,Df,sgs,srd,Aw,Az,mvL,lnL,mvE,lnE]
 obtain⟨s,p,d,b,ns⟩:=x;dsimp only[xg,xh] at hx ⊢
 have hx:vQ 10 (n+1) s ⟨p,d,b,ns⟩:=hx
 have h1:=hx.1.1.1;have h2:=hx.1.1.2;have h3:=hx.1.2;have hs:=h1.1;dsimp only at h2 h3
 (repeat' first|(with_reducible first|rfl|exact True.intro|apply AK|apply And.intro|((first|apply AA|apply AI|apply AB|apply AJ)<;>intro _))|(apply Ax<;>intro _)|apply AH|refine Af () ?_ ?_|((first|apply AO|apply AN|apply AM|apply AL|apply AG|apply AF|apply AE|apply AD|apply AC)<;>try dsimp only)|apply Af|(refine Prod.forall.2 ?_;intro _;try dsimp only)|(intro _;try dsimp only))
 all_goals(try dsimp only[xg,xh,yG,yS,iG,iF] at*)
 all_goals(try simp only[GE] at*)
 all_goals(try(first|(have hz:=b9T (b:=b) h2 ‹_› (show Ah s.sg ⟨p,d+1,true,ns⟩ (pE s.sg n (.chain _)) _ by assumption))|(have hz:=b9U ‹_› (show Ah s.sg ⟨p,d+1,b,ns⟩ (pE s.sg n (.chain _)) _ by assumption))))
 all_goals first
  |rfl
  |assumption
  |exact a5D h1.2 ‹_›
  |exact b9V hx ‹_›
  |exact b9W hx ‹_›
  |exact Fs h1 hz
  |(clear hz;exact Fs h1 ‹_›)
  |exact⟨a4R h1 h2 h3 hz ‹_›,hx.2⟩
  |exact⟨b7f h1 h2 h3 hz ‹_› ‹_›,hx.2⟩
  |exact b7g h1 h2 hz ‹_› ‹_› ‹_›
  |exact b7h h1 h2 hz ‹_›
  |(have hq:=b7i h1 hz ‹_›;(try dsimp only at hq);(try simp only[AQ]);omega)
  |(have hq:=b7j (show Ah s.sg (As s.sg _ _) _ _ by assumption);(try dsimp only at hq);(try simp only[AQ,Xt]);omega)
  |(have hq:=(He h1).1.2;dsimp only at hq;(try simp only[AQ]);omega)
  |skip)
def Tw(n:Nat):Sig:= {X:=ST×Int×Int×Bool×List Nd,args:=fun x=>[srd x.1 (xg x)],pre:=fun x=>vQ 11 (n+1) x.1 (xg x),Y:=Int×Int×Int×Bool×List Nd,post:=fun x y=>Ah x.1.sg (xg x) (pE x.1.sg (n+1) .value) (yS y),res:=fun x y=> .int .i64 y.1,outs:=fun x y=>[srd x.1 (yG y.2)],keep:=true}
def Tx(n:Nat)(x:ST×Int×Int×Bool×List Nd):LS:= {ι:=Int×Int×Bool×List Nd×List Int×Nat,inv:=fun i=>vaJ x.1.sg n (xg x) (iG i) i.2.2.2.2.1 i.2.2.2.2.2,regs:=fun i=>[(0,srd x.1 (iG i)),(4,Ad i.2.2.2.2.1)],als:=[],meas:=fun i=>i.2.2.2.2.2}
theorem c0b(n:Nat)(h:qAll G n):Al G Tryz.prog 91 (Tw n):=
 vcFun_okP [(109,0,(Ho n)),(90,0,Eg),(63,0,Cb),(59,0,CF),(36,0,Bq),(62,0,BO),(110,0,(GH n))] [(25,⟨Int,Bc⟩)] false (fun x=>[(5,Tx n x)]) Tryz.func91 rfl (by decide) ⟨h.pick,Qs,HQ,KX,HR,Ix,(XO n h),trivial⟩ (fun(x:ST×Int×Int×Bool×List Nd)=>True∧cA (Ho n) [srd x.1 (xg x)] fun x_1 y=>cA Eg [srd x_1.1 (yG y.2),.int .i64 (4:Int),.str #[(46:UInt8),(46:UInt8)].toList] fun x_2 y_1=>Ab (!isG x_2.1.sg (xh x_2) x_2.2.2.2.2.2.1 x_2.2.2.2.2.2.2) (rA (Tw n) x [.int .i64 y.1,srd x_2.1 (xh x_2)]) (∃(x_3:Int),y.1=x_3∧eA (Tx n x) [srd x_2.1 (xh x_2),Ad [x_3]]∧∀(i:Int×Int×Bool×List Nd×List Int×Nat),vaJ x.1.sg n (xg x) (iG i) i.2.2.2.2.1 i.2.2.2.2.2→cA Cb [srd x.1 (iG i),.str #[(46:UInt8),(46:UInt8)].toList] fun x_4 y=>Ab (isG x_4.1.sg (xh x_4) (4:Int) x_4.2.2.2.2.2) (cA CF [srd x_4.1 (Au x_4.1.sg (xh x_4) x_4.2.2.2.2.2),.int .i64 (1:Int)] fun x_5 y=>cA Bq [srd x_5.1 (Bi x_5.1.sg (xh x_5) x_5.2.2.2.2.2),.int .i64 (1:Int),.str (BC x_5.1.sg (xh x_5) x_5.2.2.2.2.2),Ad []] fun x_6 y=>cA BO [srd x_6.1 (An (xh x_6) {kind:=x_6.2.2.2.2.2.1,text:=x_6.2.2.2.2.2.2.1,kids:=x_6.2.2.2.2.2.2.2,blank:=false}),.str #[(40:UInt8)].toList] fun x_7 y=>∃(x_8:Int),AW (xh x_6)=x_8∧cA (GH n) [srd x_7.1 (As x_7.1.sg (xh x_7) x_7.2.2.2.2.2),.str #[(41:UInt8)].toList,Ad [x_8]] fun x_9 y=>cA Bq [srd x_9.1 (yG y.2),.int .i64 (5:Int),.str #[].toList,Ad y.1] fun x_10 y=>∃(x_11:Int),AW (xh x_10)=x_11∧∃(zs:List Int),Ad [x_11]=Ad zs∧Br Bc∧Ba (List.length i.2.2.2.2.1+List.length zs) (8:Nat)∧eN (Tx n x) i [srd x_10.1 (An (xh x_10) {kind:=x_10.2.2.2.2.2.1,text:=x_10.2.2.2.2.2.2.1,kids:=x_10.2.2.2.2.2.2.2,blank:=false}),Ad (i.2.2.2.2.1++zs)]) (cA Bq [srd x_4.1 (Au x_4.1.sg (xh x_4) x_4.2.2.2.2.2),.int .i64 (10:Int),.str #[].toList,Ad i.2.2.2.2.1] fun x_5 y=>rA (Tw n) x [.int .i64 (AW (xh x_5)),srd x_5.1 (An (xh x_5) {kind:=x_5.2.2.2.2.2.1,text:=x_5.2.2.2.2.2.2.1,kids:=x_5.2.2.2.2.2.2.2,blank:=false})]))) (fun x=>by kernel_rfl) fun(x:ST×Int×Int×Bool×List Nd) (hx:vQ 11 (n+1) x.1 (xg x))=>(by
 dsimp only[cA,eA,eN,Tx,Bx,Ad,AZ,rA,Eg,Cb,Ho,Bq,CF,Tw,GH,BO,Df,sgs,srd,Aw,Az,mvL,lnL,mvE,lnE,Bv]
 obtain⟨s,p,d,b,ns⟩:=x;dsimp only[xg,xh] at hx ⊢
 have hx:vQ 11 (n+1) s ⟨p,d,b,ns⟩:=hx
 have h1:=hx.1.1.1;have h2:=hx.1.1.2;have h3:=hx.1.2;have hs:=h1.1;dsimp only at h2 h3
 (repeat' first|(with_reducible first|rfl|exact True.intro|apply AK|apply And.intro|((first|apply AA|apply AI|apply AB|apply AJ)<;>intro _))|(apply Ax<;>intro _)|apply AH|refine Af () ?_ ?_|((first|apply AO|apply AN|apply AM|apply AL|apply AG|apply AF|apply AE|apply AD|apply AC)<;>try dsimp only)|apply Af|(refine Prod.forall.2 ?_;intro _;try dsimp only)|(intro _;try dsimp only))
 all_goals(try dsimp only[xg,xh,yG,yS,iG] at*)
 all_goals(try simp only[GE] at*)
 all_goals first
  |(show Nat;skip)
  |rfl
  |assumption
  |exact⟨b7k h1 h2 h3,hx.2⟩
  |exact Fs h1 ‹_›
  |exact b7l h1 ‹_› ‹_›
  |exact b7m h1 h2 ‹_› ‹_›
  |exact Xu h1 ‹_›
  |exact(XU hs ‹_›).1
  |exact(XU hs ‹_›).2.1
  |exact(XU hs ‹_›).2.2
  |exact b9X hx ‹_› ‹_›
  |exact XR hs ‹_›
  |exact(a5U hs ‹_› ‹_› ‹_›).1
  |exact b7o h1 ‹_› ‹_›
  |exact b7p h1 ‹_› ‹_›
  |omega
  |(simp;done)
  |(have hq:=b7n hs (show vaJ _ _ _ _ _ _ by assumption);(try simp only[Ba,List.length_append,List.length_cons,List.length_nil]);omega)
  |skip
 all_goals first
  |exact(a5U hs ‹_› ‹_› ‹_›).2
  |skip)
theorem XV{r:Nat}{s:ST}{g:Gs}(hr:1≤r)(h:wQ r 0 s g):False:=b7W hr h.1
theorem a5V{r:Nat}{s:ST}{g:Gs}(hr:1≤r)(h:vQ r 0 s g):False:=b7X hr h.1
theorem c0c:qAll G 0:=
 ⟨MA Tryz.func91 rfl (by decide) (fun x h=>a5V (by omega) h),MA Tryz.func109 rfl (by decide) (fun x h=>a5V (by omega) h),
  MA Tryz.func137 rfl (by decide) (fun x h=>XV (by have:=h.2;omega) h.1),MA Tryz.func180 rfl (by decide) (fun x h=>XV (by omega) h),MA Tryz.func206 rfl (by decide) (fun x h=>XV (by omega) h)⟩
theorem c0d(n:Nat):qAll G n:=by
 induction n with
 |zero=>exact c0c
 |succ n ih=>exact⟨c0b n ih,c0a n ih,b9Z n ih,b9H n ih,b9G n ih⟩
def Gh:Sig:= {X:=ST×Int×Int×Bool×List Nd,args:=fun x=>[srd x.1 (xg x)],pre:=fun x=>okD x.1 (xg x)∧sgM x.1.sg,Y:=Int×Int×Int×Bool×List Nd,post:=fun x y=>Ah x.1.sg (xg x) (Cm x.1.sg) (yS y),res:=fun x y=> .int .i64 y.1,outs:=fun x y=>[srd x.1 (yG y.2)],keep:=true}
theorem a5W{s:ST}{g:Gs}(h:okD s g∧sgM s.sg):vQ 11 peN s g:=⟨b7Y h.1,h.2⟩
theorem XW:Al G Go.Proofs.Tryz.prog 91 Gh:=
 have c:=(c0d (G:=G) peN).val
 ⟨⟨c.1.1,fun x y hx hy=>c.1.2 x y (a5W hx) hy⟩,fun x hx=>c.2 x (a5W hx)⟩
end Go.My
end
section
namespace Go.My
open Go.Eng
def XX(e:Nd)(b:Bool):Nd:=⟨e.kind,e.text,e.kids,b⟩
def Ty(b:Bool)(p:Int×Ps):Int×Ps:=(p.1,⟨p.2.pos,p.2.deep,p.2.nodes.set p.1.toNat (XX (Aa p.2.nodes p.1) b)⟩)
def BL(f:Bool→Ps→PR):Prop:=∀b s,f b s=(f false s).map (Ty b)∧∀p,f b s=some p→1≤p.2.nodes.length∧p.1=(p.2.nodes.length:Int)-1
theorem Oq{k:Int}{t:List UInt8}{ks:List Int}:BL (fun b=>Bd ⟨k,t,ks,b⟩):=by
 intro b s
 by_cases h:300≤s.nodes.length
 ·simp only[XH h];exact⟨rfl,fun p hp=>by cases hp⟩
 ·simp only[XG h]
  refine⟨?_,fun p hp=>by simp only[Option.some.injEq] at hp;subst hp;simp⟩
  simp only[Option.map_some,Ty,Int.toNat_natCast]
  congr 3
  have e:Aa (s.nodes++[⟨k,t,ks,false⟩]) (s.nodes.length:Int)=⟨k,t,ks,false⟩:=Bo (by simp)
  rw[e]
  simp [XX]
theorem a5X{f:Bool→Ps→PR}(h:BL f):BL (fun b s=>FZ (f b s)):=by
 intro b s
 obtain⟨h1,h2⟩:=h b s
 refine⟨?_,fun p hp=> ?_⟩
 ·simp only[FZ];rw[h1]
  cases f false s with
  |none=>rfl
  |some p=>rfl
 ·simp only[FZ,Option.map_eq_some_iff] at hp
  obtain⟨q,hq,rfl⟩:=hp
  exact h2 q hq
theorem Gi{α:Type}{h:Ps→Option (α×Ps)}{g:Bool→α→Ps→PR}(hg:∀a,BL (fun b=>g b a)):BL (fun b s=>(h s).bind fun p=>g b p.1 p.2):=by
 intro b s
 simp only
 cases h s with
 |none=>exact⟨rfl,fun p hp=>by cases hp⟩
 |some p=>exact hg p.1 b p.2
theorem XY{h:Ps→Option Ps}{g:Bool→Ps→PR}(hg:BL g):BL (fun b s=>(h s).bind fun p=>g b p):=by
 intro b s
 simp only
 cases h s with
 |none=>exact⟨rfl,fun p hp=>by cases hp⟩
 |some p=>exact hg b p
theorem Gj{c:Ps→Prop}[inst:∀s,Decidable (c s)]{f g:Bool→Ps→PR}(hf:BL f)(hg:BL g):BL (fun b s=>if c s then f b s else g b s):=by
 intro b s
 by_cases h:c s
 ·simp only[if_pos h];exact hf b s
 ·simp only[if_neg h];exact hg b s
theorem a5Y:BL (fun _ _=>none):=fun b s=>⟨rfl,fun p hp=>by cases hp⟩
theorem MG{f:Bool→Ps→PR}{a:Ps→Ps}(h:BL f):BL (fun b s=>f b (a s)):=fun b s=>h b (a s)
theorem c0e{f:Ps→Bool→Ps→PR}(h:∀q,BL (f q)):BL (fun b s=>f s b s):=fun b s=>h s b s
theorem XZ{sg:List Sg}{k:Int}:BL (FH sg k):=fun b s=>a5X (Oq (k:=k) (t:=(sgO sg s.pos).text) (ks:=[])) b s
theorem MH{sg:List Sg}{m:List UInt8}{k:Int}{t:List UInt8}{ks:List Int}:BL (fun b=>Bs sg m ⟨k,t,ks,b⟩):=Gj (c:=fun s=>isM sg s m=true) (a5X Oq) a5Y
theorem Ya{sg:List Sg}:BL (DA sg):=
 Gi (h:=Ga sg) (g:=fun b t s=>if isM sg s [61] then(Cm sg (adv s)).bind fun q=>Bs sg [59] ⟨12,t,[q.1],b⟩ q.2 else Bs sg [59] ⟨12,t,[],b⟩ s) (fun t=>
  Gj (c:=fun s=>isM sg s [61]=true) (Gi (h:=fun s=>Cm sg (adv s)) (g:=fun b k s=>Bs sg [59] ⟨12,t,[k],b⟩ s) (fun _=>MH)) MH)
theorem c0f{sg:List Sg}:BL (Hm sg):=
 Gj (c:=fun s=>isM sg s [59]=true) MH (Gi (h:=Cm sg) (g:=fun b k s=>Bs sg [59] ⟨15,[],[k],b⟩ s) (fun _=>MH))
theorem c0g{sg:List Sg}{n:Nat}:BL (ifR sg n):=
 Gi (h:=DI sg) (g:=fun b c s=>(BM sg (stR sg n) s).bind fun q=>if isW sg q.2 [101,108,115,101] then(BM sg (stR sg n) (adv q.2)).bind fun r=>Bd ⟨16,[],[c,q.1,r.1],b⟩ r.2 else Bd ⟨16,[],[c,q.1],b⟩ q.2) (fun c=>
  Gi (h:=BM sg (stR sg n)) (g:=fun b k s=>if isW sg s [101,108,115,101] then(BM sg (stR sg n) (adv s)).bind fun r=>Bd ⟨16,[],[c,k,r.1],b⟩ r.2 else Bd ⟨16,[],[c,k],b⟩ s) (fun k=>
   Gj (c:=fun s=>isW sg s [101,108,115,101]=true) (Gi (h:=fun s=>BM sg (stR sg n) (adv s)) (g:=fun b r s=>Bd ⟨16,[],[c,k,r],b⟩ s) (fun _=>Oq)) Oq))
theorem c0h{sg:List Sg}{n:Nat}:BL (whR sg n):=
 Gi (h:=DI sg) (g:=fun b c s=>(BM sg (stR sg n) s).bind fun q=>Bd ⟨17,[],[c,q.1],b⟩ q.2) (fun c=>Gi (h:=BM sg (stR sg n)) (g:=fun b k s=>Bd ⟨17,[],[c,k],b⟩ s) (fun _=>Oq))
theorem c0i{sg:List Sg}:BL (doR sg):=Gi (h:=Cm sg) (g:=fun b k s=>Bs sg [59] ⟨14,[],[k],b⟩ s) (fun _=>MH)
theorem Yb{sg:List Sg}:∀ {n:Nat},BL (stR sg n)
 |0=>a5Y
 |n+1=>by
  intro b s
  rw[JV,JV]
  exact Gj (c:=fun s=>(sgO sg s.pos).kind=5) XZ (Gj (c:=fun s=>isW sg s [118,97,114]=true) (MG (a:=adv) Ya) (Gj (c:=fun s=>isW sg s [114,101,116,117,114,110]=true) (MG (a:=adv) c0f)
   (Gj (c:=fun s=>isW sg s [105,102]=true) (MG (a:=adv) c0g) (Gj (c:=fun s=>isW sg s [119,104,105,108,101]=true) (MG (a:=adv) c0h)
     (Gj (c:=fun s=>(DH sg s.pos&&isM sg (adv s) [61])=true) (c0e (f:=fun q b s=>(Cm sg (adv (adv s))).bind fun p=>Bs sg [59] ⟨13,(sgO sg q.pos).text,[p.1],b⟩ p.2) (fun q=>Gi (h:=fun s=>Cm sg (adv (adv s))) (g:=fun b k s=>Bs sg [59] ⟨13,(sgO sg q.pos).text,[k],b⟩ s) (fun _=>MH))) c0i))))) b s
theorem a5Z{sg:List Sg}:BL (Gy sg):=
 Gi (h:=Ga sg) (g:=fun b t s=>(BF sg [40] s).bind fun s1=>(Bw sg (BS sg) [41] (sg.length+1) [] s1).bind fun q=>(BF sg [41] q.2).bind fun s2=>(FJ sg s2).bind fun r=>Bd ⟨20,t,q.1++[r.1],b⟩ r.2) (fun t=>
  XY (h:=BF sg [40]) (g:=fun b s1=>(Bw sg (BS sg) [41] (sg.length+1) [] s1).bind fun q=>(BF sg [41] q.2).bind fun s2=>(FJ sg s2).bind fun r=>Bd ⟨20,t,q.1++[r.1],b⟩ r.2)
   (Gi (h:=Bw sg (BS sg) [41] (sg.length+1) []) (g:=fun b ks s=>(BF sg [41] s).bind fun s2=>(FJ sg s2).bind fun r=>Bd ⟨20,t,ks++[r.1],b⟩ r.2) (fun ks=>
     XY (h:=BF sg [41]) (g:=fun b s2=>(FJ sg s2).bind fun r=>Bd ⟨20,t,ks++[r.1],b⟩ r.2) (Gi (h:=FJ sg) (g:=fun b k s=>Bd ⟨20,t,ks++[k],b⟩ s) (fun _=>Oq)))))
theorem Yc{sg:List Sg}:BL (Dk sg):=Gj (c:=fun s=>(sgO sg s.pos).kind=5) XZ (Gj (c:=fun s=>isW sg s [118,97,114]=true) (MG (a:=adv) Ya) a5Z)
theorem c0j{sg:List Sg}:BL (Hd sg):=
 Gi (h:=Ga sg) (g:=fun b t s=>(BF sg [123] s).bind fun s1=>(CO sg (Dk sg) [125] (sg.length+1) [] s1).bind fun q=>Bs sg [125] ⟨21,t,q.1,b⟩ q.2) (fun t=>
  XY (h:=BF sg [123]) (g:=fun b s1=>(CO sg (Dk sg) [125] (sg.length+1) [] s1).bind fun q=>Bs sg [125] ⟨21,t,q.1,b⟩ q.2)
   (Gi (h:=CO sg (Dk sg) [125] (sg.length+1) []) (g:=fun b ks s=>Bs sg [125] ⟨21,t,ks,b⟩ s) (fun _=>MH)))
theorem Yd{sg:List Sg}:BL (Dw sg):=Gj (c:=fun s=>(sgO sg s.pos).kind=5) XZ (Gj (c:=fun s=>isW sg s [118,97,114]=true) (MG (a:=adv) Ya) (Gj (c:=fun s=>isW sg s [99,108,97,115,115]=true) (MG (a:=adv) c0j) a5Z))
theorem a6a{sg:List Sg}{x y:Gs}{f:Bool→Ps→PR}{k:Int}(hf:BL f)(h:Ah sg x (f false) (k,y))(hb:y.bad=false):1≤y.nodes.length∧k=(y.nodes.length:Int)-1:=by
 obtain⟨⟨a1,a2,a3,a4,a5⟩,_⟩:=h
 simp only at a4 a5
 rw[Dm hb] at a4
 cases hp:(pur x).bind (f false) with
 |none=>rw[hp] at a4;cases a4
 |some p=>
  rw[hp] at a4
  simp only[Option.map_some,Option.some.injEq] at a4
  have e:=a5 p hp
  cases hs:pur x with
  |none=>rw[hs] at hp;cases hp
  |some s=>
   rw[hs] at hp;simp only[Option.bind_some] at hp
   have:=(hf false s).2 p hp
   rw[←a4] at this;simp only at this;rw[e];exact this
theorem Ye{sg:List Sg}{x y:Gs}{f:Bool→Ps→PR}{k:Int}{b:Bool}(hf:BL f)(h:Ah sg x (f false) (k,y)):Ah sg x (f b) (k,gBl y k b):=by
 have hk:=a6a hf h
 obtain⟨⟨a1,a2,a3,a4,a5⟩,c⟩:=h
 simp only at a1 a2 a3 a4 a5 c
 have eb:(pur x).bind (f b)=((pur x).bind (f false)).map (Ty b):=by
  cases pur x with
  |none=>rfl
  |some s=>exact(hf b s).1
 cases hb:y.bad with
 |true=>
  have e:gBl y k b=y:=by rw[gBl,if_neg (by simp [hb])]
  rw[e]
  rw[Ec hb] at a4
  have hn:(pur x).bind (f false)=none:=by
   cases hp:(pur x).bind (f false) with
   |none=>rfl
   |some p=>rw[hp] at a4;cases a4
  refine⟨⟨a1,a2,a3,?_,fun p hp=> ?_⟩,c⟩
  ·rw[eb,hn,Ec hb];rfl
  ·rw[eb,hn] at hp;cases hp
 |false=>
  obtain⟨k1,k2⟩:=hk hb
  have hlt:k<(y.nodes.length:Int):=by omega
  have e:gBl y k b=⟨y.pos,y.deep,y.bad,y.nodes.set k.toNat (XX (Aa y.nodes k) b)⟩:=by rw[gBl,if_pos ⟨hb,hlt⟩];rfl
  rw[e]
  have hat:Dl (Aa y.nodes k):=by
   have hkl:k.toNat<y.nodes.length:=by omega
   have:=a1.2.2.2 (y.nodes[k.toNat]) (List.getElem_mem hkl)
   rw[Bo (List.getElem?_eq_getElem hkl)];exact this
  refine⟨⟨⟨a1.1,a1.2.1,by simpa using a1.2.2.1,fun w hw=> ?_⟩,a2,a3,?_,fun p hp=> ?_⟩,c⟩
  ·rcases List.mem_or_eq_of_mem_set hw with hw|hw
   ·exact a1.2.2.2 w hw
   ·subst hw;exact hat
  ·rw[eb]
   rw[Dm hb] at a4
   cases hp:(pur x).bind (f false) with
   |none=>rw[hp] at a4;cases a4
   |some p=>
    rw[hp] at a4
    simp only[Option.map_some,Option.some.injEq] at a4 ⊢
    have:=a5 p hp
    rw[Dm (by exact hb)]
    simp only[Ty,←a4,this]
  ·rw[eb,Option.map_eq_some_iff] at hp
   obtain⟨q,hq,rfl⟩:=hp
   exact a5 q hq
theorem Ot{sg:List Sg}{x y:Gs}{f:Bool→Ps→PR}{k:Int}(hf:BL f)(h:Ah sg x (f false) (k,y)):y.bad=false→0≤k:=fun hb=>by have:=a6a hf h hb;omega
theorem Yf{sg:List Sg}{y:Gs}(hb:y.bad=false):blG sg y=(pkG sg y 0).blank:=by
 rw[blG,pkG]
 by_cases h:y.pos<sg.length
 ·rw[if_neg (by simp [hb];omega)];simp [h]
 ·rw[if_pos (.inr (by omega))];simp [h,ET]
theorem c0k{sg:List Sg}{x:Gs}{one:Bool→Ps→PR}(h:gsOk sg x)(hd:x.deep≤20):restP sg x (BM sg one) (pkX (As sg x [123]))
 (fun s1=>(CO sg one [125] (sg.length+1) [] s1).bind fun p=>(Bs sg [125] ⟨18,[],p.1,false⟩ p.2).map fun q=>(q.1,dp q.2 (-1))) 1:=by
 have t:=HO (m:=[123]) h
 have a:=b7x (one:=one) h hd
 have t1:=t.1;have t2:=t.2.1
 by_cases h20:x.deep=20
 ·rw[if_pos h20] at a
  have e:pkX (As sg x [123])=gDp (Bt (As sg x [123])) 1:=by rw[pkX,if_pos (by omega)]
  have e2:As sg (gDp (Bt x) 1) [123]=gDp (Bt x) 1:=Tk rfl
  rw[e2] at a
  rw[e]
  refine XE a ⟨t1.1,by simp only[gDp,Bt];omega,t1.2.2⟩ (by simp only[gDp,Bt];omega) (by simp only[gDp,Bt];omega) rfl
 ·rw[if_neg h20] at a
  have e:pkX (As sg x [123])=gDp (As sg x [123]) 1:=by rw[pkX,if_neg (by omega)]
  rw[e]
  have e2:As sg (gDp x 1) [123]=gDp (As sg x [123]) 1:=by
   have:isG sg (gDp x 1) 4 [123]=isG sg x 4 [123]:=rfl
   cases hq:isG sg x 4 [123] with
   |true=>rw[JW hq,JW (by rw[this];exact hq)];rfl
   |false=>rw[Qu hq,Qu (by rw[this];exact hq)];rfl
  rw[e2] at a;exact a
theorem a6b{g:Gs}{d:Int}{w:Nd}:An (gDp g d) w=gDp (An g w) d∧AW (gDp g d)=AW g:=by
 have hf:DN (gDp g d)=DN g:=rfl
 unfold An AW
 rw[hf]
 cases DN g<;>exact⟨rfl,rfl⟩
theorem a6c{sg:List Sg}{one:Bool→Ps→PR}{x:Gs}{l:List Int×Gs}(h:gsOk sg x)(hd:x.deep≤20)(hl:BG sg (pkX (As sg x [123])) (CO sg one [125] (sg.length+1) []) l)(hll:l.1.length≤3001):
 Ah sg x (BM sg one) (AW (gDp (As sg l.2 [125]) (-1)),An (gDp (As sg l.2 [125]) (-1)) ⟨18,[],l.1,false⟩):=by
 have k1:=BU (k:=fun ks s=>(Bs sg [125] ⟨18,[],ks,false⟩ s).map fun q=>(q.1,dp q.2 (-1))) (c0k h hd) hl (fun _ _=>rfl)
 have hw:Dl ⟨18,[],l.1,false⟩:=⟨by simp,by simp only;omega⟩
 have hc:=Iy k1.1 hw (NW (m:=[125]) k1.1 hw)
 have k2:=BU (k:=fun k s=>some (k,dp s (-1))) k1 hc.1 (fun s _=>by cases Bs sg [125] ⟨18,[],l.1,false⟩ s<;>rfl)
 simp only at k2
 rw[(a6b (w:=⟨18,[],l.1,false⟩)).1,(a6b (w:=⟨18,[],l.1,false⟩)).2]
 refine⟨Hk (Mw (e:= -1) k2 ?_ (fun s hs=>rfl)),fun hb=> ?_⟩
 ·have:=k2.2.1;have:=h.2.1;omega
 ·have:=hc.2 hb
  have:=k1.2.2.1
  simp only[gDp] at*;omega
end Go.My
end
