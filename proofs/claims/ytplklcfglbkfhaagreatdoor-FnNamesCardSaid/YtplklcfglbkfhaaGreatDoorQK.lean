/- A part of the proof: the engine and the contracts, joined. -/
import Derived.Test.YtplklcfglbkfhaaGreatDoorQJ
section
set_option linter.unusedVariables false
set_option linter.unusedSimpArgs false
namespace Go.My
open Go.Eng
theorem MF{sg:List Sg}{x:Gs}{f:Ps→PR}{k k':Int}{y y':Gs}(h:Ah sg x f (k,y))(h1:gsOk sg y')(h2:y'.deep=y.deep)(h3:y.pos≤y'.pos)(h4:pur y'=pur y)(h5:y'.bad=false→k'=k):Ah sg x f (k',y'):=by
 obtain⟨⟨a1,a2,a3,a4,a5⟩,b⟩:=h
 simp only at a1 a2 a3 a4 a5 b
 have hb:y'.bad=y.bad:=by
  cases hy:y.bad with
  |true=>exact a0A.1 (h4.trans (DG hy))
  |false=>
   cases hy':y'.bad with
   |false=>rfl
   |true=>rw[DG hy',CL hy] at h4;cases h4
 refine⟨⟨h1,by simp only;omega,by simp only;omega,by simp only;rw[h4];exact a4,fun p hp=> ?_⟩,fun hw=> ?_⟩
 ·simp only
  have:=a5 p hp
  rw[h5 ?_]
  ·exact this
  ·cases hy:y'.bad with
   |false=>rfl
   |true=>rw[←h4,DG hy,hp] at a4;cases a4
 ·simp only at hw ⊢
  have:=b (by rw[←hb];exact hw);omega
theorem UN{α:Type}{sg:List Sg}{x y y':Gs}{f g:Ps→Option (α×Ps)}{d:Int}(h:restP sg x f y g d)(h1:gsOk sg y')(h2:y'.deep=y.deep)(h3:y.pos≤y'.pos)(h4:pur y'=pur y):restP sg x f y' g d:=by
 obtain⟨a1,a2,a3,a4⟩:=h
 exact⟨h1,by omega,by omega,by rw[h4];exact a4⟩
theorem UO{sg:List Sg}{g:Gs}{w:Nd}(h:gsOk sg g)(hl:g.pos<sg.length)(hw:CK w):gsOk sg (Aq (As g) w)∧(Aq (As g) w).deep=(CN (Aq g w)).deep∧(CN (Aq g w)).pos≤(Aq (As g) w).pos∧pur (Aq (As g) w)=pur (CN (Aq g w))∧AU (As g)=AU g:=by
 refine⟨OC (FG h hl) hw,?_⟩
 cases hf:Dm g with
 |true=>
  have hf2:Dm (As g)=true:=hf
  simp only[Aq,AU,hf,hf2,if_true]
  simp [CN,Bs,As,pur];omega
 |false=>
  have hf2:Dm (As g)=false:=hf
  have:=(QT hf).1
  simp only[Aq,AU,hf,hf2,Bool.false_eq_true,if_false]
  simp [CN,Bs,As,pur,this]
theorem Hz{sg:List Sg}{x g:Gs}{f:Ps→PR}{m:List UInt8}{w:Nd}(hg:gsOk sg g)(hw:CK w)(h:Ah sg x f (Ct sg g m,Cs sg g m w)):Ah sg x f (AU (Au sg g m),Aq (Au sg g m) w):=by
 cases hq:isG sg g 4 m with
 |true=>
  obtain⟨a,b,c,d,e⟩:=UO hg (CM hq (by omega)).2 hw
  simp only[Cs,Ct,Au,hq,if_true] at h ⊢
  exact MF h a b c d (fun _=>e)
 |false=>
  simp only[Cs,Ct,Au,hq,Bool.false_eq_true,if_false] at h ⊢
  have hf:Dm (Bs g)=true:=by simp [Dm,Bs]
  simp only[Aq,AU,hf,if_true]
  exact MF h hg rfl (Int.le_refl _) rfl (fun _=>rfl)
theorem OO{sg:List Sg}{g:Gs}{k:Int}(hk:k≠1):kdG sg g k=decide ((pkG sg g 0).kind=k):=by simp [kdG,hk]
theorem MG{sg:List Sg}{x g:Gs}{f:Ps→PR}{k c:Int}(hs:sgB sg)(hg:gsOk sg g)(hk:k≠0)(hq:kdG sg g k=true)(h:Ah sg x f (AU g,Ed sg g c false)):Ah sg x f (AU (Bf sg g k),Aq (Bf sg g k) ⟨c,Bv sg g k,[],false⟩):=by
 have hl:=Rk hk hq
 have hw:CK ⟨c,(pkG sg g 0).text,[],false⟩:=⟨OD hs,by simp⟩
 obtain⟨a1,a2,a3,a4,a5⟩:=UO hg hl.2 hw
 simp only[Bf,Bv,hq,if_true]
 exact MF h a1 a2 a3 a4 (fun _=>a5)
theorem b3l{sg:List Sg}{g:Gs}(hs:sgB sg)(hg:gsOk sg g):Ah sg g (BP sg) (AU (Bf sg g 1),Aq (Bf sg g 1) ⟨1,Bv sg g 1,[],false⟩):=by
 have h:=QV hs hg
 cases hq:nmG sg g 0 with
 |true=>
  refine MG hs hg (by omega) (by rw[Ib];exact hq) ?_
  simp only[DH,DQ,hq,if_true] at h;exact h
 |false=>
  have hq2:kdG sg g 1=false:=by rw[Ib];exact hq
  simp only[DH,DQ,hq,Bool.false_eq_true,if_false] at h
  have hf:Dm (Bs g)=true:=by simp [Dm,Bs]
  simp only[Bf,Bv,hq2,Bool.false_eq_true,if_false,Aq,AU,hf,if_true]
  exact MF h hg rfl (Int.le_refl _) rfl (fun _=>rfl)
theorem HA{sg:List Sg}{g:Gs}:Bf sg g 1=Cx sg g∧Bv sg g 1=CH sg g:=by
 simp only[Bf,Cx,Bv,CH,Ib];exact⟨trivial,trivial⟩
theorem Ro{sg:List Sg}{g:Gs}{m:List UInt8}(h:g.bad=true):Au sg g m=g:=by
 have:isG sg g 4 m=false:=a0B (DG h) (by omega)
 simp only[Au,this,Bool.false_eq_true,if_false,Bs]
 cases g;simp only at h;simp [h]
theorem IR{sg:List Sg}{g:Gs}{m:List UInt8}(h:isG sg g 4 m=true):Au sg g m=As g:=by simp [Au,h]
theorem OP{sg:List Sg}{g:Gs}{m:List UInt8}(h:isG sg g 4 m=false):Au sg g m=Bs g:=by simp [Au,h]
theorem UP{w:Nd}{s:Ps}(h:¬300≤s.nodes.length):Ba w s=some ((s.nodes.length:Int),⟨s.pos,s.deep,s.nodes++[w]⟩):=if_neg h
theorem UQ{w:Nd}{s:Ps}(h:300≤s.nodes.length):Ba w s=none:=if_pos h
def chS(sg:List Sg)(n l:Nat)(x y:Gs)(t:List UInt8)(ks:List Int)(N:Nat):Prop:=
 restP sg x (pE sg (n+1) (.chain l)) y (chF sg n l N t ks) 0∧(2*((sg.length:Int)-y.pos)+4≤N∨(t=[]∧2*((sg.length:Int)-y.pos)+3≤N))∧(ks.length:Int)≤y.pos+1∧(y.bad=false→x.pos<y.pos)∧(t=[]→ks.length=1)∧(t≠[]→2≤ks.length∧t∈BI l)
theorem b3m{sg:List Sg}{x:Gs}{n l:Nat}{z:Int×Gs}(h:gsOk sg x)(hl:l≠6)(h1:Ah sg x (pE sg n (.chain (l+1))) z):chS sg n l x z.2 [] [z.1] (2*sg.length+4):=by
 obtain⟨a,b,c⟩:=b0U h hl h1
 have:=a.1.1
 exact⟨a,.inr ⟨rfl,b⟩,by simp;omega,c,fun _=>rfl,fun h=>(h rfl).elim⟩
theorem UR{sg:List Sg}{l:Nat}{m:List UInt8}{ks:List Int}(hs:sgB sg)(hml:m∈BI l)(hk:(ks.length:Int)≤sg.length+1):CK ⟨7,m,ks,false⟩:=by
 refine⟨?_,by have:=hs.1;simp only;omega⟩
 simp only
 unfold BI at hml
 split at hml<;>simp at hml<;>(first|(subst hml;simp)|(rcases hml with rfl|rfl<;>simp))
theorem b3n{sg:List Sg}{n l:Nat}{x y:Gs}{t:List UInt8}{ks:List Int}{N:Nat}{z:Int×Gs}(h:chS sg n l x y t ks N)(hm:CP sg l y≠[])(ht:t=[]∨CP sg l y=t)(hz:Ah sg (As y) (pE sg n (.chain (l+1))) z):
 chS sg n l x z.2 (CP sg l y) (ks++[z.1]) (N-1)∧N-1<N:=by
 obtain⟨h1,hN,hk,hb,hk1,hk2⟩:=h
 have hq:=(JD hm).1
 have hp:=h1.1.1
 have hl:=CM hq (by omega)
 match N with
 |0=>omega
 |M+1=>
  refine⟨?_,by omega⟩
  have k1:=Gj (g':=fun s=>(pE sg n (.chain (l+1)) s).bind fun p=>chF sg n l M (CP sg l y) (ks++[p.1]) p.2) h1 (by omega) hq (fun s hs hts=>by
   rw[chF,Gf,if_neg ?_,if_neg (by rw[JC hs];exact hm),JC hs];rfl
   rw[JC hs];rintro⟨q1,q2⟩;rcases ht with ht|ht
   ·exact q1 ht
   ·exact q2 ht)
  have k2:=BM (k:=fun k s=>chF sg n l M (CP sg l y) (ks++[k]) s) k1 hz.1 (fun _ _=>rfl)
  have e:=Cz hz
  simp only[As] at e
  have:=h1.2.2.1
  simp only[Nat.add_sub_cancel]
  refine⟨k2,.inl (by omega),by simp;omega,fun hb2=>by omega,fun he=>(hm he).elim,fun _=>⟨?_,(JD hm).2⟩⟩
  simp only[List.length_append,List.length_cons,List.length_nil]
  rcases Classical.em (t=[]) with e0|e0
  ·have:=hk1 e0;omega
  ·have:=(hk2 e0).1;omega
theorem b3o{sg:List Sg}{n l:Nat}{x y:Gs}{t:List UInt8}{ks:List Int}{N:Nat}{z:Int×Gs}(hs:sgB sg)(h:chS sg n l x y t ks N)(hm:CP sg l y≠[])(ht:t≠[])(hne:CP sg l y≠t)(hz:Ah sg (Aq (As y) ⟨7,t,ks,false⟩) (pE sg n (.chain (l+1))) z):
 chS sg n l x z.2 (CP sg l y) ([AU (As y)]++[z.1]) (N-2)∧N-2<N:=by
 obtain⟨h1,hN,hk,hb,hk1,hk2⟩:=h
 have hq:=(JD hm).1
 have hp:=h1.1.1
 have hl:=CM hq (by omega)
 have hN2:2*((sg.length:Int)-y.pos)+4≤N:=by
  rcases hN with h|h
  ·exact h
  ·exact(ht h.1).elim
 match N with
 |0=>omega
 |1=>omega
 |M+2=>
  refine⟨?_,by omega⟩
  have hw:CK ⟨7,t,ks,false⟩:=UR hs (hk2 ht).2 (by omega)
  have k1:=Gj (g':=fun s=>(Ba ⟨7,t,ks,false⟩ s).bind fun p=>(pE sg n (.chain (l+1)) p.2).bind fun q=>chF sg n l M (CP sg l y) ([p.1]++[q.1]) q.2) h1 (by omega) hq (fun s hs hts=>by
   rw[chF,Gf,if_pos ⟨ht,by rw[JC hs];exact hne⟩]
   by_cases h3:300≤s.nodes.length
   ·rw[UQ h3,UQ (s:=adv s) h3];rfl
   ·rw[UP h3,UP (s:=adv s) h3]
    simp only[Option.bind_some]
    have e:IG sg l ⟨s.pos,s.deep,s.nodes++[⟨7,t,ks,false⟩]⟩=CP sg l y:=by rw[←JC hs];rfl
    rw[Gf,if_neg (by simp),if_neg (by rw[e];exact hm),e];rfl)
  have k2:=BM (k:=fun k s=>(pE sg n (.chain (l+1)) s).bind fun q=>chF sg n l M (CP sg l y) ([k]++[q.1]) q.2) k1 (QU k1.1 hw) (fun _ _=>rfl)
  have k3:=BM (k:=fun k s=>chF sg n l M (CP sg l y) ([AU (As y)]++[k]) s) k2 hz.1 (fun _ _=>rfl)
  have e:=Cz hz
  obtain⟨d1,d2,d3⟩:= @IM (As y) ⟨7,t,ks,false⟩
  rw[d2] at e;simp only[As] at e
  have:=h1.2.2.1
  simp only[Nat.add_sub_cancel]
  refine⟨k3,.inl (by omega),by simp;omega,fun hb2=>by omega,fun he=>(hm he).elim,fun _=>⟨by simp,(JD hm).2⟩⟩
theorem a1B{sg:List Sg}{n l:Nat}{x y:Gs}{t:List UInt8}{ks:List Int}{N:Nat}{k:Int}(h:chS sg n l x y t ks N)(hm:y.bad=true∨CP sg l y=[])(hl:ks.length=1)(hk:ks[0]? =some k):Ah sg x (pE sg (n+1) (.chain l)) (k,y):=by
 obtain⟨h1,hN,hk0,hb,hk1,hk2⟩:=h
 rcases hm with hm|hm
 ·exact⟨OF h1 hm,fun hb2=>by simp only at hb2;rw[hm] at hb2;cases hb2⟩
 ·have ht:t=[]:=by
   rcases Classical.em (t=[]) with e0|e0
   ·exact e0
   ·have:=(hk2 e0).1;omega
  subst ht
  have hp:=h1.1.1
  match ks,hl with
  |[k0],_=>
   simp at hk;subst hk
   match N with
   |0=>omega
   |N+1=>exact⟨Gi (DI h1 (g':=fun s=>some (k0,s)) (fun s hs=>by rw[chF,Gf,if_neg (by simp),if_pos (by rw[JC hs,hm])];rfl)),hb⟩
theorem a1C{sg:List Sg}{n l:Nat}{x y:Gs}{t:List UInt8}{ks:List Int}{N:Nat}(hs:sgB sg)(h:chS sg n l x y t ks N)(hm:y.bad=true∨CP sg l y=[])(hl:ks.length≠1):Ah sg x (pE sg (n+1) (.chain l)) (AU y,Aq y ⟨7,t,ks,false⟩):=by
 obtain⟨h1,hN,hk0,hb,hk1,hk2⟩:=h
 have ht:t≠[]:=fun e=>hl (hk1 e)
 have hp:=h1.1.1
 have hw:CK ⟨7,t,ks,false⟩:=UR hs (hk2 ht).2 (by omega)
 obtain⟨d1,d2,d3⟩:= @IM y ⟨7,t,ks,false⟩
 have hN2:2*((sg.length:Int)-y.pos)+4≤N:=by
  rcases hN with h|h
  ·exact h
  ·exact(ht h.1).elim
 match N with
 |0=>omega
 |1=>omega
 |M+2=>
  have k1:restP sg x (pE sg (n+1) (.chain l)) y (Ba ⟨7,t,ks,false⟩) 0:=by
   rcases hm with hm|hm
   ·exact DI h1 (fun s hs=>by rw[DG hm] at hs;cases hs)
   ·refine DI h1 (fun s hs=> ?_)
    rw[chF,Gf,if_pos ⟨ht,by rw[JC hs,hm];exact Ne.symm ht⟩,Ba]
    split
    ·rfl
    ·simp only[Option.bind_some]
     have e:IG sg l ⟨s.pos,s.deep,s.nodes++[⟨7,t,ks,false⟩]⟩=[]:=by rw[←hm,←JC hs];rfl
     rw[Gf,if_neg (by simp),if_pos e];rfl
  exact⟨QY k1 hw,fun hb2=>by simp only[d2];exact hb (d3 hb2)⟩
def gM(y:Gs)(m:List UInt8):Gs:=if m=[] then y else As y
theorem US{y:Gs}:gM y []=y:=rfl
theorem Rp{y:Gs}{m:List UInt8}(h:m≠[]):gM y m=As y:=if_neg h
def mkQ(sg:List Sg)(y:Gs)(l:Nat)(i:Int)(m:List UInt8):Prop:=(0≤i∧i≤(BI l).length)∧((m=[]∧CP sg l y=(((BI l).drop i.toNat).find? fun m=>isG sg y 4 m).getD [])∨(m≠[]∧m=CP sg l y))
theorem b3p{sg:List Sg}{y:Gs}{l:Nat}:mkQ sg y l 0 []:=⟨by omega,.inl ⟨rfl,rfl⟩⟩
theorem b3q{sg:List Sg}{y:Gs}{l:Nat}{i:Int}{m v:List UInt8}(h:mkQ sg y l i m)(hm:m=[])(ha:(BI l)[i.toNat]? =some v)(hg:isG sg (gM y m) 4 v=false):mkQ sg y l (i+1) m:=by
 subst hm
 have hlt:=(List.getElem?_eq_some_iff.1 ha).1
 refine⟨by have:=h.1;omega,?_⟩
 rcases h.2 with h2|h2
 ·left;refine⟨rfl,?_⟩
  rw[h2.2,List.drop_eq_getElem_cons hlt,(List.getElem?_eq_some_iff.1 ha).2,List.find?_cons_of_neg (by simp;exact hg),show(i+1).toNat=i.toNat+1 by have:=h.1;omega]
 ·exact(h2.1 rfl).elim
theorem UT{sg:List Sg}{y:Gs}{l:Nat}{i:Int}{m v:List UInt8}(h:mkQ sg y l i m)(hm:m=[])(ha:(BI l)[i.toNat]? =some v)(hg:isG sg (gM y m) 4 v=true):mkQ sg y l (i+1) v∧Aw sg (gM y m) v=gM y v:=by
 subst hm
 have hlt:=(List.getElem?_eq_some_iff.1 ha).1
 have hv:=b0V (List.mem_of_getElem? ha)
 refine⟨⟨by have:=h.1;omega,.inr ⟨hv,?_⟩⟩,?_⟩
 ·exact(b0X (List.mem_of_getElem? ha) hg).symm
 ·rw[US] at hg ⊢;rw[Rp hv];exact Eg hg
theorem b3r{sg:List Sg}{y:Gs}{l:Nat}{i:Int}{m:List UInt8}(h:mkQ sg y l i m)(hi:i<((BI l).length:Int))(hm:m≠[]):mkQ sg y l (i+1) m:=by
 refine⟨by have:=h.1;omega,?_⟩
 rcases h.2 with h2|h2
 ·exact(hm h2.1).elim
 ·exact .inr h2
theorem Rq{sg:List Sg}{y:Gs}{l:Nat}{i:Int}{m:List UInt8}(h:mkQ sg y l i m)(hi:¬i<((BI l).length:Int)):m=CP sg l y:=by
 rcases h.2 with h2|h2
 ·rw[h2.2,List.drop_eq_nil_of_le (by omega),h2.1];rfl
 ·exact h2.2
theorem a1D{sg:List Sg}{x:Gs}{f:Ps→PR}{a:Int}(h:gsOk sg x)(hb:x.bad=true):Ah sg x f (a,x):=⟨OF (CO h) hb,fun hb2=>by simp only at hb2;rw[hb] at hb2;cases hb2⟩
theorem b3s{sg:List Sg}{n:Nat}{x y y':Gs}{k k':Int}{N:Nat}(h:enI sg n x y k N)(h1:gsOk sg y')(h2:y'.deep=y.deep)(h3:y.pos≤y'.pos)(h4:pur y'=pur y)(h5:y'.bad=false→k'=k):enI sg n x y' k' N:=by
 obtain⟨a,b,c⟩:=h
 cases hb:y'.bad with
 |false=>
  have hy:y.bad=false:=by
   cases hy:y.bad with
   |false=>rfl
   |true=>rw[DG hy,CL hb] at h4;cases h4
  rw[h5 hb]
  exact⟨UN a h1 h2 h3 h4,fun _=>by have:=b hy;omega,fun _=>by have:=c hy;omega⟩
 |true=>
  have hy:y.bad=true:=by
   cases hy:y.bad with
   |true=>rfl
   |false=>rw[DG hb,CL hy] at h4;cases h4
  refine⟨DI (UN a h1 h2 h3 h4) (fun s hs=>by rw[DG hb] at hs;cases hs),fun e=>(Bool.noConfusion (hb.symm.trans e)),fun e=>(Bool.noConfusion (hb.symm.trans e))⟩
theorem b3t{sg:List Sg}{n:Nat}{x y:Gs}{a k:Int}{N:Nat}(h:Ah sg x (pE sg (n+1) .fin) (a,y))(hb:y.bad=true):enI sg n x y k N:=
 ⟨DI (b0C h.1) (fun s hs=>by rw[DG hb] at hs;cases hs),fun e=>(Bool.noConfusion (hb.symm.trans e)),fun e=>(Bool.noConfusion (hb.symm.trans e))⟩
theorem b3u{sg:List Sg}{n:Nat}{x y:Gs}{k:Int}{N:Nat}(hs:sgB sg)(h:enI sg n x y k N)(hp:isG sg y 4 [40]=false)(hq:isG sg y 4 [46]=true):
 enI sg n x (Aq (Bf sg (As y) 1) ⟨6,Bv sg (As y) 1,[k],false⟩) (AU (Bf sg (As y) 1)) (N-1)∧N-1<N:=by
 have hl:=CM hq (by omega)
 obtain⟨M,rfl⟩:=OH h hl.1
 refine⟨?_,by omega⟩
 have ho:=FG h.1.1 hl.2
 have hw:CK ⟨6,(pkG sg (As y) 0).text,[k],false⟩:=⟨OD hs,by simp⟩
 cases hn:nmG sg (As y) 0 with
 |true=>
  obtain⟨M',e,h2⟩:=b1b hs h hp hq hn
  have:M'=M:=by omega
  subst this
  obtain⟨a1,a2,a3,a4,a5⟩:=UO ho (by have:=(QR hn).2;omega) hw
  have e1:Bf sg (As y) 1=As (As y):=by rw[Bf,Ib,if_pos hn]
  have e2:Bv sg (As y) 1=(pkG sg (As y) 0).text:=by rw[Bv,Ib,if_pos hn]
  rw[e1,e2]
  exact b3s h2 a1 a2 a3 a4 (fun _=>a5)
 |false=>
  have h2:=b1c (a:=0) h hp hq hn
  have e1:Bf sg (As y) 1=Bs (As y):=by rw[Bf,Ib,if_neg (by simp [hn])]
  have hf:Dm (Bs (As y))=true:=by simp [Dm,Bs]
  rw[e1]
  have e3:Aq (Bs (As y)) ⟨6,Bv sg (As y) 1,[k],false⟩=Bs (Bs (As y)):=if_pos hf
  rw[e3]
  exact b3t (a:=0) (MF h2 ho rfl (Int.le_refl _) rfl (fun _=>rfl)) rfl
def vlQ(sg:List Sg)(one:Ps→PR)(m:List UInt8)(ks0:List Int)(x:Gs)(y:List Int×Gs):Prop:=∃l:List Int×Gs,(Bx sg x (Bu sg one m (sg.length+1) []) l∧l.1.length≤3001)∧y=(ks0++l.1,Au sg l.2 m)
theorem UU{s:ST}{one:Ps→PR}{m:List UInt8}{ks0:List Int}{x:Gs}{y:List Int×Gs}(hs:sgB s.sg)(h:vlQ s.sg one m ks0 x y):rOk s y.2∧y.1.length≤ks0.length+3001∧y.2.deep=x.deep∧x.pos≤y.2.pos:=by
 obtain⟨l,⟨h1,h2⟩,rfl⟩:=h
 have t:=GT (m:=m) h1.1
 have:=h1.2.1;have:=h1.2.2.1
 exact⟨⟨hs,t.1⟩,by simp;omega,by simp only;omega,by simp only;omega⟩
theorem a1E{sg:List Sg}{x:Gs}{one:Ps→PR}{k:Int}{y:List Int×Gs}(hx:gsOk sg x)(h:vlQ sg one [41] [k] (Au sg x [40]) y):Ah sg x (CJ sg one k) (AU y.2,Aq y.2 ⟨5,[],y.1,false⟩):=by
 obtain⟨l,⟨h1,h2⟩,rfl⟩:=h
 exact Hz h1.1 ⟨by simp,by simp;omega⟩ (b1p hx ⟨h1,h2⟩)
theorem b3v{sg:List Sg}{x y:Gs}{n N:Nat}{ks:List Int}{c w:Int×Gs}(h:JB sg n x y ks N)(hq:isG sg y 4 [46,46]=true)(hc:Ah sg (As y) (BP sg) c)
 (h2:Ah sg c.2 (CJ sg (pE sg n .value) c.1) w):∃M,N=M+1∧JB sg n x w.2 (ks++[w.1]) M:=by
 obtain⟨h1,hN,hk,hb⟩:=h
 obtain⟨hl1,hl⟩:=CM hq (by omega)
 match N with
 |0=>omega
 |M+1=>
  refine⟨M,rfl,?_⟩
  have k1:=Gj (g':=fun s=>((BP sg s).bind fun p=>(CJ sg (pE sg n .value) p.1 p.2).bind fun q=>Fj sg (pE sg n .value) M (ks++[q.1]) q.2).bind fun q=>Ba ⟨10,[],q.1,false⟩ q.2)
   h1 (by omega) hq (fun s hs ht=>by rw[Fj,if_pos (show isM sg s [46,46]=true from ht)])
  have k2:=BM (k:=fun k s=>((CJ sg (pE sg n .value) k s).bind fun q=>Fj sg (pE sg n .value) M (ks++[q.1]) q.2).bind fun q=>Ba ⟨10,[],q.1,false⟩ q.2) k1 hc.1 (fun s _=>by simp only[Option.bind_assoc])
  have k3:=BM (k:=fun k s=>(Fj sg (pE sg n .value) M (ks++[k]) s).bind fun q=>Ba ⟨10,[],q.1,false⟩ q.2) k2 h2.1 (fun s _=>by simp only[Option.bind_assoc])
  have e0:(As y).pos≤c.2.pos:=hc.1.2.2.1
  have e1:=Cz h2
  have ea:(As y).pos=y.pos+1:=rfl
  refine⟨k3,by omega,by simp;omega,fun hb2=> ?_⟩
  have:=h1.2.2.1
  omega
theorem b3w{sg:List Sg}(hm:sgM sg){s:Ps}(h0:0≤s.pos)(h:Jy sg s=true):JA sg s=true:=by
 have hp:∀(n:Nat) (i:Int),0≤i→0≤DP sg n i:=by
  intro n
  induction n with
  |zero=>intro i hi;simpa [DP] using hi
  |succ n ih=>
   intro i hi;rw[DP];split
   ·split
    ·exact ih _ (by omega)
    ·omega
   ·exact hi
 exact a0J hm _ _ (by omega) (by rw[←UE hm (hp _ _ (by omega))];exact h)
theorem b3x{sg:List Sg}(hm:sgM sg){s:Ps}(h0:0≤s.pos)(h1:JA sg s=true)(h2:Jy sg s=false)(N:Nat):Bu sg (BP sg) [41] N [] (adv s)=none:=by
 have hp:∀(n:Nat) (i:Int),0≤i→0≤DP sg n i:=by
  intro n
  induction n with
  |zero=>intro i hi;simpa [DP] using hi
  |succ n ih=>
   intro i hi;rw[DP];split
   ·split
    ·exact ih _ (by omega)
    ·omega
   ·exact hi
 exact a0K hm (sg.length+1) (s.pos+1) (by omega) h1 (by rw[←UE hm (hp _ _ (by omega))];exact h2) N [] (adv s) rfl
theorem b3y{sg:List Sg}{x:Gs}{n:Nat}{z:Int×Gs}(hm:sgM sg)(hx:gsOk sg x)(h1:(pkG sg x 0).kind≠1)(h2:(pkG sg x 0).kind≠2)(h3:(pkG sg x 0).kind≠3)(hn:isG sg x 4 [91]=false)(hq:isG sg x 4 [40]=true)
 (ha:∀s,pur x=some s→JA sg s=true) (hz:Ah sg x (fnR sg n) z):Ah sg x (pE sg (n+1) .base) z:=by
 refine JE hz (fun s hs=> ?_)
 have h0:0≤s.pos:=by obtain⟨_,rfl⟩:=Er.1 hs;exact hx.1.1
 cases har:Jy sg s with
 |true=>rw[OI hs h1 h2 h3,if_neg (by simp [Es hs hn]),if_pos (by simp [IK hs hq,har]),fnR,Bz,if_pos (IK hs hq)];rfl
 |false=>
  rw[OI hs h1 h2 h3,if_neg (by simp [Es hs hn]),if_neg (by simp [har]),if_pos (IK hs hq),b0F (x:=⟨0,[],[],false⟩) hm h0 (ha s hs) har (fun k=>⟨11,[],[k],false⟩),fnR,Bz,if_pos (IK hs hq)]
  simp only[Option.bind_some]
  rw[b3x hm h0 (ha s hs) har];rfl
theorem b3z{sg:List Sg}{x:Gs}{n:Nat}{z:Int×Gs}(hm:sgM sg)(h:gsOk sg x)(h1:(pkG sg x 0).kind≠1)(h2:(pkG sg x 0).kind≠2)(h3:(pkG sg x 0).kind≠3)(hn:isG sg x 4 [91]=false)(hq:isG sg x 4 [40]=true)
 (ha:∀s,pur x=some s→JA sg s=false) (hz:Ah sg (As x) (pE sg n .value) z):
 Ah sg x (pE sg (n+1) .base) (AU (Au sg z.2 [41]),Aq (Au sg z.2 [41]) ⟨11,[],[z.1],false⟩):=by
 refine Hz (Fk hz) ⟨by simp,by simp⟩ (b1g h h1 h2 h3 hn hq (fun s hs=> ?_) hz)
 have h0:0≤s.pos:=by obtain⟨_,rfl⟩:=Er.1 hs;exact h.1.1
 cases har:Jy sg s with
 |false=>rfl
 |true=>have:=b3w hm h0 har;rw[ha s hs] at this;cases this
end Go.My
end
section
set_option linter.unusedVariables false
set_option linter.unusedSimpArgs false
namespace Go.My
open Go.Eng Go.Proofs
variable {G:GInv}
def vQ(r n:Nat)(s:ST)(g:Gs):Prop:=vP r n s g∧sgM s.sg
def wQ(r n:Nat)(s:ST)(g:Gs):Prop:=wP r n s g∧sgM s.sg
def KX(n:Nat):Sig:= {X:=ST×Int×Int×Bool×List Nd,args:=fun x=>[srd x.1 (xg x)],pre:=fun x=>vQ 11 n x.1 (xg x),Y:=Int×Int×Int×Bool×List Nd,post:=fun x y=>Ah x.1.sg (xg x) (pE x.1.sg n .value) (yS y),res:=fun x y=> .int .i64 y.1,outs:=fun x y=>[srd x.1 (yG y.2)],keep:=true}
def Gm(n:Nat):Sig:= {X:=ST×Int×Int×Bool×List Nd,args:=fun x=>[srd x.1 (xg x)],pre:=fun x=>vQ 10 n x.1 (xg x),Y:=Int×Int×Int×Bool×List Nd,post:=fun x y=>Ah x.1.sg (xg x) (pE x.1.sg n .pick) (yS y),res:=fun x y=> .int .i64 y.1,outs:=fun x y=>[srd x.1 (yG y.2)],keep:=true}
def HB(n:Nat):Sig:= {X:=ST×Int×Int×Bool×List Nd×Int,args:=fun x=>[srd x.1 (xh x),.int .i64 x.2.2.2.2.2],pre:=fun x=>wQ (9-x.2.2.2.2.2.toNat) n x.1 (xh x)∧0≤x.2.2.2.2.2∧x.2.2.2.2.2≤6,Y:=Int×Int×Int×Bool×List Nd,post:=fun x y=>Ah x.1.sg (xh x) (pE x.1.sg n (.chain x.2.2.2.2.2.toNat)) (yS y),res:=fun x y=> .int .i64 y.1,outs:=fun x y=>[srd x.1 (yG y.2),.top],keep:=true}
def Rr(n:Nat):Sig:= {X:=ST×Int×Int×Bool×List Nd,args:=fun x=>[srd x.1 (xg x)],pre:=fun x=>wQ 2 n x.1 (xg x),Y:=Int×Int×Int×Bool×List Nd,post:=fun x y=>Ah x.1.sg (xg x) (pE x.1.sg n .fin) (yS y),res:=fun x y=> .int .i64 y.1,outs:=fun x y=>[srd x.1 (yG y.2)],keep:=true}
def Rs(n:Nat):Sig:= {X:=ST×Int×Int×Bool×List Nd,args:=fun x=>[srd x.1 (xg x)],pre:=fun x=>wQ 1 n x.1 (xg x),Y:=Int×Int×Int×Bool×List Nd,post:=fun x y=>Ah x.1.sg (xg x) (pE x.1.sg n .base) (yS y),res:=fun x y=> .int .i64 y.1,outs:=fun x y=>[srd x.1 (yG y.2)],keep:=true}
structure qAll (G:GInv) (n:Nat):Prop where
 val:Al G Go.Proofs.Tryz.prog 172 (KX n)
 pick:Al G Go.Proofs.Tryz.prog 187 (Gm n)
 chain:Al G Go.Proofs.Tryz.prog 202 (HB n)
 fin:Al G Go.Proofs.Tryz.prog 212 (Rr n)
 base:Al G Go.Proofs.Tryz.prog 222 (Rs n)
def saI(sg:List Sg)(p:Int)(i:Int)(N:Nat):Prop:=(p+1≤i∧i≤sg.length+1∧(sg.length:Int)-i<N)∧Ef sg (sg.length+1) (p+1)=Ef sg N i
def arG(sg:List Sg)(x:Gs):Bool:=isG sg x 4 [40]&&JA sg ⟨x.pos,x.deep,x.nodes⟩
theorem b3A{sg:List Sg}{p i:Int}{N:Nat}(h:saI sg p i N):p+1≤i∧i≤sg.length+1:=⟨h.1.1,h.1.2.1⟩
theorem b3B{sg:List Sg}{p:Int}(h0:0≤p)(h:p≤sg.length):saI sg p (p+1) (sg.length+1):=⟨by omega,rfl⟩
theorem a1F{sg:List Sg}{p i:Int}{N:Nat}(h0:0≤p)(h:saI sg p i N)(h1:i+1<sg.length)(hk:(sgO sg i).kind=1)(ht:((sgO sg (i+1)).text==[44])=true):saI sg p (i+1+1) (N-1)∧N-1<N:=by
 obtain⟨⟨a1,a2,a3⟩,h4⟩:=h
 match N with
 |0=>omega
 |N+1=>
  refine⟨⟨⟨by omega,by omega,by simp;omega⟩,?_⟩,by omega⟩
  rw[h4,Ef,if_pos ⟨h1,hk⟩,if_pos (by simpa using ht)]
  simp only[Nat.add_sub_cancel];congr 1;omega
theorem b3C{sg:List Sg}{p i:Int}{N:Nat}(h:saI sg p i N)(h1:i+1<sg.length)(hk:(sgO sg i).kind=1)(ht:((sgO sg (i+1)).text==[44])=false):Ef sg (sg.length+1) (p+1)=i+1:=by
 obtain⟨⟨a1,a2,a3⟩,h4⟩:=h
 match N with
 |0=>omega
 |N+1=>rw[h4,Ef,if_pos ⟨h1,hk⟩,if_neg (by simpa using ht)]
theorem b3D{sg:List Sg}{p i:Int}{N:Nat}(h:saI sg p i N)(h1:¬i+1<sg.length):Ef sg (sg.length+1) (p+1)=i:=by
 rw[h.2]
 match N with
 |0=>rfl
 |N+1=>rw[Ef,if_neg (fun hh=>h1 hh.1)]
theorem b3E{sg:List Sg}{p i:Int}{N:Nat}(h:saI sg p i N)(hk:(sgO sg i).kind≠1):Ef sg (sg.length+1) (p+1)=i:=by
 rw[h.2]
 match N with
 |0=>rfl
 |N+1=>rw[Ef,if_neg (fun hh=>hk hh.2)]
theorem b3F{sg:List Sg}{x:Gs}(h:isG sg x 4 [40]=false):false=arG sg x:=by simp [arG,h]
theorem UV{sg:List Sg}{x:Gs}{i:Int}{b:Bool}(h:isG sg x 4 [40]=true)(hi:Ef sg (sg.length+1) (x.pos+1)=i)(hb:b=EV sg i):b=arG sg x:=by
 rw[arG,h,Bool.true_and,JA];simp only[hi];exact hb
theorem a1G{sg:List Sg}{i k:Int}{e:Sg}(he:sg[i.toNat]? =some e)(hk:e.kind=k):(sgO sg i).kind=k:=by rw[IH he];exact hk
theorem a1H{sg:List Sg}{i:Int}{e:Sg}{m:List UInt8}{b:Bool}(he:sg[i.toNat]? =some e)(hk:(e.text==m)=b):((sgO sg i).text==m)=b:=by rw[IH he];exact hk
def lqJ(sg:List Sg)(one:Ps→PR)(m:List UInt8)(x y:Gs)(ks:List Int)(N:Nat):Prop:=Ia sg one m x y ks N∧(y.bad=false→x.bad=false)
theorem a1I{sg:List Sg}{one:Ps→PR}{m:List UInt8}{x:Gs}(h:gsOk sg x):lqJ sg one m x x [] (sg.length+1):=⟨b0N h,fun h=>h⟩
theorem IT{s:ST}{one:Ps→PR}{m:List UInt8}{x y:Gs}{ks:List Int}{N:Nat}(hs:sgB s.sg)(h:lqJ s.sg one m x y ks N):rOk s y:=b1o hs h
theorem OQ{s:ST}{one:Ps→PR}{m:List UInt8}{x y:Gs}{ks:List Int}{N:Nat}(hs:sgB s.sg)(h:lqJ s.sg one m x y ks N):ks.length≤3000:=b1m hs h
theorem b3G{s:ST}{one:Ps→PR}{m:List UInt8}{x y:Gs}{ks:List Int}{N n:Nat}(hx:wQ 11 n s x)(h:lqJ s.sg one m x y ks N)(hb:y.bad=false)(hq:isG s.sg y 4 m=false):vQ 11 n s (Aw s.sg y m):=by
 rw[Di hq];exact⟨b1n hx.1.1.1.1 h hb hx.1.1.2 hx.1.2,hx.2⟩
theorem Rt{sg:List Sg}{one:Ps→PR}{m:List UInt8}{x y:Gs}{ks:List Int}{N:Nat}{z:Int×Gs}(h:lqJ sg one m x y ks N)(hq:isG sg y 4 m=false)(hz:Ah sg (Aw sg y m) one z)(hc:isG sg z.2 4 [44]=true):
 lqJ sg one m x (Aw sg z.2 [44]) (ks++[z.1]) (N-1)∧N-1<N:=by
 rw[Di hq] at hz;exact b1l h hz hq hc
theorem a1J{s:ST}{one:Ps→PR}{m:List UInt8}{ks0:List Int}{x y:Gs}{ks:List Int}{N:Nat}{z:Int×Gs}(hs:sgB s.sg)(h:lqJ s.sg one m x y ks N)(hq:isG s.sg y 4 m=false)(hz:Ah s.sg (Aw s.sg y m) one z)(hc:isG s.sg z.2 4 [44]=false):
 vlQ s.sg one m ks0 x (ks0++ks++[z.1],Au s.sg (Aw s.sg z.2 [44]) m):=by
 rw[Di hq] at hz
 have a:=b1k h hz hq hc
 refine⟨_,⟨a,?_⟩,?_⟩
 ·have:=OQ hs h;simp;omega
 ·simp only[List.append_assoc]
theorem a1K{s:ST}{one:Ps→PR}{m:List UInt8}{ks0:List Int}{x y:Gs}{ks:List Int}{N:Nat}(hs:sgB s.sg)(h:lqJ s.sg one m x y ks N)(hb:y.bad=true):vlQ s.sg one m ks0 x (ks0++ks,y):=by
 refine⟨_,⟨b0O h.1 hb,?_⟩,by simp only[Ro hb]⟩
 have:=OQ hs h;simp only;omega
theorem a1L{s:ST}{one:Ps→PR}{m:List UInt8}{ks0:List Int}{x y:Gs}{ks:List Int}{N:Nat}(hs:sgB s.sg)(h:lqJ s.sg one m x y ks N)(hq:isG s.sg y 4 m=true):vlQ s.sg one m ks0 x (ks0++ks,Aw s.sg y m):=by
 refine⟨_,⟨b0P h.1 hq,?_⟩,by simp only[Eg hq,IR hq]⟩
 have:=OQ hs h;simp only;omega
theorem EX{s:ST}{y:Gs}{m:List UInt8}(h:rOk s y):rOk s (Aw s.sg y m):=by
 cases hq:isG s.sg y 4 m with
 |true=>rw[Eg hq];exact⟨h.1,FG h.2 (CM hq (by omega)).2⟩
 |false=>rw[Di hq];exact h
theorem GW{s:ST}{y:Gs}{k:Int}(h:rOk s y)(hk:k≠0):rOk s (Bf s.sg y k):=by
 unfold Bf;split
 ·rename_i hq;exact⟨h.1,FG h.2 (Rk hk hq).2⟩
 ·exact h
theorem MH{s:ST}{y:Gs}{m:List UInt8}(h:rOk s y):Ah s.sg (Aw s.sg y m) (BP s.sg) (AU (Bf s.sg (Aw s.sg y m) 1),Aq (Bf s.sg (Aw s.sg y m) 1) ⟨1,Bv s.sg (Aw s.sg y m) 1,[],false⟩):=b3l h.1 (EX h).2
theorem UW{s:ST}{y:Gs}{m:List UInt8}(h:rOk s y):rOk s (Aq (Bf s.sg (Aw s.sg y m) 1) ⟨1,Bv s.sg (Aw s.sg y m) 1,[],false⟩):=⟨h.1,Fk (MH (m:=m) h)⟩
attribute [local irreducible] pE Bu CJ fnR Ah Bx gsOk Au Cs Aq CN Ed Aw DH DQ AU Ct pkG isG nmG kdG Bf Bv BP vlQ lqJ saI
def DL:Sig:= {X:=ST×Int×Int×Bool×List Nd,args:=fun x=>[srd x.1 (xg x)],pre:=fun x=>rOk x.1 (xg x),Y:=Unit,post:=fun x y=>True,res:=fun x y=> .bool (arG x.1.sg (xg x)),outs:=fun x y=>[srd x.1 (xg x)],keep:=true}
def Ru(x:ST×Int×Int×Bool×List Nd):LS:= {ι:=Int×Nat,inv:=fun i=>saI x.1.sg (xg x).pos i.1 i.2,regs:=fun i=>[(0,srd x.1 (xg x)),(3,.int .i64 i.1)],als:=[],meas:=fun i=>i.2}
theorem b3H:Al G Tryz.prog 226 DL:=
 vcFun_okP [(171,0,DJ)] [] false (fun x=>[(5,Ru x)]) Tryz.func226 rfl (by decide) ⟨ON,trivial⟩ (fun(x:ST×Int×Int×Bool×List Nd)=>True∧cA DJ [srd x.1 (xg x),.int .i64 (4:Int),.str #[(40:UInt8)].toList] fun x_1 y=>Aa (!isG x_1.1.sg (xh x_1) x_1.2.2.2.2.2.1 x_1.2.2.2.2.2.2) (rA DL x [.bool false,srd x_1.1 (xh x_1)]) (inR IntKind.i64 ((xg x).pos+(1:Int))∧eA (Ru x) [srd x_1.1 (xh x_1),.int .i64 ((xg x).pos+(1:Int))]∧∀(i:Int×Nat),saI x.1.sg (xg x).pos i.1 i.2→inR IntKind.i64 (i.1+(1:Int))∧Aa (decide (i.1+(1:Int)<(↑(List.length x.1.sg):Int))) (((0:Int)≤i.1∧i.1<(↑(List.length x.1.sg):Int))∧∀(e:Sg),x.1.sg[Int.toNat i.1]? =some e→Aa (e.kind==(1:Int)) (inR IntKind.i64 (i.1+(1:Int))∧((0:Int)≤i.1+(1:Int)∧i.1+(1:Int)<(↑(List.length x.1.sg):Int))∧∀(e:Sg),x.1.sg[Int.toNat (i.1+(1:Int))]? =some e→Aa (!e.text== #[(44:UInt8)].toList) (inR IntKind.i64 (i.1+(1:Int)+(1:Int))∧Aa (decide (i.1+(1:Int)+(1:Int)<(↑(List.length x.1.sg):Int))) (((0:Int)≤i.1+(1:Int)∧i.1+(1:Int)<(↑(List.length x.1.sg):Int))∧∀(e:Sg),x.1.sg[Int.toNat (i.1+(1:Int))]? =some e→Aa (e.text== #[(41:UInt8)].toList) (((0:Int)≤i.1+(1:Int)∧i.1+(1:Int)<(↑(List.length x.1.sg):Int))∧∀(e:Sg),x.1.sg[Int.toNat (i.1+(1:Int))]? =some e→Aa (e.kind==(4:Int)) (inR IntKind.i64 (i.1+(1:Int)+(1:Int))∧((0:Int)≤i.1+(1:Int)+(1:Int)∧i.1+(1:Int)+(1:Int)<(↑(List.length x.1.sg):Int))∧∀(e:Sg),x.1.sg[Int.toNat (i.1+(1:Int)+(1:Int))]? =some e→Aa (e.text== #[(61:UInt8),(62:UInt8)].toList) (inR IntKind.i64 (i.1+(1:Int)+(1:Int))∧((0:Int)≤i.1+(1:Int)+(1:Int)∧i.1+(1:Int)+(1:Int)<(↑(List.length x.1.sg):Int))∧∀(e:Sg),x.1.sg[Int.toNat (i.1+(1:Int)+(1:Int))]? =some e→rA DL x [.bool (e.kind==(4:Int)),srd x.1 (xg x)]) (rA DL x [.bool false,srd x.1 (xg x)])) (rA DL x [.bool false,srd x.1 (xg x)])) (rA DL x [.bool false,srd x.1 (xg x)])) (rA DL x [.bool false,srd x.1 (xg x)])) (inR IntKind.i64 (i.1+(1:Int)+(1:Int))∧eN (Ru x) i [srd x.1 (xg x),.int .i64 (i.1+(1:Int)+(1:Int))])) (inR IntKind.i64 (i.1+(1:Int))∧Aa (decide (i.1+(1:Int)<(↑(List.length x.1.sg):Int))) (((0:Int)≤i.1∧i.1<(↑(List.length x.1.sg):Int))∧∀(e:Sg),x.1.sg[Int.toNat i.1]? =some e→Aa (e.text== #[(41:UInt8)].toList) (((0:Int)≤i.1∧i.1<(↑(List.length x.1.sg):Int))∧∀(e:Sg),x.1.sg[Int.toNat i.1]? =some e→Aa (e.kind==(4:Int)) (inR IntKind.i64 (i.1+(1:Int))∧((0:Int)≤i.1+(1:Int)∧i.1+(1:Int)<(↑(List.length x.1.sg):Int))∧∀(e:Sg),x.1.sg[Int.toNat (i.1+(1:Int))]? =some e→Aa (e.text== #[(61:UInt8),(62:UInt8)].toList) (inR IntKind.i64 (i.1+(1:Int))∧((0:Int)≤i.1+(1:Int)∧i.1+(1:Int)<(↑(List.length x.1.sg):Int))∧∀(e:Sg),x.1.sg[Int.toNat (i.1+(1:Int))]? =some e→rA DL x [.bool (e.kind==(4:Int)),srd x.1 (xg x)]) (rA DL x [.bool false,srd x.1 (xg x)])) (rA DL x [.bool false,srd x.1 (xg x)])) (rA DL x [.bool false,srd x.1 (xg x)])) (rA DL x [.bool false,srd x.1 (xg x)]))) (inR IntKind.i64 (i.1+(1:Int))∧Aa (decide (i.1+(1:Int)<(↑(List.length x.1.sg):Int))) (((0:Int)≤i.1∧i.1<(↑(List.length x.1.sg):Int))∧∀(e:Sg),x.1.sg[Int.toNat i.1]? =some e→Aa (e.text== #[(41:UInt8)].toList) (((0:Int)≤i.1∧i.1<(↑(List.length x.1.sg):Int))∧∀(e:Sg),x.1.sg[Int.toNat i.1]? =some e→Aa (e.kind==(4:Int)) (inR IntKind.i64 (i.1+(1:Int))∧((0:Int)≤i.1+(1:Int)∧i.1+(1:Int)<(↑(List.length x.1.sg):Int))∧∀(e:Sg),x.1.sg[Int.toNat (i.1+(1:Int))]? =some e→Aa (e.text== #[(61:UInt8),(62:UInt8)].toList) (inR IntKind.i64 (i.1+(1:Int))∧((0:Int)≤i.1+(1:Int)∧i.1+(1:Int)<(↑(List.length x.1.sg):Int))∧∀(e:Sg),x.1.sg[Int.toNat (i.1+(1:Int))]? =some e→rA DL x [.bool (e.kind==(4:Int)),srd x.1 (xg x)]) (rA DL x [.bool false,srd x.1 (xg x)])) (rA DL x [.bool false,srd x.1 (xg x)])) (rA DL x [.bool false,srd x.1 (xg x)])) (rA DL x [.bool false,srd x.1 (xg x)])))) (fun x=>by kernel_rfl) fun(x:ST×Int×Int×Bool×List Nd) (hx:rOk x.1 (xg x))=>(by
 dsimp only[cA,eA,eN,Ru,Bt,AY,rA,DL,DJ,CG,sgs,srd,Av,AA,mvL,lnL,mvE,lnE,Bi]
 obtain⟨s,p,d,b,ns⟩:=x;dsimp only[xg,xh] at hx ⊢
 have hx:rOk s ⟨p,d,b,ns⟩:=hx;have hs:=Gh hx;dsimp only at hs
 (repeat' first|(with_reducible first|rfl|exact True.intro|apply AL|apply And.intro|((first|apply AB|apply AJ|apply AC|apply AK)<;>intro _))|(apply Az<;>intro _)|apply AI|refine Ag () ?_ ?_|((first|apply AP|apply AO|apply AN|apply AM|apply AH|apply AG|apply AF|apply AE|apply AD)<;>try dsimp only)|apply Ag|(refine Prod.forall.2 ?_;intro _;try dsimp only)|(intro _;try dsimp only))
 all_goals(try dsimp only[xg,xh,yG,yS,iG] at*)
 all_goals first
  |(show Nat;skip)
  |rfl
  |exact hx
  |exact b3B hs.1.1.1 hs.1.1.2
  |exact b3F (x:=⟨p,d,b,ns⟩) ‹_›
  |exact(a1F hs.1.1.1 ‹_› ‹_› (a1G ‹_› ‹_›) (a1H ‹_› ‹_›)).1
  |(have hq:=b3A (show saI _ _ _ _ by assumption);(try simp only[AR]);omega)
  |omega
  |skip
 all_goals first
  |exact(a1F hs.1.1.1 ‹_› ‹_› (a1G ‹_› ‹_›) (a1H ‹_› ‹_›)).2
  |skip
 all_goals(repeat(rename s.sg[_]? =some _=>hq;have hq2:=IH hq;clear hq;subst hq2))
 all_goals first
  |(refine UV (x:=⟨p,d,b,ns⟩) ‹_› (b3C ‹_› ‹_› ‹_› ‹_›) ?_;rw[Bool.eq_iff_iff];simp [EV,IL, *];done)
  |(refine UV (x:=⟨p,d,b,ns⟩) ‹_› (b3D ‹_› ‹_›) ?_;rw[Bool.eq_iff_iff];simp [EV,IL, *];done)
  |(refine UV (x:=⟨p,d,b,ns⟩) ‹_› (b3E ‹_› ‹_›) ?_;rw[Bool.eq_iff_iff];simp [EV,IL, *];done)
  |skip)
def FJ(n:Nat):Sig:= {X:=ST×Int×Int×Bool×List Nd×List UInt8×List Int,args:=fun x=>[srd x.1 (xh x),.str x.2.2.2.2.2.1,Ae x.2.2.2.2.2.2],pre:=fun x=>wQ 11 n x.1 (xh x)∧x.2.2.2.2.2.2.length≤1,Y:=List Int×Int×Int×Bool×List Nd,post:=fun x y=>vlQ x.1.sg (pE x.1.sg n .value) x.2.2.2.2.2.1 x.2.2.2.2.2.2 (xh x) (yS y),res:=fun x y=>Ae y.1,outs:=fun x y=>[srd x.1 (yG y.2),.top,.top],keep:=true}
def Rv(n:Nat)(x:ST×Int×Int×Bool×List Nd×List UInt8×List Int):LS:= {ι:=Int×Int×Bool×List Nd×List Int×Nat,inv:=fun i=>lqJ x.1.sg (pE x.1.sg n .value) x.2.2.2.2.2.1 (xh x) (iG i) i.2.2.2.2.1 i.2.2.2.2.2,regs:=fun i=>[(0,srd x.1 (iG i)),(1,.str x.2.2.2.2.2.1),(2,Ae (x.2.2.2.2.2.2++i.2.2.2.2.1))],als:=[],meas:=fun i=>i.2.2.2.2.2}
theorem UX(n:Nat)(h:qAll G n):Al G Tryz.prog 188 (FJ n):=
 vcFun_okP [(142,0,BQ),(172,0,(KX n)),(141,0,BF)] [(26,⟨Int,Bh⟩)] false (fun x=>[(1,Rv n x)]) Tryz.func188 rfl (by decide) ⟨GU,h.val,Hy,trivial⟩ (fun(x:ST×Int×Int×Bool×List Nd×List UInt8×List Int)=>True∧eA (Rv n x) [srd x.1 (xh x),.str x.2.2.2.2.2.1,Ae x.2.2.2.2.2.2]∧∀(i:Int×Int×Bool×List Nd×List Int×Nat),lqJ x.1.sg (pE x.1.sg n NT.value) x.2.2.2.2.2.1 (xh x) (iG i) i.2.2.2.2.1 i.2.2.2.2.2→Aa (!(iG i).bad) (cA BQ [srd x.1 (iG i),.str x.2.2.2.2.2.1] fun x_1 y=>Aa (!isG x_1.1.sg (xh x_1) (4:Int) x_1.2.2.2.2.2) (cA (KX n) [srd x_1.1 (Aw x_1.1.sg (xh x_1) x_1.2.2.2.2.2)] fun x_2 y=>∃(x_3:Int),y.1=x_3∧∃(zs:List Int),Ae [x_3]=Ae zs∧BG Bh∧Bb (List.length (x.2.2.2.2.2.2++i.2.2.2.2.1)+List.length zs) (8:Nat)∧cA BQ [srd x_2.1 (yG y.2),.str #[(44:UInt8)].toList] fun x_4 y=>Aa (!isG x_4.1.sg (xh x_4) (4:Int) x_4.2.2.2.2.2) (cA BF [srd x_4.1 (Aw x_4.1.sg (xh x_4) x_4.2.2.2.2.2),.str x.2.2.2.2.2.1] fun x_5 y=>rA (FJ n) x [Ae (x.2.2.2.2.2.2++i.2.2.2.2.1++zs),srd x_5.1 (Au x_5.1.sg (xh x_5) x_5.2.2.2.2.2),.top,.top]) (eN (Rv n x) i [srd x_4.1 (Aw x_4.1.sg (xh x_4) x_4.2.2.2.2.2),.str x.2.2.2.2.2.1,Ae (x.2.2.2.2.2.2++i.2.2.2.2.1++zs)])) (rA (FJ n) x [Ae (x.2.2.2.2.2.2++i.2.2.2.2.1),srd x_1.1 (Aw x_1.1.sg (xh x_1) x_1.2.2.2.2.2),.top,.top])) (rA (FJ n) x [Ae (x.2.2.2.2.2.2++i.2.2.2.2.1),srd x.1 (iG i),.top,.top])) (fun x=>by kernel_rfl) fun(x:ST×Int×Int×Bool×List Nd×List UInt8×List Int) (hx:wQ 11 n x.1 (xh x)∧x.2.2.2.2.2.2.length≤1)=>(by
 dsimp only[cA,eA,eN,Rv,Bt,Ae,AY,rA,BQ,KX,FJ,BF,CG,sgs,srd,Av,AA,mvL,lnL,mvE,lnE,Bi]
 obtain⟨s,p,d,b,ns,m,ks0⟩:=x;dsimp only[xg,xh] at hx ⊢
 obtain⟨hx,hk0⟩:=hx
 have hx:wQ 11 n s ⟨p,d,b,ns⟩:=hx
 have hs:=hx.1.1.1.1;have h1:=hx.1.1.1
 (repeat' first|(with_reducible first|rfl|exact True.intro|apply AL|apply And.intro|((first|apply AB|apply AJ|apply AC|apply AK)<;>intro _))|(apply Az<;>intro _)|apply AI|refine Ag () ?_ ?_|((first|apply AP|apply AO|apply AN|apply AM|apply AH|apply AG|apply AF|apply AE|apply AD)<;>try dsimp only)|apply Ag|(refine Prod.forall.2 ?_;intro _;try dsimp only)|(intro _;try dsimp only))
 all_goals(try dsimp only[xg,xh,yG,yS,iG] at*)
 all_goals(try simp only[FH] at*)
 all_goals first
  |(show Nat;skip)
  |rfl
  |exact h1
  |exact a1I h1.2
  |exact IT hs ‹_›
  |exact b3G hx ‹_› ‹_› ‹_›
  |exact EH h1 ‹_›
  |exact EX (EH h1 ‹_›)
  |exact(Rt ‹_› ‹_› ‹_› ‹_›).1
  |exact a1J hs ‹_› ‹_› ‹_› ‹_›
  |exact a1K hs ‹_› ‹_›
  |exact a1L hs ‹_› ‹_›
  |(simp;done)
  |(have hq:=OQ hs (show lqJ _ _ _ _ _ _ _ by assumption);(try simp only[Bb,List.length_append,List.length_cons,List.length_nil]);omega)
  |skip
 all_goals first
  |exact(Rt ‹_› ‹_› ‹_› ‹_›).2
  |(simp;done)
  |skip)
def FK:Sig:= {X:=ST×Int×Int×Bool×List Nd,args:=fun x=>[srd x.1 (xg x)],pre:=fun x=>rOk x.1 (xg x),Y:=List Int×Int×Int×Bool×List Nd,post:=fun x y=>vlQ x.1.sg (BP x.1.sg) [41] [] (Au x.1.sg (xg x) [40]) (yS y),res:=fun x y=>Ae y.1,outs:=fun x y=>[srd x.1 (yG y.2)],keep:=true}
def Rw(x:ST×Int×Int×Bool×List Nd):LS:= {ι:=Int×Int×Bool×List Nd×List Int×Nat,inv:=fun i=>lqJ x.1.sg (BP x.1.sg) [41] (Au x.1.sg (xg x) [40]) (iG i) i.2.2.2.2.1 i.2.2.2.2.2,regs:=fun i=>[(0,srd x.1 (iG i)),(3,Ae i.2.2.2.2.1)],als:=[],meas:=fun i=>i.2.2.2.2.2}
theorem UY:Al G Tryz.prog 143 FK:=
 vcFun_okP [(142,0,BQ),(141,0,BF),(117,0,Bm),(138,0,Cm)] [(26,⟨Int,Bh⟩)] false (fun x=>[(3,Rw x)]) Tryz.func143 rfl (by decide) ⟨GU,Hy,GV,JI,trivial⟩ (fun(x:ST×Int×Int×Bool×List Nd)=>True∧cA BF [srd x.1 (xg x),.str #[(40:UInt8)].toList] fun x_1 y=>eA (Rw x) [srd x_1.1 (Au x_1.1.sg (xh x_1) x_1.2.2.2.2.2),Ae []]∧∀(i:Int×Int×Bool×List Nd×List Int×Nat),lqJ x.1.sg (BP x.1.sg) [(41:UInt8)] (Au x.1.sg (xg x) [(40:UInt8)]) (iG i) i.2.2.2.2.1 i.2.2.2.2.2→Aa (!(iG i).bad) (cA BQ [srd x.1 (iG i),.str #[(41:UInt8)].toList] fun x_2 y=>Aa (!isG x_2.1.sg (xh x_2) (4:Int) x_2.2.2.2.2.2) (cA Cm [srd x_2.1 (Aw x_2.1.sg (xh x_2) x_2.2.2.2.2.2),.int .i64 (1:Int)] fun x_3 y=>cA Bm [srd x_3.1 (Bf x_3.1.sg (xh x_3) x_3.2.2.2.2.2),.int .i64 (1:Int),.str (Bv x_3.1.sg (xh x_3) x_3.2.2.2.2.2),Ae []] fun x_4 y=>∃(x_5:Int),AU (xh x_4)=x_5∧∃(zs:List Int),Ae [x_5]=Ae zs∧BG Bh∧Bb (List.length i.2.2.2.2.1+List.length zs) (8:Nat)∧cA BQ [srd x_4.1 (Aq (xh x_4) {kind:=x_4.2.2.2.2.2.1,text:=x_4.2.2.2.2.2.2.1,kids:=x_4.2.2.2.2.2.2.2,blank:=false}),.str #[(44:UInt8)].toList] fun x_6 y=>Aa (!isG x_6.1.sg (xh x_6) (4:Int) x_6.2.2.2.2.2) (cA BF [srd x_6.1 (Aw x_6.1.sg (xh x_6) x_6.2.2.2.2.2),.str #[(41:UInt8)].toList] fun x_7 y=>rA FK x [Ae (i.2.2.2.2.1++zs),srd x_7.1 (Au x_7.1.sg (xh x_7) x_7.2.2.2.2.2)]) (eN (Rw x) i [srd x_6.1 (Aw x_6.1.sg (xh x_6) x_6.2.2.2.2.2),Ae (i.2.2.2.2.1++zs)])) (rA FK x [Ae i.2.2.2.2.1,srd x_2.1 (Aw x_2.1.sg (xh x_2) x_2.2.2.2.2.2)])) (rA FK x [Ae i.2.2.2.2.1,srd x.1 (iG i)])) (fun x=>by kernel_rfl) fun(x:ST×Int×Int×Bool×List Nd) (hx:rOk x.1 (xg x))=>(by
 dsimp only[cA,eA,eN,Rw,Bt,Ae,AY,rA,BQ,FK,Bm,Cm,BF,CG,sgs,srd,Av,AA,mvL,lnL,mvE,lnE,Bi]
 obtain⟨s,p,d,b,ns⟩:=x;dsimp only[xg,xh] at hx ⊢
 have h1:rOk s ⟨p,d,b,ns⟩:=hx;have hs:=h1.1
 have t:=Gl (m:=[40]) h1
 (repeat' first|(with_reducible first|rfl|exact True.intro|apply AL|apply And.intro|((first|apply AB|apply AJ|apply AC|apply AK)<;>intro _))|(apply Az<;>intro _)|apply AI|refine Ag () ?_ ?_|((first|apply AP|apply AO|apply AN|apply AM|apply AH|apply AG|apply AF|apply AE|apply AD)<;>try dsimp only)|apply Ag|(refine Prod.forall.2 ?_;intro _;try dsimp only)|(intro _;try dsimp only))
 all_goals(try dsimp only[xg,xh,yG,yS,iG] at*)
 all_goals(try simp only[FH] at*)
 all_goals first
  |(show Nat;skip)
  |rfl
  |exact h1
  |omega
  |exact a1I t.1.2
  |exact IT hs ‹_›
  |exact EX (IT hs ‹_›)
  |exact GW (EX (IT hs ‹_›)) (by omega)
  |exact UW (IT hs ‹_›)
  |exact EX (UW (IT hs ‹_›))
  |exact(Rt ‹_› ‹_› (MH (IT hs ‹_›)) ‹_›).1
  |exact a1J (ks0:=[]) hs ‹_› ‹_› (MH (IT hs ‹_›)) ‹_›
  |exact a1K (ks0:=[]) hs ‹_› ‹_›
  |exact a1L (ks0:=[]) hs ‹_› ‹_›
  |(have hq:=OQ hs (show lqJ _ _ _ _ _ _ _ by assumption);(try simp only[Bb,List.length_append,List.length_cons,List.length_nil]);omega)
  |skip
 all_goals first
  |exact(Rt ‹_› ‹_› (MH (IT hs ‹_›)) ‹_›).2
  |skip)
end Go.My
end
section
set_option linter.unusedVariables false
set_option linter.unusedSimpArgs false
namespace Go.My
open Go.Eng Go.Proofs
variable {G:GInv}
theorem IU{sg:List Sg}{x:Gs}{k:Int}(h:kdG sg x k=false)(hk:k≠1):(pkG sg x 0).kind≠k:=by
 rw[OO hk] at h;simpa using h
theorem b3I{sg:List Sg}{x:Gs}{n:Nat}{k:Int}{y:Gs}(hs:sgB sg)(h:gsOk sg x)(h1:kdG sg x 1=false)(hk:(pkG sg x 0).kind=1)(hy:y=Bs x):Ah sg x (pE sg (n+1) .base) (k,y):=by
 have a:=a0Q (n:=n) hs h hk
 rw[Ib] at h1
 rw[DQ,DH,if_neg (by simp [h1]),if_neg (by simp [h1])] at a
 subst hy
 exact MF a h rfl (Int.le_refl _) rfl (fun hb=>by simp [Bs] at hb)
theorem b3J{sg:List Sg}{x:Gs}{n:Nat}(hs:sgB sg)(h:gsOk sg x)(h1:kdG sg x 1=true):Ah sg x (pE sg (n+1) .base) (AU (Bf sg x 1),Aq (Bf sg x 1) ⟨1,Bv sg x 1,[],false⟩):=by
 have hn:=h1
 rw[Ib] at hn
 have a:=a0Q (n:=n) hs h (by simp [nmG] at hn;exact hn.1)
 rw[DQ,DH,if_pos hn,if_pos hn] at a
 exact MG hs h (by omega) h1 a
theorem a1M{sg:List Sg}{x:Gs}{n:Nat}{k:Int}(hs:sgB sg)(h:gsOk sg x)(hk:k=2∨k=3)(h1:kdG sg x k=true):Ah sg x (pE sg (n+1) .base) (AU (Bf sg x k),Aq (Bf sg x k) ⟨k,Bv sg x k,[],false⟩):=by
 have hn:=h1
 rw[OO (by omega)] at hn
 exact MG hs h (by omega) h1 (b1e hs h (by simpa using hn) hk)
theorem UZ{sg:List Sg}{x:Gs}{m:List UInt8}(hq:isG sg x 4 m=true):(pkG sg x 0).kind≠1:=by
 simp [isG] at hq;rw[hq.1];omega
theorem b3K{s:ST}{x:Gs}{n:Nat}{v:List Int×Gs}(h:rOk s x)(h1:kdG s.sg x 1=false)(h2:kdG s.sg x 2=false)(h3:kdG s.sg x 3=false)(hq:isG s.sg x 4 [91]=true)(hv:vlQ s.sg (pE s.sg n .value) [93] [] (Aw s.sg x [91]) v):
 Ah s.sg x (pE s.sg (n+1) .base) (AU v.2,Aq v.2 ⟨4,[],v.1,false⟩):=by
 rw[Eg hq] at hv
 obtain⟨l,⟨a,b⟩,rfl⟩:=hv
 exact Hz a.1 ⟨by simp,by simp;omega⟩ (b1f h.2 (UZ hq) (IU h2 (by omega)) (IU h3 (by omega)) hq a b)
theorem b3L{s:ST}{x:Gs}{n:Nat}{v:List Int×Gs}{z:Int×Gs}(hm:sgM s.sg)(h:rOk s x)(h1:kdG s.sg x 1=false)(h2:kdG s.sg x 2=false)(h3:kdG s.sg x 3=false)(hn:isG s.sg x 4 [91]=false)(ha:arG s.sg (Aw s.sg x [91])=true)
 (hv:vlQ s.sg (BP s.sg) [41] [] (Au s.sg (Aw s.sg x [91]) [40]) v) (hz:Ah s.sg (Au s.sg v.2 [61,62]) (pE s.sg n .pick) z):Ah s.sg x (pE s.sg (n+1) .base) (AU z.2,Aq z.2 ⟨9,[],v.1++[z.1],false⟩):=by
 rw[Di hn] at ha hv
 simp only[arG,Bool.and_eq_true] at ha
 obtain⟨l,⟨a,b⟩,rfl⟩:=hv
 refine b3y hm h.2 (UZ ha.1) (IU h2 (by omega)) (IU h3 (by omega)) hn ha.1 (fun s0 hs=> ?_) (b1i (l:=l) h.2 a b hz)
 obtain⟨_,rfl⟩:=Er.1 hs;exact ha.2
theorem b3M{s:ST}{x:Gs}{n:Nat}{z:Int×Gs}(hm:sgM s.sg)(h:rOk s x)(h1:kdG s.sg x 1=false)(h2:kdG s.sg x 2=false)(h3:kdG s.sg x 3=false)(hn:isG s.sg x 4 [91]=false)(ha:arG s.sg (Aw s.sg x [91])=false)(hb:(Au s.sg (Aw s.sg x [91]) [40]).bad=false)
 (hz:Ah s.sg (Au s.sg (Aw s.sg x [91]) [40]) (pE s.sg n .value) z):Ah s.sg x (pE s.sg (n+1) .base) (AU (Au s.sg z.2 [41]),Aq (Au s.sg z.2 [41]) ⟨11,[],[z.1],false⟩):=by
 rw[Di hn] at ha hb hz
 have hq:isG s.sg x 4 [40]=true:=by
  cases hq:isG s.sg x 4 [40] with
  |true=>rfl
  |false=>rw[OP hq] at hb;cases hb
 rw[IR hq] at hz
 simp only[arG,hq,Bool.true_and] at ha
 refine b3z hm h.2 (UZ hq) (IU h2 (by omega)) (IU h3 (by omega)) hn hq (fun s0 hs=> ?_) hz
 obtain⟨_,rfl⟩:=Er.1 hs;exact ha
theorem b3N{s:ST}{x:Gs}{n:Nat}{k:Int}(h:rOk s x)(h1:kdG s.sg x 1=false)(h2:kdG s.sg x 2=false)(h3:kdG s.sg x 3=false)(hn:isG s.sg x 4 [91]=false)(hx:x.bad=false)(hb:(Au s.sg (Aw s.sg x [91]) [40]).bad=true):
 Ah s.sg x (pE s.sg (n+1) .base) (k,Au s.sg (Aw s.sg x [91]) [40]):=by
 rw[Di hn] at hb ⊢
 have hq:isG s.sg x 4 [40]=false:=by
  cases hq:isG s.sg x 4 [40] with
  |false=>rfl
  |true=>rw[IR hq] at hb;simp only[As] at hb;rw[hx] at hb;cases hb
 rw[OP hq]
 rcases Classical.em ((pkG s.sg x 0).kind=1) with e|e
 ·exact b3I h.1 h.2 h1 e rfl
 ·exact b1h h.2 e (IU h2 (by omega)) (IU h3 (by omega)) hn hq
theorem b3O{s:ST}{x:Gs}{n:Nat}(hx:wQ 1 (n+1) s x)(hq:isG s.sg x 4 [91]=true):wQ 11 n s (Aw s.sg x [91]):=by
 rw[Eg hq];exact⟨(a0R hq (by omega) hx.1.1.1 hx.1.1.2 hx.1.2 (by omega)).1,hx.2⟩
theorem b3P{s:ST}{x:Gs}{n:Nat}{v:List Int×Gs}(hx:wQ 1 (n+1) s x)(hn:isG s.sg x 4 [91]=false)(ha:arG s.sg (Aw s.sg x [91])=true)(hv:vlQ s.sg (BP s.sg) [41] [] (Au s.sg (Aw s.sg x [91]) [40]) v):vQ 10 n s (Au s.sg v.2 [61,62]):=by
 rw[Di hn] at ha hv
 simp only[arG,Bool.and_eq_true] at ha
 obtain⟨l,a,rfl⟩:=hv
 exact⟨b1q (x:=x) (n:=n) (l:=l) hx.1.1.1 (hx.1.1.2 (CM ha.1 (by omega)).1) ha.1 (by have:=hx.1.2;omega) a,hx.2⟩
theorem b3Q{s:ST}{x:Gs}{n:Nat}(hx:wQ 1 (n+1) s x)(hn:isG s.sg x 4 [91]=false)(hb:(Au s.sg (Aw s.sg x [91]) [40]).bad=false):vQ 11 n s (Au s.sg (Aw s.sg x [91]) [40]):=by
 rw[Di hn] at hb ⊢
 have hq:isG s.sg x 4 [40]=true:=by
  cases hq:isG s.sg x 4 [40] with
  |true=>rfl
  |false=>rw[OP hq] at hb;cases hb
 rw[IR hq];exact⟨(a0R hq (by omega) hx.1.1.1 hx.1.1.2 hx.1.2 (by omega)).2,hx.2⟩
theorem Va{s:ST}{one:Ps→PR}{m:List UInt8}{ks0:List Int}{x:Gs}{y:List Int×Gs}(hs:sgB s.sg)(h:vlQ s.sg one m ks0 x y):rOk s y.2:=(UU hs h).1
theorem Vb{s:ST}{one:Ps→PR}{m:List UInt8}{ks0:List Int}{x:Gs}{y:List Int×Gs}(hs:sgB s.sg)(h:vlQ s.sg one m ks0 x y):y.1.length≤ks0.length+3001:=(UU hs h).2.1
def eqJ(sg:List Sg)(n:Nat)(x y:Gs)(k:Int)(N:Nat):Prop:=enI sg n x y k N∧(y.bad=false→y.deep≤20)
theorem b3R{s:ST}{x:Gs}{n:Nat}{z:Int×Gs}(hx:wQ 2 (n+1) s x)(hz:Ah s.sg x (pE s.sg n .base) z):eqJ s.sg n x z.2 z.1 (s.sg.length+1):=b1s hx.1.1.1 hx.1.1.2 hz
theorem a1N{s:ST}{x y:Gs}{n:Nat}{k:Int}{N:Nat}(hx:wQ 2 (n+1) s x)(h:eqJ s.sg n x y k N):rOk s y:=⟨hx.1.1.1.1,h.1.1.1⟩
theorem b3S{s:ST}{x y:Gs}{n:Nat}{k:Int}{N:Nat}(hx:wQ 2 (n+1) s x)(h:eqJ s.sg n x y k N)(hq:isG s.sg y 4 [40]=true):wQ 11 n s (Aw s.sg y [40]):=by
 have hb:=(CM hq (by omega)).1
 have:=h.1.2.2 hb;have:=hx.1.2
 have hl:=CM hq (by omega)
 rw[Eg hq]
 have e1:(As y).pos=y.pos+1:=rfl
 have e2:(As y).deep=y.deep:=rfl
 exact⟨⟨⟨⟨hx.1.1.1.1,FG h.1.1.1 hl.2⟩,fun _=>by rw[e2];exact h.2 hb⟩,by omega⟩,hx.2⟩
theorem a1O{s:ST}{x y:Gs}{n:Nat}{k:Int}{N:Nat}{v:List Int×Gs}(hx:wQ 2 (n+1) s x)(h:eqJ s.sg n x y k N)(hq:isG s.sg y 4 [40]=true)(hv:vlQ s.sg (pE s.sg n .value) [41] [k] (Aw s.sg y [40]) v):
 eqJ s.sg n x (Aq v.2 ⟨5,[],v.1,false⟩) (AU v.2) (N-1)∧N-1<N:=by
 rw[Eg hq,←IR hq] at hv
 have hw:=a1E h.1.1.1 hv
 exact b1t h hw hq
theorem a1P{s:ST}{x y:Gs}{n:Nat}{k:Int}{N:Nat}(hx:wQ 2 (n+1) s x)(h:eqJ s.sg n x y k N)(hp:isG s.sg y 4 [40]=false)(hq:isG s.sg (Aw s.sg y [40]) 4 [46]=true):
 eqJ s.sg n x (Aq (Bf s.sg (Aw s.sg (Aw s.sg y [40]) [46]) 1) ⟨6,Bv s.sg (Aw s.sg (Aw s.sg y [40]) [46]) 1,[k],false⟩) (AU (Bf s.sg (Aw s.sg (Aw s.sg y [40]) [46]) 1)) (N-1)∧N-1<N:=by
 rw[Di hp] at hq ⊢
 rw[Eg hq]
 obtain⟨a,b⟩:=b3u hx.1.1.1.1 h.1 hp hq
 refine⟨⟨a,fun _=> ?_⟩,b⟩
 rw[UF]
 have:=h.2 (CM hq (by omega)).1
 have e:(Bf s.sg (As y) 1).deep=y.deep:=by unfold Bf;split<;>rfl
 omega
theorem Vc{s:ST}{x y:Gs}{n:Nat}{k:Int}{N:Nat}(hx:wQ 2 (n+1) s x)(h:eqJ s.sg n x y k N):rOk s (Aw s.sg y [40])∧rOk s (Aw s.sg (Aw s.sg y [40]) [46])∧rOk s (Bf s.sg (Aw s.sg (Aw s.sg y [40]) [46]) 1):=
 have a:=EX (m:=[40]) (a1N hx h)
 ⟨a,EX a,GW (EX a) (by omega)⟩
theorem b3T{s:ST}{x y:Gs}{n:Nat}{k:Int}{N:Nat}(h:eqJ s.sg n x y k N)(hb:y.bad=true):Ah s.sg x (pE s.sg (n+1) .fin) (k,y):=b0Z h.1 hb
theorem b3U{s:ST}{x y:Gs}{n:Nat}{k:Int}{N:Nat}(h:eqJ s.sg n x y k N)(hb:y.bad=false)(hp:isG s.sg y 4 [40]=false)(hq:isG s.sg (Aw s.sg y [40]) 4 [46]=false):Ah s.sg x (pE s.sg (n+1) .fin) (k,Aw s.sg (Aw s.sg y [40]) [46]):=by
 rw[Di hp] at hq ⊢
 rw[Di hq];exact b1d h.1 hb hp hq
attribute [local irreducible] pE Bu CJ fnR Ah Bx gsOk Au Cs Aq CN Ed Aw DH DQ AU Ct pkG isG nmG kdG Bf Bv BP vlQ lqJ saI arG eqJ
def Ic(n:Nat):Sig:= {X:=ST×Int×Int×Bool×List Nd,args:=fun x=>[srd x.1 (xg x)],pre:=fun x=>wQ 1 (n+1) x.1 (xg x),Y:=Int×Int×Int×Bool×List Nd,post:=fun x y=>Ah x.1.sg (xg x) (pE x.1.sg (n+1) .base) (yS y),res:=fun x y=> .int .i64 y.1,outs:=fun x y=>[srd x.1 (yG y.2)],keep:=true}
theorem b3V(n:Nat)(h:qAll G n):Al G Tryz.prog 222 (Ic n):=
 vcFun_okP [(137,0,DK),(138,0,Cm),(117,0,Bm),(142,0,BQ),(188,0,(FJ n)),(226,0,DL),(143,0,FK),(141,0,BF),(187,0,(Gm n)),(172,0,(KX n))] [(26,⟨Int,Bh⟩)] false (fun x=>[]) Tryz.func222 rfl (by decide) ⟨Rl,JI,GV,GU,(UX n h),b3H,UY,Hy,h.pick,h.val,trivial⟩ (fun(x:ST×Int×Int×Bool×List Nd)=>True∧Aa (xg x).bad (rA (Ic n) x [.int .i64 (0:Int),srd x.1 (xg x)]) (cA DK [srd x.1 (xg x),.int .i64 (1:Int)] fun x_1 y=>Aa (kdG x_1.1.sg (xh x_1) x_1.2.2.2.2.2) (cA Cm [srd x_1.1 (xh x_1),.int .i64 (1:Int)] fun x_2 y=>cA Bm [srd x_2.1 (Bf x_2.1.sg (xh x_2) x_2.2.2.2.2.2),.int .i64 (1:Int),.str (Bv x_2.1.sg (xh x_2) x_2.2.2.2.2.2),Ae []] fun x_3 y=>rA (Ic n) x [.int .i64 (AU (xh x_3)),srd x_3.1 (Aq (xh x_3) {kind:=x_3.2.2.2.2.2.1,text:=x_3.2.2.2.2.2.2.1,kids:=x_3.2.2.2.2.2.2.2,blank:=false})]) (cA DK [srd x_1.1 (xh x_1),.int .i64 (2:Int)] fun x_2 y=>Aa (kdG x_2.1.sg (xh x_2) x_2.2.2.2.2.2) (cA Cm [srd x_2.1 (xh x_2),.int .i64 (2:Int)] fun x_3 y=>cA Bm [srd x_3.1 (Bf x_3.1.sg (xh x_3) x_3.2.2.2.2.2),.int .i64 (2:Int),.str (Bv x_3.1.sg (xh x_3) x_3.2.2.2.2.2),Ae []] fun x_4 y=>rA (Ic n) x [.int .i64 (AU (xh x_4)),srd x_4.1 (Aq (xh x_4) {kind:=x_4.2.2.2.2.2.1,text:=x_4.2.2.2.2.2.2.1,kids:=x_4.2.2.2.2.2.2.2,blank:=false})]) (cA DK [srd x_2.1 (xh x_2),.int .i64 (3:Int)] fun x_3 y=>Aa (kdG x_3.1.sg (xh x_3) x_3.2.2.2.2.2) (cA Cm [srd x_3.1 (xh x_3),.int .i64 (3:Int)] fun x_4 y=>cA Bm [srd x_4.1 (Bf x_4.1.sg (xh x_4) x_4.2.2.2.2.2),.int .i64 (3:Int),.str (Bv x_4.1.sg (xh x_4) x_4.2.2.2.2.2),Ae []] fun x_5 y=>rA (Ic n) x [.int .i64 (AU (xh x_5)),srd x_5.1 (Aq (xh x_5) {kind:=x_5.2.2.2.2.2.1,text:=x_5.2.2.2.2.2.2.1,kids:=x_5.2.2.2.2.2.2.2,blank:=false})]) (cA BQ [srd x_3.1 (xh x_3),.str #[(91:UInt8)].toList] fun x_4 y=>Aa (isG x_4.1.sg (xh x_4) (4:Int) x_4.2.2.2.2.2) (cA (FJ n) [srd x_4.1 (Aw x_4.1.sg (xh x_4) x_4.2.2.2.2.2),.str #[(93:UInt8)].toList,Ae []] fun x_5 y=>cA Bm [srd x_5.1 (yG y.2),.int .i64 (4:Int),.str #[].toList,Ae y.1] fun x_6 y=>rA (Ic n) x [.int .i64 (AU (xh x_6)),srd x_6.1 (Aq (xh x_6) {kind:=x_6.2.2.2.2.2.1,text:=x_6.2.2.2.2.2.2.1,kids:=x_6.2.2.2.2.2.2.2,blank:=false})]) (cA DL [srd x_4.1 (Aw x_4.1.sg (xh x_4) x_4.2.2.2.2.2)] fun x_5 y=>Aa (arG x_5.1.sg (xg x_5)) (cA FK [srd x_5.1 (xg x_5)] fun x_6 y=>cA BF [srd x_6.1 (yG y.2),.str #[(61:UInt8),(62:UInt8)].toList] fun x_7 y_1=>cA (Gm n) [srd x_7.1 (Au x_7.1.sg (xh x_7) x_7.2.2.2.2.2)] fun x_8 y_2=>∃(x_9:Int),y_2.1=x_9∧∃(zs:List Int),Ae [x_9]=Ae zs∧BG Bh∧Bb (List.length y.1+List.length zs) (8:Nat)∧cA Bm [srd x_8.1 (yG y_2.2),.int .i64 (9:Int),.str #[].toList,Ae (y.1++zs)] fun x_10 y=>rA (Ic n) x [.int .i64 (AU (xh x_10)),srd x_10.1 (Aq (xh x_10) {kind:=x_10.2.2.2.2.2.1,text:=x_10.2.2.2.2.2.2.1,kids:=x_10.2.2.2.2.2.2.2,blank:=false})]) (cA BF [srd x_5.1 (xg x_5),.str #[(40:UInt8)].toList] fun x_6 y=>Aa (Au x_6.1.sg (xh x_6) x_6.2.2.2.2.2).bad (rA (Ic n) x [.int .i64 (0:Int),srd x_6.1 (Au x_6.1.sg (xh x_6) x_6.2.2.2.2.2)]) (cA (KX n) [srd x_6.1 (Au x_6.1.sg (xh x_6) x_6.2.2.2.2.2)] fun x_7 y=>cA BF [srd x_7.1 (yG y.2),.str #[(41:UInt8)].toList] fun x_8 y_1=>∃(x_9:Int),y.1=x_9∧cA Bm [srd x_8.1 (Au x_8.1.sg (xh x_8) x_8.2.2.2.2.2),.int .i64 (11:Int),.str #[].toList,Ae [x_9]] fun x_10 y=>rA (Ic n) x [.int .i64 (AU (xh x_10)),srd x_10.1 (Aq (xh x_10) {kind:=x_10.2.2.2.2.2.1,text:=x_10.2.2.2.2.2.2.1,kids:=x_10.2.2.2.2.2.2.2,blank:=false})])))))))) (fun x=>by kernel_rfl) fun(x:ST×Int×Int×Bool×List Nd) (hx:wQ 1 (n+1) x.1 (xg x))=>(by
 dsimp only[cA,Bt,Ae,AY,rA,DL,Ic,DK,BQ,FK,Gm,Bm,Cm,KX,FJ,BF,CG,sgs,srd,Av,AA,mvL,lnL,mvE,lnE]
 obtain⟨s,p,d,b,ns⟩:=x;dsimp only[xg,xh] at hx ⊢
 have hx:wQ 1 (n+1) s ⟨p,d,b,ns⟩:=hx
 have h1:=hx.1.1.1;have hs:=h1.1
 (repeat' first|(with_reducible first|rfl|exact True.intro|apply AL|apply And.intro|((first|apply AB|apply AJ|apply AC|apply AK)<;>intro _))|(apply Az<;>intro _)|apply AI|refine Ag () ?_ ?_|((first|apply AP|apply AO|apply AN|apply AM|apply AH|apply AG|apply AF|apply AE|apply AD)<;>try dsimp only)|apply Ag|(refine Prod.forall.2 ?_;intro _;try dsimp only)|(intro _;try dsimp only))
 all_goals(try dsimp only[xg,xh,yG,yS,iG] at*)
 all_goals(try simp only[FH] at*)
 all_goals first
  |rfl
  |exact h1
  |omega
  |(simp;done)
  |exact a1D h1.2 ‹_›
  |exact b3J hs h1.2 ‹_›
  |exact a1M hs h1.2 (.inl rfl) ‹_›
  |exact a1M hs h1.2 (.inr rfl) ‹_›
  |exact GW h1 (by omega)
  |exact b3O hx ‹_›
  |exact b3K h1 ‹_› ‹_› ‹_› ‹_› ‹_›
  |exact Va hs ‹_›
  |exact EX h1
  |exact b3P hx ‹_› ‹_› ‹_›
  |exact b3Q hx ‹_› ‹_›
  |exact(Gl (EX h1)).1
  |exact EH h1 ‹_›
  |exact(Gl (EH h1 ‹_›)).1
  |exact b3L hx.2 h1 ‹_› ‹_› ‹_› ‹_› ‹_› ‹_› ‹_›
  |exact b3M hx.2 h1 ‹_› ‹_› ‹_› ‹_› ‹_› ‹_› ‹_›
  |exact b3N h1 ‹_› ‹_› ‹_› ‹_› ‹_› ‹_›
  |(have hq:=Vb hs (show vlQ _ _ _ [] _ _ by assumption);(try simp only[Bb,List.length_append,List.length_cons,List.length_nil] at*);omega)
  |skip)
def Rx(n:Nat):Sig:= {X:=ST×Int×Int×Bool×List Nd,args:=fun x=>[srd x.1 (xg x)],pre:=fun x=>wQ 2 (n+1) x.1 (xg x),Y:=Int×Int×Int×Bool×List Nd,post:=fun x y=>Ah x.1.sg (xg x) (pE x.1.sg (n+1) .fin) (yS y),res:=fun x y=> .int .i64 y.1,outs:=fun x y=>[srd x.1 (yG y.2)],keep:=true}
def OT(n:Nat)(x:ST×Int×Int×Bool×List Nd):LS:= {ι:=Int×Int×Bool×List Nd×Int×Nat,inv:=fun i=>eqJ x.1.sg n (xg x) (iG i) i.2.2.2.2.1 i.2.2.2.2.2,regs:=fun i=>[(0,srd x.1 (iG i)),(3,.int .i64 i.2.2.2.2.1)],als:=[],meas:=fun i=>i.2.2.2.2.2}
theorem b3W(n:Nat)(h:qAll G n):Al G Tryz.prog 212 (Rx n):=
 vcFun_okP [(222,0,(Rs n)),(142,0,BQ),(188,0,(FJ n)),(117,0,Bm),(138,0,Cm)] [(26,⟨Int,Bh⟩)] false (fun x=>[(2,OT n x)]) Tryz.func212 rfl (by decide) ⟨h.base,GU,(UX n h),GV,JI,trivial⟩ (fun(x:ST×Int×Int×Bool×List Nd)=>True∧cA (Rs n) [srd x.1 (xg x)] fun x_1 y=>eA (OT n x) [srd x_1.1 (yG y.2),.int .i64 y.1]∧∀(i:Int×Int×Bool×List Nd×Int×Nat),eqJ x.1.sg n (xg x) (iG i) i.2.2.2.2.1 i.2.2.2.2.2→Aa (!(iG i).bad) (cA BQ [srd x.1 (iG i),.str #[(40:UInt8)].toList] fun x_2 y=>Aa (isG x_2.1.sg (xh x_2) (4:Int) x_2.2.2.2.2.2) (∃(x_3:Int),i.2.2.2.2.1=x_3∧cA (FJ n) [srd x_2.1 (Aw x_2.1.sg (xh x_2) x_2.2.2.2.2.2),.str #[(41:UInt8)].toList,Ae [x_3]] fun x_4 y=>cA Bm [srd x_4.1 (yG y.2),.int .i64 (5:Int),.str #[].toList,Ae y.1] fun x_5 y=>eN (OT n x) i [srd x_5.1 (Aq (xh x_5) {kind:=x_5.2.2.2.2.2.1,text:=x_5.2.2.2.2.2.2.1,kids:=x_5.2.2.2.2.2.2.2,blank:=false}),.int .i64 (AU (xh x_5))]) (cA BQ [srd x_2.1 (Aw x_2.1.sg (xh x_2) x_2.2.2.2.2.2),.str #[(46:UInt8)].toList] fun x_3 y=>Aa (isG x_3.1.sg (xh x_3) (4:Int) x_3.2.2.2.2.2) (cA Cm [srd x_3.1 (Aw x_3.1.sg (xh x_3) x_3.2.2.2.2.2),.int .i64 (1:Int)] fun x_4 y=>∃(x_5:Int),i.2.2.2.2.1=x_5∧cA Bm [srd x_4.1 (Bf x_4.1.sg (xh x_4) x_4.2.2.2.2.2),.int .i64 (6:Int),.str (Bv x_4.1.sg (xh x_4) x_4.2.2.2.2.2),Ae [x_5]] fun x_6 y=>eN (OT n x) i [srd x_6.1 (Aq (xh x_6) {kind:=x_6.2.2.2.2.2.1,text:=x_6.2.2.2.2.2.2.1,kids:=x_6.2.2.2.2.2.2.2,blank:=false}),.int .i64 (AU (xh x_6))]) (rA (Rx n) x [.int .i64 i.2.2.2.2.1,srd x_3.1 (Aw x_3.1.sg (xh x_3) x_3.2.2.2.2.2)]))) (rA (Rx n) x [.int .i64 i.2.2.2.2.1,srd x.1 (iG i)])) (fun x=>by kernel_rfl) fun(x:ST×Int×Int×Bool×List Nd) (hx:wQ 2 (n+1) x.1 (xg x))=>(by
 dsimp only[cA,eA,eN,OT,Bt,Ae,AY,rA,Rs,Rx,BQ,Bm,Cm,FJ,CG,sgs,srd,Av,AA,mvL,lnL,mvE,lnE,Bi]
 obtain⟨s,p,d,b,ns⟩:=x;dsimp only[xg,xh] at hx ⊢
 have hx:wQ 2 (n+1) s ⟨p,d,b,ns⟩:=hx
 have h1:=hx.1.1.1;have hs:=h1.1
 (repeat' first|(with_reducible first|rfl|exact True.intro|apply AL|apply And.intro|((first|apply AB|apply AJ|apply AC|apply AK)<;>intro _))|(apply Az<;>intro _)|apply AI|refine Ag () ?_ ?_|((first|apply AP|apply AO|apply AN|apply AM|apply AH|apply AG|apply AF|apply AE|apply AD)<;>try dsimp only)|apply Ag|(refine Prod.forall.2 ?_;intro _;try dsimp only)|(intro _;try dsimp only))
 all_goals(try dsimp only[xg,xh,yG,yS,iG] at*)
 all_goals(try simp only[FH] at*)
 all_goals first
  |(show Nat;skip)
  |rfl
  |exact⟨b1u hx.1.1.1 hx.1.1.2 hx.1.2,hx.2⟩
  |exact b3R hx ‹_›
  |exact a1N hx ‹_›
  |exact b3S hx ‹_› ‹_›
  |exact(Vc hx ‹_›).1
  |exact(Vc hx ‹_›).2.1
  |exact(Vc hx ‹_›).2.2
  |exact Va hs ‹_›
  |exact(a1O hx ‹_› ‹_› ‹_›).1
  |exact(a1P hx ‹_› ‹_› ‹_›).1
  |exact b3T ‹_› ‹_›
  |exact b3U ‹_› ‹_› ‹_› ‹_›
  |omega
  |(simp;done)
  |skip
 all_goals first
  |exact(a1O hx ‹_› ‹_› ‹_›).2
  |exact(a1P hx ‹_› ‹_› ‹_›).2
  |skip)
end Go.My
end
section
set_option linter.unusedVariables false
set_option linter.unusedSimpArgs false
namespace Go.My
open Go.Eng Go.Proofs
variable {G:GInv}
theorem bt{a b:List UInt8}(h:(a==b)=true):a=b:=by simpa using h
theorem bf{a b:List UInt8}(h:(a==b)=false):a≠b:=by simpa using h
def csJ(sg:List Sg)(n l:Nat)(x y:Gs)(t:List UInt8)(ks:List Int)(N:Nat):Prop:=chS sg n l x y t ks N∧(y.bad=false→y.deep≤20)
theorem b3X{s:ST}{x:Gs}{n:Nat}{l:Int}(hx:wQ (9-l.toNat) (n+1) s x)(hl:l>5)(h6:l≤6):wQ 2 n s x:=by
 have e:l.toNat=6:=by omega
 have a:=hx.1.2
 rw[e] at a
 exact⟨⟨hx.1.1,by omega⟩,hx.2⟩
theorem b3Y{s:ST}{x:Gs}{n:Nat}{l:Int}{z:Int×Gs}(hl:l>5)(h6:l≤6)(h:Ah s.sg x (pE s.sg n .fin) z):Ah s.sg x (pE s.sg (n+1) (.chain l.toNat)) z:=b1w (by omega) h
theorem b3Z{s:ST}{x:Gs}{n:Nat}{l:Int}(hx:wQ (9-l.toNat) (n+1) s x)(h0:0≤l)(hl:¬l>5):wQ (9-(l+1).toNat) n s x:=⟨⟨hx.1.1,by have:=hx.1.2;omega⟩,hx.2⟩
theorem b4a{s:ST}{x:Gs}{n:Nat}{l:Int}{z:Int×Gs}(hx:wQ (9-l.toNat) (n+1) s x)(h0:0≤l)(hl:¬l>5)(hz:Ah s.sg x (pE s.sg n (.chain (l+1).toNat)) z):csJ s.sg n l.toNat x z.2 [] [z.1] (2*s.sg.length+4):=by
 rw[show(l+1).toNat=l.toNat+1 by omega] at hz
 exact⟨b3m hx.1.1.1.2 (by omega) hz,OJ hz hx.1.1.2⟩
theorem a1Q{s:ST}{x y:Gs}{n l:Nat}{t:List UInt8}{ks:List Int}{N:Nat}(hs:sgB s.sg)(h:csJ s.sg n l x y t ks N):rOk s y:=⟨hs,h.1.1.1⟩
theorem a1R{s:ST}{x y:Gs}{n l:Nat}{t:List UInt8}{ks:List Int}{N:Nat}{i:Int}{m:List UInt8}(hs:sgB s.sg)(h:csJ s.sg n l x y t ks N)(hq:mkQ s.sg y l i m):rOk s (gM y m):=by
 unfold gM;split
 ·exact a1Q hs h
 ·rename_i hm
  rcases hq.2 with h2|h2
  ·exact(hm h2.1).elim
  ·have hg:=(JD (sg:=s.sg) (l:=l) (g:=y) (by rw[←h2.2];exact hm)).1
   exact⟨hs,FG h.1.1.1 (CM hg (by omega)).2⟩
theorem a1S{s:ST}{x y:Gs}{n:Nat}{l:Int}{t:List UInt8}{ks:List Int}{N:Nat}{i:Int}{m:List UInt8}(hx:wQ (9-l.toNat) (n+1) s x)(h0:0≤l)(hl:¬l>5)(h:csJ s.sg n l.toNat x y t ks N)(hq:mkQ s.sg y l.toNat i m)(hm:m≠[]):wQ (9-(l+1).toNat) n s (gM y m):=by
 have hr:=a1R hx.1.1.1.1 h hq
 rw[Rp hm] at hr ⊢
 rcases hq.2 with h2|h2
 ·exact(hm h2.1).elim
 ·have hg:=(JD (sg:=s.sg) (l:=l.toNat) (g:=y) (by rw[←h2.2];exact hm)).1
  have hb:=CM hg (by omega)
  have e1:(As y).pos=y.pos+1:=rfl
  have e2:(As y).deep=y.deep:=rfl
  have:=h.1.1.2.2.1;have:=hx.1.2;have:=h.2 hb.1
  exact⟨⟨⟨hr,fun _=>by omega⟩,by omega⟩,hx.2⟩
theorem b4b{s:ST}{x y:Gs}{n:Nat}{l:Int}{t:List UInt8}{ks:List Int}{N:Nat}{i:Int}{m:List UInt8}(hx:wQ (9-l.toNat) (n+1) s x)(h0:0≤l)(hl:¬l>5)(h:csJ s.sg n l.toNat x y t ks N)(hq:mkQ s.sg y l.toNat i m)(hm:m≠[])(ht:t≠[]):wQ (9-(l+1).toNat) n s (Aq (gM y m) ⟨7,t,ks,false⟩):=by
 have a:=a1S hx h0 hl h hq hm
 obtain⟨d1,d2,d3⟩:= @IM (gM y m) ⟨7,t,ks,false⟩
 have hw:=UR (ks:=ks) hx.1.1.1.1 (h.1.2.2.2.2.2 ht).2 (by have:=h.1.2.2.1;have:=h.1.1.1.1;omega)
 exact⟨⟨⟨⟨a.1.1.1.1,OC a.1.1.1.2 hw⟩,fun hb=>by rw[d1];exact a.1.1.2 (d3 hb)⟩,by rw[d2];exact a.1.2⟩,a.2⟩
theorem Ry{s:ST}{x y:Gs}{n:Nat}{l:Int}{t:List UInt8}{ks:List Int}{N:Nat}{i:Int}{m:List UInt8}{z:Int×Gs}(h0:0≤l)(h:csJ s.sg n l.toNat x y t ks N)(hq:mkQ s.sg y l.toNat i m)(hi:¬i<((BI l.toNat).length:Int))(hm:m≠[])(ht:t=[]∨m=t)
 (hz:Ah s.sg (gM y m) (pE s.sg n (.chain (l+1).toNat)) z):csJ s.sg n l.toNat x z.2 m (ks++[z.1]) (N-1)∧N-1<N:=by
 have e:=Rq hq hi
 rw[Rp hm,show(l+1).toNat=l.toNat+1 by omega] at hz
 obtain⟨a,b⟩:=b3n h.1 (by rw[←e];exact hm) (by rw[←e];exact ht) hz
 rw[←e] at a
 have hg:=(JD (sg:=s.sg) (l:=l.toNat) (g:=y) (by rw[←e];exact hm)).1
 exact⟨⟨a,OJ hz (fun _=>h.2 (CM hg (by omega)).1)⟩,b⟩
theorem a1T{s:ST}{x y:Gs}{n:Nat}{l:Int}{t:List UInt8}{ks:List Int}{N:Nat}{i:Int}{m:List UInt8}{z:Int×Gs}(hs:sgB s.sg)(h0:0≤l)(h:csJ s.sg n l.toNat x y t ks N)(hq:mkQ s.sg y l.toNat i m)(hi:¬i<((BI l.toNat).length:Int))(hm:m≠[])(ht:t≠[])(hne:m≠t)
 (hz:Ah s.sg (Aq (gM y m) ⟨7,t,ks,false⟩) (pE s.sg n (.chain (l+1).toNat)) z):csJ s.sg n l.toNat x z.2 m ([AU (gM y m)]++[z.1]) (N-2)∧N-2<N:=by
 have e:=Rq hq hi
 rw[Rp hm] at hz ⊢
 rw[show(l+1).toNat=l.toNat+1 by omega] at hz
 obtain⟨a,b⟩:=b3o hs h.1 (by rw[←e];exact hm) ht (by rw[←e];exact hne) hz
 rw[←e] at a
 have hg:=(JD (sg:=s.sg) (l:=l.toNat) (g:=y) (by rw[←e];exact hm)).1
 refine⟨⟨a,OJ hz (fun hb=> ?_)⟩,b⟩
 rw[UF];exact h.2 (CM hg (by omega)).1
theorem b4c{s:ST}{x y:Gs}{n l:Nat}{t:List UInt8}{ks:List Int}{N:Nat}{i:Int}{m:List UInt8}{k:Int}(h:csJ s.sg n l x y t ks N)(hq:mkQ s.sg y l i m)(hi:¬i<((BI l).length:Int))(hm:m=[])(hl:(ks.length:Int)=1)(hk:ks[(0:Int).toNat]? =some k):Ah s.sg x (pE s.sg (n+1) (.chain l)) (k,gM y m):=by
 have e:=Rq hq hi
 subst hm
 exact a1B h.1 (.inr e.symm) (by omega) hk
theorem b4d{s:ST}{x y:Gs}{n l:Nat}{t:List UInt8}{ks:List Int}{N:Nat}{i:Int}{m:List UInt8}(hs:sgB s.sg)(h:csJ s.sg n l x y t ks N)(hq:mkQ s.sg y l i m)(hi:¬i<((BI l).length:Int))(hm:m=[])(hl:(ks.length:Int)≠1):Ah s.sg x (pE s.sg (n+1) (.chain l)) (AU (gM y m),Aq (gM y m) ⟨7,t,ks,false⟩):=by
 have e:=Rq hq hi
 subst hm
 exact a1C hs h.1 (.inr e.symm) (by omega)
theorem b4e{s:ST}{x y:Gs}{n l:Nat}{t:List UInt8}{ks:List Int}{N:Nat}{k:Int}(h:csJ s.sg n l x y t ks N)(hb:y.bad=true)(hl:(ks.length:Int)=1)(hk:ks[(0:Int).toNat]? =some k):Ah s.sg x (pE s.sg (n+1) (.chain l)) (k,y):=a1B h.1 (.inl hb) (by omega) hk
theorem b4f{s:ST}{x y:Gs}{n l:Nat}{t:List UInt8}{ks:List Int}{N:Nat}(hs:sgB s.sg)(h:csJ s.sg n l x y t ks N)(hb:y.bad=true)(hl:(ks.length:Int)≠1):Ah s.sg x (pE s.sg (n+1) (.chain l)) (AU y,Aq y ⟨7,t,ks,false⟩):=a1C hs h.1 (.inl hb) (by omega)
theorem b4g{s:ST}{x y:Gs}{n l:Nat}{t:List UInt8}{ks:List Int}{N:Nat}(hs:sgB s.sg)(h:csJ s.sg n l x y t ks N):ks.length≤3001∧1≤ks.length:=by
 have h1:=h.1.2.2.1;have h2:=h.1.1.1.1.2;have h3:=hs.1
 refine⟨by omega,?_⟩
 rcases Classical.em (t=[]) with e|e
 ·have:=h.1.2.2.2.2.1 e;omega
 ·have:=(h.1.2.2.2.2.2 e).1;omega
theorem b4h{sg:List Sg}{y:Gs}{l:Nat}{i:Int}{m:List UInt8}(h:mkQ sg y l i m):(0≤i∧i≤(BI l).length)∧(BI l).length≤2:=⟨h.1,b1r⟩
theorem JJ{sg:List Sg}{y:Gs}{l:Nat}{i:Int}{m v:List UInt8}(h:mkQ sg y l i m)(hm:m=[])(ha:(BI l)[i.toNat]? =some v)(hg:isG sg (gM y m) 4 v=true):
 (Aw sg (gM y m) v).pos=(gM y v).pos∧(Aw sg (gM y m) v).bad=(gM y v).bad∧(Aw sg (gM y m) v).deep=(gM y v).deep∧(Aw sg (gM y m) v).nodes=(gM y v).nodes:=by
 rw[(UT h hm ha hg).2];exact⟨rfl,rfl,rfl,rfl⟩
theorem b4i{sg:List Sg}{p d:Int}{b:Bool}{ns:List Nd}{f:Ps→PR}{z:Int×Gs}(hd:d≤20)(h:d+1>20)(hz:Ah sg ⟨p,d+1,true,ns⟩ f z):Ah sg (pkX ⟨p,d,b,ns⟩) f z:=by
 have e:pkX ⟨p,d,b,ns⟩=⟨p,d+1,true,ns⟩:=by simp only[pkX];rw[if_pos (show d=20 by omega)];rfl
 rw[e];exact hz
theorem b4j{sg:List Sg}{p d:Int}{b:Bool}{ns:List Nd}{f:Ps→PR}{z:Int×Gs}(h:¬d+1>20)(hz:Ah sg ⟨p,d+1,b,ns⟩ f z):Ah sg (pkX ⟨p,d,b,ns⟩) f z:=by
 have e:pkX ⟨p,d,b,ns⟩=⟨p,d+1,b,ns⟩:=by simp only[pkX];rw[if_neg (show¬d=20 by omega)];rfl
 rw[e];exact hz
theorem b4k{s:ST}{p d:Int}{b:Bool}{ns:List Nd}{n:Nat}(hx:vQ 10 (n+1) s ⟨p,d,b,ns⟩)(h:d+1>20):wQ (9-(0:Int).toNat) n s ⟨p,d+1,true,ns⟩:=by
 have a:=(a0S hx.1.1.1 hx.1.1.2 hx.1.2).1
 have hd:=hx.1.1.2;simp only at hd
 have e:pkX ⟨p,d,b,ns⟩=⟨p,d+1,true,ns⟩:=by simp only[pkX];rw[if_pos (show d=20 by omega)];rfl
 rw[e] at a;exact⟨a,hx.2⟩
theorem b4l{s:ST}{p d:Int}{b:Bool}{ns:List Nd}{n:Nat}(hx:vQ 10 (n+1) s ⟨p,d,b,ns⟩)(h:¬d+1>20):wQ (9-(0:Int).toNat) n s ⟨p,d+1,b,ns⟩:=by
 have a:=(a0S hx.1.1.1 hx.1.1.2 hx.1.2).1
 have e:pkX ⟨p,d,b,ns⟩=⟨p,d+1,b,ns⟩:=by simp only[pkX];rw[if_neg (show¬d=20 by omega)];rfl
 rw[e] at a;exact⟨a,hx.2⟩
theorem b4m{s:ST}{x y:Gs}{n:Nat}{ks:List Int}{N:Nat}(hx:vQ 11 (n+1) s x)(h:vaJ s.sg n x y ks N)(hq:isG s.sg y 4 [46,46]=true):
 wQ 11 n s (Au s.sg (Aq (Bf s.sg (Aw s.sg y [46,46]) 1) ⟨1,Bv s.sg (Aw s.sg y [46,46]) 1,[],false⟩) [40]):=by
 have hr:=UG hx.1.1.1 h
 have a:=MH (m:=[46,46]) hr
 have e:=Cz a
 have t:=GT (m:=[40]) (Fk a)
 rw[Eg hq] at a e t ⊢
 simp only at e t
 have e1:(As y).pos=y.pos+1:=rfl
 have e2:(As y).deep=y.deep:=rfl
 have:=h.1.1.2.2.1;have:=h.2;have:=hx.1.2
 exact⟨⟨⟨⟨hx.1.1.1.1,t.1⟩,fun _=>by omega⟩,by omega⟩,hx.2⟩
theorem a1U{s:ST}{x y:Gs}{n:Nat}{ks:List Int}{N:Nat}{v:List Int×Gs}(hs:sgB s.sg)(h:vaJ s.sg n x y ks N)(hq:isG s.sg y 4 [46,46]=true)
 (hv:vlQ s.sg (pE s.sg n .value) [41] [AU (Bf s.sg (Aw s.sg y [46,46]) 1)] (Au s.sg (Aq (Bf s.sg (Aw s.sg y [46,46]) 1) ⟨1,Bv s.sg (Aw s.sg y [46,46]) 1,[],false⟩) [40]) v):
 vaJ s.sg n x (Aq v.2 ⟨5,[],v.1,false⟩) (ks++[AU v.2]) (N-1)∧N-1<N:=by
 have a:=MH (m:=[46,46]) (show rOk s y from⟨hs,h.1.1.1⟩)
 have hw:=a1E (Fk a) hv
 have e:=(Cz a).1
 rw[Eg hq] at a e
 obtain⟨c1,c2⟩:=Mz (b3v h.1 hq a (by rw[Eg hq] at hw;exact hw))
 have e2:(As y).deep=y.deep:=rfl
 have e3:=(Cz hw).1
 rw[Eg hq] at e3
 have:=h.2
 exact⟨a0U ⟨c1,by simp only at*;omega⟩,c2⟩
theorem Vd{s:ST}{x y:Gs}{n:Nat}{ks:List Int}{N:Nat}(hs:sgB s.sg)(h:vaJ s.sg n x y ks N):rOk s (Aw s.sg y [46,46])∧rOk s (Bf s.sg (Aw s.sg y [46,46]) 1)∧rOk s (Aq (Bf s.sg (Aw s.sg y [46,46]) 1) ⟨1,Bv s.sg (Aw s.sg y [46,46]) 1,[],false⟩):=
 have hr:rOk s y:=⟨hs,h.1.1.1⟩
 ⟨EX hr,GW (EX hr) (by omega),UW hr⟩
def lqI(s:ST)(e:Int)(j:Int×Int×Bool×List Nd×List UInt8×List Int×Nat):LS:= {
 ι:=Int×List UInt8,inv:=fun i=>mkQ s.sg (iF j) e.toNat i.1 i.2,regs:=fun i=>[(0,srd s (gM (iF j) i.2)),(1,.int .i64 e),(5,Ae j.2.2.2.2.2.1),(6,.str j.2.2.2.2.1),(7,.sl false 0 1 (List UInt8) Ai (BI e.toNat)),(8,.str i.2),(9,.int .i64 i.1)],als:=[],meas:=fun i=>(BI e.toNat).length-i.1.toNat}
def lqO(n:Nat)(x:ST×Int×Int×Bool×List Nd×Int):LS:= {
 ι:=Int×Int×Bool×List Nd×List UInt8×List Int×Nat,inv:=fun i=>csJ x.1.sg n x.2.2.2.2.2.toNat (xh x) (iF i) i.2.2.2.2.1 i.2.2.2.2.2.1 i.2.2.2.2.2.2,regs:=fun i=>[(0,srd x.1 (iF i)),(1,.int .i64 x.2.2.2.2.2),(5,Ae i.2.2.2.2.2.1),(6,.str i.2.2.2.2.1),(7,.sl false 0 1 (List UInt8) Ai (BI x.2.2.2.2.2.toNat))],als:=[],meas:=fun i=>i.2.2.2.2.2.2,
 sub:=fun j=>[(9,lqI x.1 x.2.2.2.2.2 j)]}
attribute [local irreducible] pE Bu CJ fnR Ah Bx gsOk Au Cs Aq CN Ed Aw DH DQ AU Ct pkG isG nmG kdG Bf Bv BP vlQ lqJ saI arG eqJ csJ mkQ gM vaJ
def HC:Sig:= {X:=Int,args:=fun x=>[.int .i64 x],pre:=fun x=>0≤x∧x≤5,Y:=Unit,post:=fun x y=>True,res:=fun x y=> .sl false 0 1 (List UInt8) Ai (BI x.toNat),outs:=fun x y=>[.top],keep:=true}
theorem b4n:Al G Tryz.prog 213 HC:=
 vcFun_okP [] [(38,⟨List UInt8,Ai⟩)] false (fun x=>[]) Tryz.func213 rfl (by decide) trivial (fun(x:Int)=>True∧Aa (x==(0:Int)) (∃(x_1:List UInt8),#[(124:UInt8),(124:UInt8)].toList=x_1∧rA HC x [AV.sl true (0:Nat) (1:Nat) (List UInt8) Ai [x_1],.top]) (Aa (x==(1:Int)) (∃(x_1:List UInt8),#[(38:UInt8),(38:UInt8)].toList=x_1∧rA HC x [AV.sl true (0:Nat) (1:Nat) (List UInt8) Ai [x_1],.top]) (Aa (x==(2:Int)) (∃(x_1:List UInt8),#[(61:UInt8),(61:UInt8)].toList=x_1∧rA HC x [AV.sl true (0:Nat) (1:Nat) (List UInt8) Ai [x_1],.top]) (Aa (x==(3:Int)) (∃(x_1:List UInt8),#[(60:UInt8)].toList=x_1∧rA HC x [AV.sl true (0:Nat) (1:Nat) (List UInt8) Ai [x_1],.top]) (Aa (x==(4:Int)) (∃(x_1:List UInt8),#[(43:UInt8)].toList=x_1∧∃(x_2:List UInt8),#[(45:UInt8)].toList=x_2∧rA HC x [AV.sl true (0:Nat) (1:Nat) (List UInt8) Ai [x_1,x_2],.top]) (∃(x_1:List UInt8),#[(42:UInt8)].toList=x_1∧rA HC x [AV.sl true (0:Nat) (1:Nat) (List UInt8) Ai [x_1],.top])))))) (fun x=>by kernel_rfl) fun(x:Int) (hx:0≤x∧x≤5)=>(by
 dsimp only[rA,HC,Av,AA]
 obtain⟨h1,h2⟩:=hx
 have hh:x=0∨x=1∨x=2∨x=3∨x=4∨x=5:=by omega
 rcases hh with rfl|rfl|rfl|rfl|rfl|rfl
 all_goals(repeat' first|(with_reducible first|rfl|exact True.intro|apply AL|apply And.intro|((first|apply AB|apply AJ|apply AC|apply AK)<;>intro _))|(apply Az<;>intro _)|apply AI|refine Ag () ?_ ?_|((first|apply AP|apply AO|apply AN|apply AM|apply AH|apply AG|apply AF|apply AE|apply AD)<;>try dsimp only)|apply Ag|(refine Prod.forall.2 ?_;intro _;try dsimp only)|(intro _;try dsimp only))
 all_goals first
  |rfl
  |omega
  |(simp [Bb];done)
  |skip)
def KY(n:Nat):Sig:= {X:=ST×Int×Int×Bool×List Nd×Int,args:=fun x=>[srd x.1 (xh x),.int .i64 x.2.2.2.2.2],pre:=fun x=>wQ (9-x.2.2.2.2.2.toNat) (n+1) x.1 (xh x)∧0≤x.2.2.2.2.2∧x.2.2.2.2.2≤6,Y:=Int×Int×Int×Bool×List Nd,post:=fun x y=>Ah x.1.sg (xh x) (pE x.1.sg (n+1) (.chain x.2.2.2.2.2.toNat)) (yS y),res:=fun x y=> .int .i64 y.1,outs:=fun x y=>[srd x.1 (yG y.2),.top],keep:=true}
theorem b4o(n:Nat)(h:qAll G n):Al G Tryz.prog 202 (KY n):=
 vcFun_okP [(212,0,(Rr n)),(202,0,(HB n)),(213,0,HC),(142,0,BQ),(117,0,Bm)] [(26,⟨Int,Bh⟩),(38,⟨List UInt8,Ai⟩)] false (fun x=>[(6,lqO n x)]) Tryz.func202 rfl (by decide) ⟨h.fin,h.chain,b4n,GU,GV,trivial⟩ (fun(x:ST×Int×Int×Bool×List Nd×Int)=>True∧Aa (decide (x.2.2.2.2.2>(5:Int))) (cA (Rr n) [srd x.1 (xh x)] fun x_1 y=>rA (KY n) x [.int .i64 y.1,srd x_1.1 (yG y.2),.top]) (inR IntKind.i64 (x.2.2.2.2.2+(1:Int))∧cA (HB n) [srd x.1 (xh x),.int .i64 (x.2.2.2.2.2+(1:Int))] fun x_1 y=>∃(x_2:Int),y.1=x_2∧cA HC [.int .i64 x.2.2.2.2.2] fun x_3 y_1=>eA (lqO n x) [srd x_1.1 (yG y.2),.int .i64 x.2.2.2.2.2,Ae [x_2],.str #[].toList,AV.sl false (0:Nat) (1:Nat) (List UInt8) Ai (BI (Int.toNat x_3))]∧∀(i:Int×Int×Bool×List Nd×List UInt8×List Int×Nat),csJ x.1.sg n (Int.toNat x.2.2.2.2.2) (xh x) (iF i) i.2.2.2.2.1 i.2.2.2.2.2.1 i.2.2.2.2.2.2→Aa (!(iF i).bad) (eA (lqI x.1 x.2.2.2.2.2 i) [srd x.1 (iF i),.int .i64 x.2.2.2.2.2,Ae i.2.2.2.2.2.1,.str i.2.2.2.2.1,AV.sl false (0:Nat) (1:Nat) (List UInt8) Ai (BI (Int.toNat x.2.2.2.2.2)),.str #[].toList,.int .i64 (0:Int)]∧∀(i_1:Int×List UInt8),mkQ x.1.sg (iF i) (Int.toNat x.2.2.2.2.2) i_1.1 i_1.2→Aa (decide (i_1.1<(↑(List.length (BI (Int.toNat x.2.2.2.2.2))):Int))) (Aa (i_1.2== #[].toList) (((0:Int)≤i_1.1∧i_1.1<(↑(List.length (BI (Int.toNat x.2.2.2.2.2))):Int))∧∀(e:List UInt8),(BI (Int.toNat x.2.2.2.2.2))[Int.toNat i_1.1]? =some e→cA BQ [srd x.1 (gM (iF i) i_1.2),.str e] fun x_4 y=>Aa (isG x_4.1.sg (xh x_4) (4:Int) x_4.2.2.2.2.2) (((0:Int)≤i_1.1∧i_1.1<(↑(List.length (BI (Int.toNat x.2.2.2.2.2))):Int))∧∀(e:List UInt8),(BI (Int.toNat x.2.2.2.2.2))[Int.toNat i_1.1]? =some e→inR IntKind.i64 (i_1.1+(1:Int))∧eN (lqI x.1 x.2.2.2.2.2 i) i_1 [srd x_4.1 (Aw x_4.1.sg (xh x_4) x_4.2.2.2.2.2),.int .i64 x.2.2.2.2.2,Ae i.2.2.2.2.2.1,.str i.2.2.2.2.1,AV.sl false (0:Nat) (1:Nat) (List UInt8) Ai (BI (Int.toNat x.2.2.2.2.2)),.str e,.int .i64 (i_1.1+(1:Int))]) (inR IntKind.i64 (i_1.1+(1:Int))∧eN (lqI x.1 x.2.2.2.2.2 i) i_1 [srd x_4.1 (Aw x_4.1.sg (xh x_4) x_4.2.2.2.2.2),.int .i64 x.2.2.2.2.2,Ae i.2.2.2.2.2.1,.str i.2.2.2.2.1,AV.sl false (0:Nat) (1:Nat) (List UInt8) Ai (BI (Int.toNat x.2.2.2.2.2)),.str i_1.2,.int .i64 (i_1.1+(1:Int))])) (inR IntKind.i64 (i_1.1+(1:Int))∧eN (lqI x.1 x.2.2.2.2.2 i) i_1 [srd x.1 (gM (iF i) i_1.2),.int .i64 x.2.2.2.2.2,Ae i.2.2.2.2.2.1,.str i.2.2.2.2.1,AV.sl false (0:Nat) (1:Nat) (List UInt8) Ai (BI (Int.toNat x.2.2.2.2.2)),.str i_1.2,.int .i64 (i_1.1+(1:Int))])) (Aa (i_1.2== #[].toList) (Aa ((↑(List.length i.2.2.2.2.2.1):Int)==(1:Int)) (((0:Int)≤(0:Int)∧(0:Int)<(↑(List.length i.2.2.2.2.2.1):Int))∧(0:Nat)<List.length i.2.2.2.2.2.1∧∀(x_4:Int),i.2.2.2.2.2.1[(0:Nat)]? =some x_4→rA (KY n) x [.int .i64 x_4,srd x.1 (gM (iF i) i_1.2),.top]) (cA Bm [srd x.1 (gM (iF i) i_1.2),.int .i64 (7:Int),.str i.2.2.2.2.1,Ae i.2.2.2.2.2.1] fun x_4 y=>rA (KY n) x [.int .i64 (AU (xh x_4)),srd x_4.1 (Aq (xh x_4) {kind:=x_4.2.2.2.2.2.1,text:=x_4.2.2.2.2.2.2.1,kids:=x_4.2.2.2.2.2.2.2,blank:=false}),.top])) (Aa (!i.2.2.2.2.1== #[].toList) (Aa (!i_1.2==i.2.2.2.2.1) (cA Bm [srd x.1 (gM (iF i) i_1.2),.int .i64 (7:Int),.str i.2.2.2.2.1,Ae i.2.2.2.2.2.1] fun x_4 y=>∃(x_5:Int),AU (xh x_4)=x_5∧inR IntKind.i64 (x.2.2.2.2.2+(1:Int))∧cA (HB n) [srd x_4.1 (Aq (xh x_4) {kind:=x_4.2.2.2.2.2.1,text:=x_4.2.2.2.2.2.2.1,kids:=x_4.2.2.2.2.2.2.2,blank:=false}),.int .i64 (x.2.2.2.2.2+(1:Int))] fun x_6 y=>∃(x_7:Int),y.1=x_7∧∃(zs:List Int),Ae [x_7]=Ae zs∧BG Bh∧Bb (List.length [x_5]+List.length zs) (8:Nat)∧eN (lqO n x) i [srd x_6.1 (yG y.2),.int .i64 x.2.2.2.2.2,Ae ([x_5]++zs),.str i_1.2,AV.sl false (0:Nat) (1:Nat) (List UInt8) Ai (BI (Int.toNat x.2.2.2.2.2))]) (inR IntKind.i64 (x.2.2.2.2.2+(1:Int))∧cA (HB n) [srd x.1 (gM (iF i) i_1.2),.int .i64 (x.2.2.2.2.2+(1:Int))] fun x_4 y=>∃(x_5:Int),y.1=x_5∧∃(zs:List Int),Ae [x_5]=Ae zs∧BG Bh∧Bb (List.length i.2.2.2.2.2.1+List.length zs) (8:Nat)∧eN (lqO n x) i [srd x_4.1 (yG y.2),.int .i64 x.2.2.2.2.2,Ae (i.2.2.2.2.2.1++zs),.str i_1.2,AV.sl false (0:Nat) (1:Nat) (List UInt8) Ai (BI (Int.toNat x.2.2.2.2.2))])) (inR IntKind.i64 (x.2.2.2.2.2+(1:Int))∧cA (HB n) [srd x.1 (gM (iF i) i_1.2),.int .i64 (x.2.2.2.2.2+(1:Int))] fun x_4 y=>∃(x_5:Int),y.1=x_5∧∃(zs:List Int),Ae [x_5]=Ae zs∧BG Bh∧Bb (List.length i.2.2.2.2.2.1+List.length zs) (8:Nat)∧eN (lqO n x) i [srd x_4.1 (yG y.2),.int .i64 x.2.2.2.2.2,Ae (i.2.2.2.2.2.1++zs),.str i_1.2,AV.sl false (0:Nat) (1:Nat) (List UInt8) Ai (BI (Int.toNat x.2.2.2.2.2))])))) (Aa ((↑(List.length i.2.2.2.2.2.1):Int)==(1:Int)) (((0:Int)≤(0:Int)∧(0:Int)<(↑(List.length i.2.2.2.2.2.1):Int))∧(0:Nat)<List.length i.2.2.2.2.2.1∧∀(x_4:Int),i.2.2.2.2.2.1[(0:Nat)]? =some x_4→rA (KY n) x [.int .i64 x_4,srd x.1 (iF i),.top]) (cA Bm [srd x.1 (iF i),.int .i64 (7:Int),.str i.2.2.2.2.1,Ae i.2.2.2.2.2.1] fun x_4 y=>rA (KY n) x [.int .i64 (AU (xh x_4)),srd x_4.1 (Aq (xh x_4) {kind:=x_4.2.2.2.2.2.1,text:=x_4.2.2.2.2.2.2.1,kids:=x_4.2.2.2.2.2.2.2,blank:=false}),.top])))) (fun x=>by kernel_rfl) fun(x:ST×Int×Int×Bool×List Nd×Int) (hx:wQ (9-x.2.2.2.2.2.toNat) (n+1) x.1 (xh x)∧0≤x.2.2.2.2.2∧x.2.2.2.2.2≤6)=>(by
 dsimp only[cA,eA,eN,lqI,lqO,Bt,Ae,AY,rA,HB,KY,Rr,HC,BQ,Bm,CG,sgs,srd,Av,AA,mvL,lnL,mvE,lnE,Bi]
 obtain⟨s,p,d,b,ns,e⟩:=x;dsimp only[xg,xh] at hx ⊢
 obtain⟨hx,h4,h5⟩:=hx
 have hx:wQ (9-e.toNat) (n+1) s ⟨p,d,b,ns⟩:=hx
 have h1:=hx.1.1.1;have hs:=h1.1
 (repeat' first|(with_reducible first|rfl|exact True.intro|apply AL|apply And.intro|((first|apply AB|apply AJ|apply AC|apply AK)<;>intro _))|(apply Az<;>intro _)|apply AI|refine Ag () ?_ ?_|((first|apply AP|apply AO|apply AN|apply AM|apply AH|apply AG|apply AF|apply AE|apply AD)<;>try dsimp only)|apply Ag|(refine Prod.forall.2 ?_;intro _;try dsimp only)|(intro _;try dsimp only))
 all_goals(try dsimp only[xg,xh,yG,yS,iG,iF] at*)
 all_goals(try simp only[FH] at*)
 all_goals first
  |(show Nat;skip)
  |rfl
  |assumption
  |exact h1
  |exact b3X hx ‹_› h5
  |exact b3Y ‹_› h5 ‹_›
  |exact b3Z hx h4 ‹_›
  |exact b4a hx h4 ‹_› ‹_›
  |exact a1Q hs ‹_›
  |exact a1R hs ‹_› ‹_›
  |exact b3p
  |(simp only[US];done)
  |exact(JJ ‹_› ‹_› ‹_› ‹_›).1
  |exact(JJ ‹_› ‹_› ‹_› ‹_›).2.1
  |exact(JJ ‹_› ‹_› ‹_› ‹_›).2.2.1
  |exact(JJ ‹_› ‹_› ‹_› ‹_›).2.2.2
  |exact b3q ‹_› ‹_› ‹_› ‹_›
  |exact(UT ‹_› ‹_› ‹_› ‹_›).1
  |exact b3r ‹_› ‹_› ‹_›
  |exact a1S hx h4 ‹_› ‹_› ‹_› ‹_›
  |exact b4b hx h4 ‹_› ‹_› ‹_› ‹_› (bf ‹_›)
  |exact(a1T hs h4 ‹_› ‹_› ‹_› ‹_› (bf ‹_›) (bf ‹_›) ‹_›).1
  |exact(Ry h4 ‹_› ‹_› ‹_› ‹_› (.inl (bt ‹_›)) ‹_›).1
  |exact(Ry h4 ‹_› ‹_› ‹_› ‹_› (.inr (bt ‹_›)) ‹_›).1
  |exact b4c ‹_› ‹_› ‹_› ‹_› ‹_› ‹_›
  |exact b4d hs ‹_› ‹_› ‹_› ‹_› ‹_›
  |exact b4e ‹_› ‹_› ‹_› ‹_›
  |exact b4f hs ‹_› ‹_› ‹_›
  |((try simp only[AR]);omega)
  |(have hq:=b4h (show mkQ _ _ _ _ _ by assumption);(try simp only[AR]);omega)
  |(have hq:=b4g hs (show csJ _ _ _ _ _ _ _ _ by assumption);(try simp only[Bb,List.length_append,List.length_cons,List.length_nil]);omega)
  |skip
 all_goals first
  |exact(a1T hs h4 ‹_› ‹_› ‹_› ‹_› (bf ‹_›) (bf ‹_›) ‹_›).2
  |exact(Ry h4 ‹_› ‹_› ‹_› ‹_› (.inl (bt ‹_›)) ‹_›).2
  |exact(Ry h4 ‹_› ‹_› ‹_› ‹_› (.inr (bt ‹_›)) ‹_›).2
  |(simp only[US];done)
  |skip
 all_goals(try(repeat(rename(BI _)[_]? =some _=>hq;revert hq;rename(BI _)[_]? =some _=>hr;intro hq;rw[hr] at hq;cases hq)))
 all_goals first
  |exact(UT ‹_› ‹_› ‹_› ‹_›).1
  |exact(JJ ‹_› ‹_› ‹_› ‹_›).1
  |exact(JJ ‹_› ‹_› ‹_› ‹_›).2.1
  |exact(JJ ‹_› ‹_› ‹_› ‹_›).2.2.1
  |exact(JJ ‹_› ‹_› ‹_› ‹_›).2.2.2
  |(rw[Di ‹_›];done)
  |skip)
def KZ(n:Nat):Sig:= {X:=ST×Int×Int×Bool×List Nd,args:=fun x=>[srd x.1 (xg x)],pre:=fun x=>vQ 10 (n+1) x.1 (xg x),Y:=Int×Int×Int×Bool×List Nd,post:=fun x y=>Ah x.1.sg (xg x) (pE x.1.sg (n+1) .pick) (yS y),res:=fun x y=> .int .i64 y.1,outs:=fun x y=>[srd x.1 (yG y.2)],keep:=true}
theorem b4p(n:Nat)(h:qAll G n):Al G Tryz.prog 187 (KZ n):=
 vcFun_okP [(202,0,(HB n)),(142,0,BQ),(187,0,(Gm n)),(141,0,BF),(117,0,Bm)] [(26,⟨Int,Bh⟩)] false (fun x=>[]) Tryz.func187 rfl (by decide) ⟨h.chain,GU,h.pick,Hy,GV,trivial⟩ (fun(x:ST×Int×Int×Bool×List Nd)=>True∧Aa (xg x).bad (rA (KZ n) x [.int .i64 (0:Int),srd x.1 (xg x)]) (inR IntKind.i64 ((xg x).deep+(1:Int))∧Aa (decide ((xg x).deep+(1:Int)>(20:Int))) (cA (HB n) [.box 0 [sgs x.1.sg,.int .i64 (xg x).pos,.bool true,.int .i64 ((xg x).deep+(1:Int)),AY (xg x).nodes],.int .i64 (0:Int)] fun x_1 y=>cA BQ [srd x_1.1 (yG y.2),.str #[(63:UInt8)].toList] fun x_2 y_1=>Aa (isG x_2.1.sg (xh x_2) (4:Int) x_2.2.2.2.2.2) (cA (Gm n) [srd x_2.1 (Aw x_2.1.sg (xh x_2) x_2.2.2.2.2.2)] fun x_3 y_2=>cA BF [srd x_3.1 (yG y_2.2),.str #[(58:UInt8)].toList] fun x_4 y_3=>cA (Gm n) [srd x_4.1 (Au x_4.1.sg (xh x_4) x_4.2.2.2.2.2)] fun x_5 y_4=>∃(x_6:Int),y.1=x_6∧∃(x_7:Int),y_2.1=x_7∧∃(x_8:Int),y_4.1=x_8∧cA Bm [srd x_5.1 (yG y_4.2),.int .i64 (8:Int),.str #[].toList,Ae [x_6,x_7,x_8]] fun x_9 y=>inR IntKind.i64 ((Aq (xh x_9) {kind:=x_9.2.2.2.2.2.1,text:=x_9.2.2.2.2.2.2.1,kids:=x_9.2.2.2.2.2.2.2,blank:=false}).deep-(1:Int))∧rA (KZ n) x [.int .i64 (AU (xh x_9)),.box 0 [sgs x_9.1.sg,.int .i64 (Aq (xh x_9) {kind:=x_9.2.2.2.2.2.1,text:=x_9.2.2.2.2.2.2.1,kids:=x_9.2.2.2.2.2.2.2,blank:=false}).pos,.bool (Aq (xh x_9) {kind:=x_9.2.2.2.2.2.1,text:=x_9.2.2.2.2.2.2.1,kids:=x_9.2.2.2.2.2.2.2,blank:=false}).bad,.int .i64 ((Aq (xh x_9) {kind:=x_9.2.2.2.2.2.1,text:=x_9.2.2.2.2.2.2.1,kids:=x_9.2.2.2.2.2.2.2,blank:=false}).deep-(1:Int)),AY (Aq (xh x_9) {kind:=x_9.2.2.2.2.2.1,text:=x_9.2.2.2.2.2.2.1,kids:=x_9.2.2.2.2.2.2.2,blank:=false}).nodes]]) (inR IntKind.i64 ((Aw x_2.1.sg (xh x_2) x_2.2.2.2.2.2).deep-(1:Int))∧rA (KZ n) x [.int .i64 y.1,.box 0 [sgs x_2.1.sg,.int .i64 (Aw x_2.1.sg (xh x_2) x_2.2.2.2.2.2).pos,.bool (Aw x_2.1.sg (xh x_2) x_2.2.2.2.2.2).bad,.int .i64 ((Aw x_2.1.sg (xh x_2) x_2.2.2.2.2.2).deep-(1:Int)),AY (Aw x_2.1.sg (xh x_2) x_2.2.2.2.2.2).nodes]])) (cA (HB n) [.box 0 [sgs x.1.sg,.int .i64 (xg x).pos,.bool (xg x).bad,.int .i64 ((xg x).deep+(1:Int)),AY (xg x).nodes],.int .i64 (0:Int)] fun x_1 y=>cA BQ [srd x_1.1 (yG y.2),.str #[(63:UInt8)].toList] fun x_2 y_1=>Aa (isG x_2.1.sg (xh x_2) (4:Int) x_2.2.2.2.2.2) (cA (Gm n) [srd x_2.1 (Aw x_2.1.sg (xh x_2) x_2.2.2.2.2.2)] fun x_3 y_2=>cA BF [srd x_3.1 (yG y_2.2),.str #[(58:UInt8)].toList] fun x_4 y_3=>cA (Gm n) [srd x_4.1 (Au x_4.1.sg (xh x_4) x_4.2.2.2.2.2)] fun x_5 y_4=>∃(x_6:Int),y.1=x_6∧∃(x_7:Int),y_2.1=x_7∧∃(x_8:Int),y_4.1=x_8∧cA Bm [srd x_5.1 (yG y_4.2),.int .i64 (8:Int),.str #[].toList,Ae [x_6,x_7,x_8]] fun x_9 y=>inR IntKind.i64 ((Aq (xh x_9) {kind:=x_9.2.2.2.2.2.1,text:=x_9.2.2.2.2.2.2.1,kids:=x_9.2.2.2.2.2.2.2,blank:=false}).deep-(1:Int))∧rA (KZ n) x [.int .i64 (AU (xh x_9)),.box 0 [sgs x_9.1.sg,.int .i64 (Aq (xh x_9) {kind:=x_9.2.2.2.2.2.1,text:=x_9.2.2.2.2.2.2.1,kids:=x_9.2.2.2.2.2.2.2,blank:=false}).pos,.bool (Aq (xh x_9) {kind:=x_9.2.2.2.2.2.1,text:=x_9.2.2.2.2.2.2.1,kids:=x_9.2.2.2.2.2.2.2,blank:=false}).bad,.int .i64 ((Aq (xh x_9) {kind:=x_9.2.2.2.2.2.1,text:=x_9.2.2.2.2.2.2.1,kids:=x_9.2.2.2.2.2.2.2,blank:=false}).deep-(1:Int)),AY (Aq (xh x_9) {kind:=x_9.2.2.2.2.2.1,text:=x_9.2.2.2.2.2.2.1,kids:=x_9.2.2.2.2.2.2.2,blank:=false}).nodes]]) (inR IntKind.i64 ((Aw x_2.1.sg (xh x_2) x_2.2.2.2.2.2).deep-(1:Int))∧rA (KZ n) x [.int .i64 y.1,.box 0 [sgs x_2.1.sg,.int .i64 (Aw x_2.1.sg (xh x_2) x_2.2.2.2.2.2).pos,.bool (Aw x_2.1.sg (xh x_2) x_2.2.2.2.2.2).bad,.int .i64 ((Aw x_2.1.sg (xh x_2) x_2.2.2.2.2.2).deep-(1:Int)),AY (Aw x_2.1.sg (xh x_2) x_2.2.2.2.2.2).nodes]])))) (fun x=>by kernel_rfl) fun(x:ST×Int×Int×Bool×List Nd) (hx:vQ 10 (n+1) x.1 (xg x))=>(by
 dsimp only[cA,Bt,Ae,AY,rA,HB,BQ,Gm,KZ,Bm,BF,CG,sgs,srd,Av,AA,mvL,lnL,mvE,lnE]
 obtain⟨s,p,d,b,ns⟩:=x;dsimp only[xg,xh] at hx ⊢
 have hx:vQ 10 (n+1) s ⟨p,d,b,ns⟩:=hx
 have h1:=hx.1.1.1;have h2:=hx.1.1.2;have h3:=hx.1.2;have hs:=h1.1;dsimp only at h2 h3
 (repeat' first|(with_reducible first|rfl|exact True.intro|apply AL|apply And.intro|((first|apply AB|apply AJ|apply AC|apply AK)<;>intro _))|(apply Az<;>intro _)|apply AI|refine Ag () ?_ ?_|((first|apply AP|apply AO|apply AN|apply AM|apply AH|apply AG|apply AF|apply AE|apply AD)<;>try dsimp only)|apply Ag|(refine Prod.forall.2 ?_;intro _;try dsimp only)|(intro _;try dsimp only))
 all_goals(try dsimp only[xg,xh,yG,yS,iG,iF] at*)
 all_goals(try simp only[FH] at*)
 all_goals(try(first|(have hz:=b4i (b:=b) h2 ‹_› (show Ah s.sg ⟨p,d+1,true,ns⟩ (pE s.sg n (.chain _)) _ by assumption))|(have hz:=b4j ‹_› (show Ah s.sg ⟨p,d+1,b,ns⟩ (pE s.sg n (.chain _)) _ by assumption))))
 all_goals first
  |rfl
  |assumption
  |exact a1D h1.2 ‹_›
  |exact b4k hx ‹_›
  |exact b4l hx ‹_›
  |exact EH h1 hz
  |(clear hz;exact EH h1 ‹_›)
  |exact⟨a0T h1 h2 h3 hz ‹_›,hx.2⟩
  |exact⟨b1x h1 h2 h3 hz ‹_› ‹_›,hx.2⟩
  |exact b1y h1 h2 hz ‹_› ‹_› ‹_›
  |exact b1z h1 h2 hz ‹_›
  |(have hq:=b1A h1 hz ‹_›;(try dsimp only at hq);(try simp only[AR]);omega)
  |(have hq:=b1B (show Ah s.sg (Au s.sg _ _) _ _ by assumption);(try dsimp only at hq);(try simp only[AR,UF]);omega)
  |(have hq:=(Gh h1).1.2;dsimp only at hq;(try simp only[AR]);omega)
  |skip)
def Rz(n:Nat):Sig:= {X:=ST×Int×Int×Bool×List Nd,args:=fun x=>[srd x.1 (xg x)],pre:=fun x=>vQ 11 (n+1) x.1 (xg x),Y:=Int×Int×Int×Bool×List Nd,post:=fun x y=>Ah x.1.sg (xg x) (pE x.1.sg (n+1) .value) (yS y),res:=fun x y=> .int .i64 y.1,outs:=fun x y=>[srd x.1 (yG y.2)],keep:=true}
def RA(n:Nat)(x:ST×Int×Int×Bool×List Nd):LS:= {ι:=Int×Int×Bool×List Nd×List Int×Nat,inv:=fun i=>vaJ x.1.sg n (xg x) (iG i) i.2.2.2.2.1 i.2.2.2.2.2,regs:=fun i=>[(0,srd x.1 (iG i)),(4,Ae i.2.2.2.2.1)],als:=[],meas:=fun i=>i.2.2.2.2.2}
theorem b4q(n:Nat)(h:qAll G n):Al G Tryz.prog 172 (Rz n):=
 vcFun_okP [(187,0,(Gm n)),(171,0,DJ),(142,0,BQ),(138,0,Cm),(117,0,Bm),(141,0,BF),(188,0,(FJ n))] [(26,⟨Int,Bh⟩)] false (fun x=>[(5,RA n x)]) Tryz.func172 rfl (by decide) ⟨h.pick,ON,GU,JI,GV,Hy,(UX n h),trivial⟩ (fun(x:ST×Int×Int×Bool×List Nd)=>True∧cA (Gm n) [srd x.1 (xg x)] fun x_1 y=>cA DJ [srd x_1.1 (yG y.2),.int .i64 (4:Int),.str #[(46:UInt8),(46:UInt8)].toList] fun x_2 y_1=>Aa (!isG x_2.1.sg (xh x_2) x_2.2.2.2.2.2.1 x_2.2.2.2.2.2.2) (rA (Rz n) x [.int .i64 y.1,srd x_2.1 (xh x_2)]) (∃(x_3:Int),y.1=x_3∧eA (RA n x) [srd x_2.1 (xh x_2),Ae [x_3]]∧∀(i:Int×Int×Bool×List Nd×List Int×Nat),vaJ x.1.sg n (xg x) (iG i) i.2.2.2.2.1 i.2.2.2.2.2→cA BQ [srd x.1 (iG i),.str #[(46:UInt8),(46:UInt8)].toList] fun x_4 y=>Aa (isG x_4.1.sg (xh x_4) (4:Int) x_4.2.2.2.2.2) (cA Cm [srd x_4.1 (Aw x_4.1.sg (xh x_4) x_4.2.2.2.2.2),.int .i64 (1:Int)] fun x_5 y=>cA Bm [srd x_5.1 (Bf x_5.1.sg (xh x_5) x_5.2.2.2.2.2),.int .i64 (1:Int),.str (Bv x_5.1.sg (xh x_5) x_5.2.2.2.2.2),Ae []] fun x_6 y=>cA BF [srd x_6.1 (Aq (xh x_6) {kind:=x_6.2.2.2.2.2.1,text:=x_6.2.2.2.2.2.2.1,kids:=x_6.2.2.2.2.2.2.2,blank:=false}),.str #[(40:UInt8)].toList] fun x_7 y=>∃(x_8:Int),AU (xh x_6)=x_8∧cA (FJ n) [srd x_7.1 (Au x_7.1.sg (xh x_7) x_7.2.2.2.2.2),.str #[(41:UInt8)].toList,Ae [x_8]] fun x_9 y=>cA Bm [srd x_9.1 (yG y.2),.int .i64 (5:Int),.str #[].toList,Ae y.1] fun x_10 y=>∃(x_11:Int),AU (xh x_10)=x_11∧∃(zs:List Int),Ae [x_11]=Ae zs∧BG Bh∧Bb (List.length i.2.2.2.2.1+List.length zs) (8:Nat)∧eN (RA n x) i [srd x_10.1 (Aq (xh x_10) {kind:=x_10.2.2.2.2.2.1,text:=x_10.2.2.2.2.2.2.1,kids:=x_10.2.2.2.2.2.2.2,blank:=false}),Ae (i.2.2.2.2.1++zs)]) (cA Bm [srd x_4.1 (Aw x_4.1.sg (xh x_4) x_4.2.2.2.2.2),.int .i64 (10:Int),.str #[].toList,Ae i.2.2.2.2.1] fun x_5 y=>rA (Rz n) x [.int .i64 (AU (xh x_5)),srd x_5.1 (Aq (xh x_5) {kind:=x_5.2.2.2.2.2.1,text:=x_5.2.2.2.2.2.2.1,kids:=x_5.2.2.2.2.2.2.2,blank:=false})]))) (fun x=>by kernel_rfl) fun(x:ST×Int×Int×Bool×List Nd) (hx:vQ 11 (n+1) x.1 (xg x))=>(by
 dsimp only[cA,eA,eN,RA,Bt,Ae,AY,rA,DJ,BQ,Gm,Bm,Cm,Rz,FJ,BF,CG,sgs,srd,Av,AA,mvL,lnL,mvE,lnE,Bi]
 obtain⟨s,p,d,b,ns⟩:=x;dsimp only[xg,xh] at hx ⊢
 have hx:vQ 11 (n+1) s ⟨p,d,b,ns⟩:=hx
 have h1:=hx.1.1.1;have h2:=hx.1.1.2;have h3:=hx.1.2;have hs:=h1.1;dsimp only at h2 h3
 (repeat' first|(with_reducible first|rfl|exact True.intro|apply AL|apply And.intro|((first|apply AB|apply AJ|apply AC|apply AK)<;>intro _))|(apply Az<;>intro _)|apply AI|refine Ag () ?_ ?_|((first|apply AP|apply AO|apply AN|apply AM|apply AH|apply AG|apply AF|apply AE|apply AD)<;>try dsimp only)|apply Ag|(refine Prod.forall.2 ?_;intro _;try dsimp only)|(intro _;try dsimp only))
 all_goals(try dsimp only[xg,xh,yG,yS,iG] at*)
 all_goals(try simp only[FH] at*)
 all_goals first
  |(show Nat;skip)
  |rfl
  |assumption
  |exact⟨b1C h1 h2 h3,hx.2⟩
  |exact EH h1 ‹_›
  |exact b1D h1 ‹_› ‹_›
  |exact b1E h1 h2 ‹_› ‹_›
  |exact UG h1 ‹_›
  |exact(Vd hs ‹_›).1
  |exact(Vd hs ‹_›).2.1
  |exact(Vd hs ‹_›).2.2
  |exact b4m hx ‹_› ‹_›
  |exact Va hs ‹_›
  |exact(a1U hs ‹_› ‹_› ‹_›).1
  |exact b1G h1 ‹_› ‹_›
  |exact b1H h1 ‹_› ‹_›
  |omega
  |(simp;done)
  |(have hq:=b1F hs (show vaJ _ _ _ _ _ _ by assumption);(try simp only[Bb,List.length_append,List.length_cons,List.length_nil]);omega)
  |skip
 all_goals first
  |exact(a1U hs ‹_› ‹_› ‹_›).2
  |skip)
theorem Ve{r:Nat}{s:ST}{g:Gs}(hr:1≤r)(h:wQ r 0 s g):False:=b2o hr h.1
theorem a1V{r:Nat}{s:ST}{g:Gs}(hr:1≤r)(h:vQ r 0 s g):False:=b2p hr h.1
theorem b4r:qAll G 0:=
 ⟨KU Tryz.func172 rfl (by decide) (fun x h=>a1V (by omega) h),KU Tryz.func187 rfl (by decide) (fun x h=>a1V (by omega) h),
  KU Tryz.func202 rfl (by decide) (fun x h=>Ve (by have:=h.2;omega) h.1),KU Tryz.func212 rfl (by decide) (fun x h=>Ve (by omega) h),KU Tryz.func222 rfl (by decide) (fun x h=>Ve (by omega) h)⟩
theorem b4s(n:Nat):qAll G n:=by
 induction n with
 |zero=>exact b4r
 |succ n ih=>exact⟨b4q n ih,b4p n ih,b4o n ih,b3W n ih,b3V n ih⟩
def Fo:Sig:= {X:=ST×Int×Int×Bool×List Nd,args:=fun x=>[srd x.1 (xg x)],pre:=fun x=>okD x.1 (xg x)∧sgM x.1.sg,Y:=Int×Int×Int×Bool×List Nd,post:=fun x y=>Ah x.1.sg (xg x) (Cd x.1.sg) (yS y),res:=fun x y=> .int .i64 y.1,outs:=fun x y=>[srd x.1 (yG y.2)],keep:=true}
theorem a1W{s:ST}{g:Gs}(h:okD s g∧sgM s.sg):vQ 11 peN s g:=⟨b2q h.1,h.2⟩
theorem Vf:Al G Go.Proofs.Tryz.prog 172 Fo:=
 have c:=(b4s (G:=G) peN).val
 ⟨⟨c.1.1,fun x y hx hy=>c.1.2 x y (a1W hx) hy⟩,fun x hx=>c.2 x (a1W hx)⟩
end Go.My
end
section
set_option linter.unusedVariables false
set_option linter.unusedSimpArgs false
namespace Go.My
open Go.Eng
def Vg(e:Nd)(b:Bool):Nd:=⟨e.kind,e.text,e.kids,b⟩
def RB(b:Bool)(p:Int×Ps):Int×Ps:=(p.1,⟨p.2.pos,p.2.deep,p.2.nodes.set p.1.toNat (Vg (Ab p.2.nodes p.1) b)⟩)
def BL(f:Bool→Ps→PR):Prop:=∀b s,f b s=(f false s).map (RB b)∧∀p,f b s=some p→1≤p.2.nodes.length∧p.1=(p.2.nodes.length:Int)-1
theorem MI{k:Int}{t:List UInt8}{ks:List Int}:BL (fun b=>Ba ⟨k,t,ks,b⟩):=by
 intro b s
 by_cases h:300≤s.nodes.length
 ·simp only[UQ h];exact⟨rfl,fun p hp=>by cases hp⟩
 ·simp only[UP h]
  refine⟨?_,fun p hp=>by simp only[Option.some.injEq] at hp;subst hp;simp⟩
  simp only[Option.map_some,RB,Int.toNat_natCast]
  congr 3
  have e:Ab (s.nodes++[⟨k,t,ks,false⟩]) (s.nodes.length:Int)=⟨k,t,ks,false⟩:=AZ (by simp)
  rw[e]
  simp [Vg]
theorem a1X{f:Bool→Ps→PR}(h:BL f):BL (fun b s=>FE (f b s)):=by
 intro b s
 obtain⟨h1,h2⟩:=h b s
 refine⟨?_,fun p hp=> ?_⟩
 ·simp only[FE];rw[h1]
  cases f false s with
  |none=>rfl
  |some p=>rfl
 ·simp only[FE,Option.map_eq_some_iff] at hp
  obtain⟨q,hq,rfl⟩:=hp
  exact h2 q hq
theorem Fp{α:Type}{h:Ps→Option (α×Ps)}{g:Bool→α→Ps→PR}(hg:∀a,BL (fun b=>g b a)):BL (fun b s=>(h s).bind fun p=>g b p.1 p.2):=by
 intro b s
 simp only
 cases h s with
 |none=>exact⟨rfl,fun p hp=>by cases hp⟩
 |some p=>exact hg p.1 b p.2
theorem Vh{h:Ps→Option Ps}{g:Bool→Ps→PR}(hg:BL g):BL (fun b s=>(h s).bind fun p=>g b p):=by
 intro b s
 simp only
 cases h s with
 |none=>exact⟨rfl,fun p hp=>by cases hp⟩
 |some p=>exact hg b p
theorem Fq{c:Ps→Prop}[inst:∀s,Decidable (c s)]{f g:Bool→Ps→PR}(hf:BL f)(hg:BL g):BL (fun b s=>if c s then f b s else g b s):=by
 intro b s
 by_cases h:c s
 ·simp only[if_pos h];exact hf b s
 ·simp only[if_neg h];exact hg b s
theorem a1Y:BL (fun _ _=>none):=fun b s=>⟨rfl,fun p hp=>by cases hp⟩
theorem La{f:Bool→Ps→PR}{a:Ps→Ps}(h:BL f):BL (fun b s=>f b (a s)):=fun b s=>h b (a s)
theorem b4t{f:Ps→Bool→Ps→PR}(h:∀q,BL (f q)):BL (fun b s=>f s b s):=fun b s=>h s b s
theorem Vi{sg:List Sg}{k:Int}:BL (Fi sg k):=fun b s=>a1X (MI (k:=k) (t:=(sgO sg s.pos).text) (ks:=[])) b s
theorem Lb{sg:List Sg}{m:List UInt8}{k:Int}{t:List UInt8}{ks:List Int}:BL (fun b=>Br sg m ⟨k,t,ks,b⟩):=Fq (c:=fun s=>isM sg s m=true) (a1X MI) a1Y
theorem Vj{sg:List Sg}:BL (Dg sg):=
 Fp (h:=Ge sg) (g:=fun b t s=>if isM sg s [61] then(Cd sg (adv s)).bind fun q=>Br sg [59] ⟨12,t,[q.1],b⟩ q.2 else Br sg [59] ⟨12,t,[],b⟩ s) (fun t=>
  Fq (c:=fun s=>isM sg s [61]=true) (Fp (h:=fun s=>Cd sg (adv s)) (g:=fun b k s=>Br sg [59] ⟨12,t,[k],b⟩ s) (fun _=>Lb)) Lb)
theorem b4u{sg:List Sg}:BL (Gk sg):=
 Fq (c:=fun s=>isM sg s [59]=true) Lb (Fp (h:=Cd sg) (g:=fun b k s=>Br sg [59] ⟨15,[],[k],b⟩ s) (fun _=>Lb))
theorem b4v{sg:List Sg}{n:Nat}:BL (ifR sg n):=
 Fp (h:=Dl sg) (g:=fun b c s=>(BJ sg (stR sg n) s).bind fun q=>if isW sg q.2 [101,108,115,101] then(BJ sg (stR sg n) (adv q.2)).bind fun r=>Ba ⟨16,[],[c,q.1,r.1],b⟩ r.2 else Ba ⟨16,[],[c,q.1],b⟩ q.2) (fun c=>
  Fp (h:=BJ sg (stR sg n)) (g:=fun b k s=>if isW sg s [101,108,115,101] then(BJ sg (stR sg n) (adv s)).bind fun r=>Ba ⟨16,[],[c,k,r.1],b⟩ r.2 else Ba ⟨16,[],[c,k],b⟩ s) (fun k=>
   Fq (c:=fun s=>isW sg s [101,108,115,101]=true) (Fp (h:=fun s=>BJ sg (stR sg n) (adv s)) (g:=fun b r s=>Ba ⟨16,[],[c,k,r],b⟩ s) (fun _=>MI)) MI))
theorem b4w{sg:List Sg}{n:Nat}:BL (whR sg n):=
 Fp (h:=Dl sg) (g:=fun b c s=>(BJ sg (stR sg n) s).bind fun q=>Ba ⟨17,[],[c,q.1],b⟩ q.2) (fun c=>Fp (h:=BJ sg (stR sg n)) (g:=fun b k s=>Ba ⟨17,[],[c,k],b⟩ s) (fun _=>MI))
theorem b4x{sg:List Sg}:BL (doR sg):=Fp (h:=Cd sg) (g:=fun b k s=>Br sg [59] ⟨14,[],[k],b⟩ s) (fun _=>Lb)
theorem Vk{sg:List Sg}:∀ {n:Nat},BL (stR sg n)
 |0=>a1Y
 |n+1=>by
  intro b s
  rw[IQ,IQ]
  exact Fq (c:=fun s=>(sgO sg s.pos).kind=5) Vi (Fq (c:=fun s=>isW sg s [118,97,114]=true) (La (a:=adv) Vj) (Fq (c:=fun s=>isW sg s [114,101,116,117,114,110]=true) (La (a:=adv) b4u)
   (Fq (c:=fun s=>isW sg s [105,102]=true) (La (a:=adv) b4v) (Fq (c:=fun s=>isW sg s [119,104,105,108,101]=true) (La (a:=adv) b4w)
     (Fq (c:=fun s=>(Df sg s.pos&&isM sg (adv s) [61])=true) (b4t (f:=fun q b s=>(Cd sg (adv (adv s))).bind fun p=>Br sg [59] ⟨13,(sgO sg q.pos).text,[p.1],b⟩ p.2) (fun q=>Fp (h:=fun s=>Cd sg (adv (adv s))) (g:=fun b k s=>Br sg [59] ⟨13,(sgO sg q.pos).text,[k],b⟩ s) (fun _=>Lb))) b4x))))) b s
theorem a1Z{sg:List Sg}:BL (Gg sg):=
 Fp (h:=Ge sg) (g:=fun b t s=>(Bz sg [40] s).bind fun s1=>(Bu sg (BP sg) [41] (sg.length+1) [] s1).bind fun q=>(Bz sg [41] q.2).bind fun s2=>(EU sg s2).bind fun r=>Ba ⟨20,t,q.1++[r.1],b⟩ r.2) (fun t=>
  Vh (h:=Bz sg [40]) (g:=fun b s1=>(Bu sg (BP sg) [41] (sg.length+1) [] s1).bind fun q=>(Bz sg [41] q.2).bind fun s2=>(EU sg s2).bind fun r=>Ba ⟨20,t,q.1++[r.1],b⟩ r.2)
   (Fp (h:=Bu sg (BP sg) [41] (sg.length+1) []) (g:=fun b ks s=>(Bz sg [41] s).bind fun s2=>(EU sg s2).bind fun r=>Ba ⟨20,t,ks++[r.1],b⟩ r.2) (fun ks=>
     Vh (h:=Bz sg [41]) (g:=fun b s2=>(EU sg s2).bind fun r=>Ba ⟨20,t,ks++[r.1],b⟩ r.2) (Fp (h:=EU sg) (g:=fun b k s=>Ba ⟨20,t,ks++[k],b⟩ s) (fun _=>MI)))))
theorem Vl{sg:List Sg}:BL (CV sg):=Fq (c:=fun s=>(sgO sg s.pos).kind=5) Vi (Fq (c:=fun s=>isW sg s [118,97,114]=true) (La (a:=adv) Vj) a1Z)
theorem b4y{sg:List Sg}:BL (GR sg):=
 Fp (h:=Ge sg) (g:=fun b t s=>(Bz sg [123] s).bind fun s1=>(Cy sg (CV sg) [125] (sg.length+1) [] s1).bind fun q=>Br sg [125] ⟨21,t,q.1,b⟩ q.2) (fun t=>
  Vh (h:=Bz sg [123]) (g:=fun b s1=>(Cy sg (CV sg) [125] (sg.length+1) [] s1).bind fun q=>Br sg [125] ⟨21,t,q.1,b⟩ q.2)
   (Fp (h:=Cy sg (CV sg) [125] (sg.length+1) []) (g:=fun b ks s=>Br sg [125] ⟨21,t,ks,b⟩ s) (fun _=>Lb)))
theorem Vm{sg:List Sg}:BL (Dh sg):=Fq (c:=fun s=>(sgO sg s.pos).kind=5) Vi (Fq (c:=fun s=>isW sg s [118,97,114]=true) (La (a:=adv) Vj) (Fq (c:=fun s=>isW sg s [99,108,97,115,115]=true) (La (a:=adv) b4y) a1Z))
theorem a2a{sg:List Sg}{x y:Gs}{f:Bool→Ps→PR}{k:Int}(hf:BL f)(h:Ah sg x (f false) (k,y))(hb:y.bad=false):1≤y.nodes.length∧k=(y.nodes.length:Int)-1:=by
 obtain⟨⟨a1,a2,a3,a4,a5⟩,_⟩:=h
 simp only at a4 a5
 rw[CL hb] at a4
 cases hp:(pur x).bind (f false) with
 |none=>rw[hp] at a4;cases a4
 |some p=>
  rw[hp] at a4
  simp only[Option.map_some,Option.some.injEq] at a4
  have e:=a5 p hp
  cases hs:pur x with
  |none=>rw[hs] at hp;cases hp
  |some s=>
   rw[hs] at hp;simp only[Option.bind_some] at hp
   have:=(hf false s).2 p hp
   rw[←a4] at this;simp only at this;rw[e];exact this
theorem Vn{sg:List Sg}{x y:Gs}{f:Bool→Ps→PR}{k:Int}{b:Bool}(hf:BL f)(h:Ah sg x (f false) (k,y)):Ah sg x (f b) (k,gBl y k b):=by
 have hk:=a2a hf h
 obtain⟨⟨a1,a2,a3,a4,a5⟩,c⟩:=h
 simp only at a1 a2 a3 a4 a5 c
 have eb:(pur x).bind (f b)=((pur x).bind (f false)).map (RB b):=by
  cases pur x with
  |none=>rfl
  |some s=>exact(hf b s).1
 cases hb:y.bad with
 |true=>
  have e:gBl y k b=y:=by rw[gBl,if_neg (by simp [hb])]
  rw[e]
  rw[DG hb] at a4
  have hn:(pur x).bind (f false)=none:=by
   cases hp:(pur x).bind (f false) with
   |none=>rfl
   |some p=>rw[hp] at a4;cases a4
  refine⟨⟨a1,a2,a3,?_,fun p hp=> ?_⟩,c⟩
  ·rw[eb,hn,DG hb];rfl
  ·rw[eb,hn] at hp;cases hp
 |false=>
  obtain⟨k1,k2⟩:=hk hb
  have hlt:k<(y.nodes.length:Int):=by omega
  have e:gBl y k b=⟨y.pos,y.deep,y.bad,y.nodes.set k.toNat (Vg (Ab y.nodes k) b)⟩:=by rw[gBl,if_pos ⟨hb,hlt⟩];rfl
  rw[e]
  have hat:CK (Ab y.nodes k):=by
   have hkl:k.toNat<y.nodes.length:=by omega
   have:=a1.2.2.2 (y.nodes[k.toNat]) (List.getElem_mem hkl)
   rw[AZ (List.getElem?_eq_getElem hkl)];exact this
  refine⟨⟨⟨a1.1,a1.2.1,by simpa using a1.2.2.1,fun w hw=> ?_⟩,a2,a3,?_,fun p hp=> ?_⟩,c⟩
  ·rcases List.mem_or_eq_of_mem_set hw with hw|hw
   ·exact a1.2.2.2 w hw
   ·subst hw;exact hat
  ·rw[eb]
   rw[CL hb] at a4
   cases hp:(pur x).bind (f false) with
   |none=>rw[hp] at a4;cases a4
   |some p=>
    rw[hp] at a4
    simp only[Option.map_some,Option.some.injEq] at a4 ⊢
    have:=a5 p hp
    rw[CL (by exact hb)]
    simp only[RB,←a4,this]
  ·rw[eb,Option.map_eq_some_iff] at hp
   obtain⟨q,hq,rfl⟩:=hp
   exact a5 q hq
theorem MJ{sg:List Sg}{x y:Gs}{f:Bool→Ps→PR}{k:Int}(hf:BL f)(h:Ah sg x (f false) (k,y)):y.bad=false→0≤k:=fun hb=>by have:=a2a hf h hb;omega
theorem Vo{sg:List Sg}{y:Gs}(hb:y.bad=false):blG sg y=(pkG sg y 0).blank:=by
 rw[blG,pkG]
 by_cases h:y.pos<sg.length
 ·rw[if_neg (by simp [hb];omega)];simp [h]
 ·rw[if_pos (.inr (by omega))];simp [h,Ep]
theorem b4z{sg:List Sg}{x:Gs}{one:Bool→Ps→PR}(h:gsOk sg x)(hd:x.deep≤20):restP sg x (BJ sg one) (pkX (Au sg x [123]))
 (fun s1=>(Cy sg one [125] (sg.length+1) [] s1).bind fun p=>(Br sg [125] ⟨18,[],p.1,false⟩ p.2).map fun q=>(q.1,dp q.2 (-1))) 1:=by
 have t:=GT (m:=[123]) h
 have a:=b1P (one:=one) h hd
 have t1:=t.1;have t2:=t.2.1
 by_cases h20:x.deep=20
 ·rw[if_pos h20] at a
  have e:pkX (Au sg x [123])=gDp (Bs (Au sg x [123])) 1:=by rw[pkX,if_pos (by omega)]
  have e2:Au sg (gDp (Bs x) 1) [123]=gDp (Bs x) 1:=Ro rfl
  rw[e2] at a
  rw[e]
  refine UN a ⟨t1.1,by simp only[gDp,Bs];omega,t1.2.2⟩ (by simp only[gDp,Bs];omega) (by simp only[gDp,Bs];omega) rfl
 ·rw[if_neg h20] at a
  have e:pkX (Au sg x [123])=gDp (Au sg x [123]) 1:=by rw[pkX,if_neg (by omega)]
  rw[e]
  have e2:Au sg (gDp x 1) [123]=gDp (Au sg x [123]) 1:=by
   have:isG sg (gDp x 1) 4 [123]=isG sg x 4 [123]:=rfl
   cases hq:isG sg x 4 [123] with
   |true=>rw[IR hq,IR (by rw[this];exact hq)];rfl
   |false=>rw[OP hq,OP (by rw[this];exact hq)];rfl
  rw[e2] at a;exact a
theorem a2b{g:Gs}{d:Int}{w:Nd}:Aq (gDp g d) w=gDp (Aq g w) d∧AU (gDp g d)=AU g:=by
 have hf:Dm (gDp g d)=Dm g:=rfl
 unfold Aq AU
 rw[hf]
 cases Dm g<;>exact⟨rfl,rfl⟩
theorem a2c{sg:List Sg}{one:Bool→Ps→PR}{x:Gs}{l:List Int×Gs}(h:gsOk sg x)(hd:x.deep≤20)(hl:Bx sg (pkX (Au sg x [123])) (Cy sg one [125] (sg.length+1) []) l)(hll:l.1.length≤3001):
 Ah sg x (BJ sg one) (AU (gDp (Au sg l.2 [125]) (-1)),Aq (gDp (Au sg l.2 [125]) (-1)) ⟨18,[],l.1,false⟩):=by
 have k1:=BM (k:=fun ks s=>(Br sg [125] ⟨18,[],ks,false⟩ s).map fun q=>(q.1,dp q.2 (-1))) (b4z h hd) hl (fun _ _=>rfl)
 have hw:CK ⟨18,[],l.1,false⟩:=⟨by simp,by simp only;omega⟩
 have hc:=Hz k1.1 hw (Mu (m:=[125]) k1.1 hw)
 have k2:=BM (k:=fun k s=>some (k,dp s (-1))) k1 hc.1 (fun s _=>by cases Br sg [125] ⟨18,[],l.1,false⟩ s<;>rfl)
 simp only at k2
 rw[(a2b (w:=⟨18,[],l.1,false⟩)).1,(a2b (w:=⟨18,[],l.1,false⟩)).2]
 refine⟨Gi (KR (e:= -1) k2 ?_ (fun s hs=>rfl)),fun hb=> ?_⟩
 ·have:=k2.2.1;have:=h.2.1;omega
 ·have:=hc.2 hb
  have:=k1.2.2.1
  simp only[gDp] at*;omega
end Go.My
end
