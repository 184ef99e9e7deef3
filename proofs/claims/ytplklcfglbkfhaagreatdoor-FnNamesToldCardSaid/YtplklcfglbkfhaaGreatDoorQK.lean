/- A part of the proof: the engine and the contracts, joined. -/
import Derived.Test.YtplklcfglbkfhaaGreatDoorQJ
section
set_option linter.unusedVariables false
set_option linter.unusedSimpArgs false
namespace Go.My
open Go.Eng
theorem MR{sg:List Sg}{x:Gs}{f:Ps→PR}{k k':Int}{y y':Gs}(h:Aj sg x f (k,y))(h1:gsOk sg y')(h2:y'.deep=y.deep)(h3:y.pos≤y'.pos)(h4:pur y'=pur y)(h5:y'.bad=false→k'=k):Aj sg x f (k',y'):=by
 obtain⟨⟨a1,a2,a3,a4,a5⟩,b⟩:=h
 simp only at a1 a2 a3 a4 a5 b
 have hb:y'.bad=y.bad:=by
  cases hy:y.bad with
  |true=>exact a1m.1 (h4.trans (DI hy))
  |false=>
   cases hy':y'.bad with
   |false=>rfl
   |true=>rw[DI hy',CR hy] at h4;cases h4
 refine⟨⟨h1,by simp only;omega,by simp only;omega,by simp only;rw[h4];exact a4,fun p hp=> ?_⟩,fun hw=> ?_⟩
 ·simp only
  have:=a5 p hp
  rw[h5 ?_]
  ·exact this
  ·cases hy:y'.bad with
   |false=>rfl
   |true=>rw[←h4,DI hy,hp] at a4;cases a4
 ·simp only at hw ⊢
  have:=b (by rw[←hb];exact hw);omega
theorem Vn{α:Type}{sg:List Sg}{x y y':Gs}{f g:Ps→Option (α×Ps)}{d:Int}(h:restP sg x f y g d)(h1:gsOk sg y')(h2:y'.deep=y.deep)(h3:y.pos≤y'.pos)(h4:pur y'=pur y):restP sg x f y' g d:=by
 obtain⟨a1,a2,a3,a4⟩:=h
 exact⟨h1,by omega,by omega,by rw[h4];exact a4⟩
theorem Vo{sg:List Sg}{g:Gs}{w:Nd}(h:gsOk sg g)(hl:g.pos<sg.length)(hw:CQ w):gsOk sg (As (Aw g) w)∧(As (Aw g) w).deep=(CT (As g w)).deep∧(CT (As g w)).pos≤(As (Aw g) w).pos∧pur (As (Aw g) w)=pur (CT (As g w))∧AX (Aw g)=AX g:=by
 refine⟨Pa (FR h hl) hw,?_⟩
 cases hf:Dr g with
 |true=>
  have hf2:Dr (Aw g)=true:=hf
  simp only[As,AX,hf,hf2,if_true]
  simp [CT,Bv,Aw,pur];omega
 |false=>
  have hf2:Dr (Aw g)=false:=hf
  have:=(Rm hf).1
  simp only[As,AX,hf,hf2,Bool.false_eq_true,if_false]
  simp [CT,Bv,Aw,pur,this]
theorem HJ{sg:List Sg}{x g:Gs}{f:Ps→PR}{m:List UInt8}{w:Nd}(hg:gsOk sg g)(hw:CQ w)(h:Aj sg x f (Cy sg g m,Cx sg g m w)):Aj sg x f (AX (AK sg g m),As (AK sg g m) w):=by
 cases hq:isG sg g 4 m with
 |true=>
  obtain⟨a,b,c,d,e⟩:=Vo hg (CS hq (by omega)).2 hw
  simp only[Cx,Cy,AK,hq,if_true] at h ⊢
  exact MR h a b c d (fun _=>e)
 |false=>
  simp only[Cx,Cy,AK,hq,Bool.false_eq_true,if_false] at h ⊢
  have hf:Dr (Bv g)=true:=by simp [Dr,Bv]
  simp only[As,AX,hf,if_true]
  exact MR h hg rfl (Int.le_refl _) rfl (fun _=>rfl)
theorem Pm{sg:List Sg}{g:Gs}{k:Int}(hk:k≠1):kdG sg g k=decide ((pkG sg g 0).kind=k):=by simp [kdG,hk]
theorem MS{sg:List Sg}{x g:Gs}{f:Ps→PR}{k c:Int}(hs:sgB sg)(hg:gsOk sg g)(hk:k≠0)(hq:kdG sg g k=true)(h:Aj sg x f (AX g,Eh sg g c false)):Aj sg x f (AX (Bi sg g k),As (Bi sg g k) ⟨c,Bx sg g k,[],false⟩):=by
 have hl:=RD hk hq
 have hw:CQ ⟨c,(pkG sg g 0).text,[],false⟩:=⟨Pb hs,by simp⟩
 obtain⟨a1,a2,a3,a4,a5⟩:=Vo hg hl.2 hw
 simp only[Bi,Bx,hq,if_true]
 exact MR h a1 a2 a3 a4 (fun _=>a5)
theorem b3v{sg:List Sg}{g:Gs}(hs:sgB sg)(hg:gsOk sg g):Aj sg g (BS sg) (AX (Bi sg g 1),As (Bi sg g 1) ⟨1,Bx sg g 1,[],false⟩):=by
 have h:=Ro hs hg
 cases hq:nmG sg g 0 with
 |true=>
  refine MS hs hg (by omega) (by rw[Iv];exact hq) ?_
  simp only[DJ,DW,hq,if_true] at h;exact h
 |false=>
  have hq2:kdG sg g 1=false:=by rw[Iv];exact hq
  simp only[DJ,DW,hq,Bool.false_eq_true,if_false] at h
  have hf:Dr (Bv g)=true:=by simp [Dr,Bv]
  simp only[Bi,Bx,hq2,Bool.false_eq_true,if_false,As,AX,hf,if_true]
  exact MR h hg rfl (Int.le_refl _) rfl (fun _=>rfl)
theorem HK{sg:List Sg}{g:Gs}:Bi sg g 1=CB sg g∧Bx sg g 1=CM sg g:=by
 simp only[Bi,CB,Bx,CM,Iv];exact⟨trivial,trivial⟩
theorem RH{sg:List Sg}{g:Gs}{m:List UInt8}(h:g.bad=true):AK sg g m=g:=by
 have:isG sg g 4 m=false:=a1n (DI h) (by omega)
 simp only[AK,this,Bool.false_eq_true,if_false,Bv]
 cases g;simp only at h;simp [h]
theorem Jh{sg:List Sg}{g:Gs}{m:List UInt8}(h:isG sg g 4 m=true):AK sg g m=Aw g:=by simp [AK,h]
theorem Pn{sg:List Sg}{g:Gs}{m:List UInt8}(h:isG sg g 4 m=false):AK sg g m=Bv g:=by simp [AK,h]
theorem Vp{w:Nd}{s:Ps}(h:¬300≤s.nodes.length):Bb w s=some ((s.nodes.length:Int),⟨s.pos,s.deep,s.nodes++[w]⟩):=if_neg h
theorem Vq{w:Nd}{s:Ps}(h:300≤s.nodes.length):Bb w s=none:=if_pos h
def chS(sg:List Sg)(n l:Nat)(x y:Gs)(t:List UInt8)(ks:List Int)(N:Nat):Prop:=
 restP sg x (pE sg (n+1) (.chain l)) y (chF sg n l N t ks) 0∧(2*((sg.length:Int)-y.pos)+4≤N∨(t=[]∧2*((sg.length:Int)-y.pos)+3≤N))∧(ks.length:Int)≤y.pos+1∧(y.bad=false→x.pos<y.pos)∧(t=[]→ks.length=1)∧(t≠[]→2≤ks.length∧t∈BM l)
theorem b3w{sg:List Sg}{x:Gs}{n l:Nat}{z:Int×Gs}(h:gsOk sg x)(hl:l≠6)(h1:Aj sg x (pE sg n (.chain (l+1))) z):chS sg n l x z.2 [] [z.1] (2*sg.length+4):=by
 obtain⟨a,b,c⟩:=b1e h hl h1
 have:=a.1.1
 exact⟨a,.inr ⟨rfl,b⟩,by simp;omega,c,fun _=>rfl,fun h=>(h rfl).elim⟩
theorem Vr{sg:List Sg}{l:Nat}{m:List UInt8}{ks:List Int}(hs:sgB sg)(hml:m∈BM l)(hk:(ks.length:Int)≤sg.length+1):CQ ⟨7,m,ks,false⟩:=by
 refine⟨?_,by have:=hs.1;simp only;omega⟩
 simp only
 unfold BM at hml
 split at hml<;>simp at hml<;>(first|(subst hml;simp)|(rcases hml with rfl|rfl<;>simp))
theorem b3x{sg:List Sg}{n l:Nat}{x y:Gs}{t:List UInt8}{ks:List Int}{N:Nat}{z:Int×Gs}(h:chS sg n l x y t ks N)(hm:CV sg l y≠[])(ht:t=[]∨CV sg l y=t)(hz:Aj sg (Aw y) (pE sg n (.chain (l+1))) z):
 chS sg n l x z.2 (CV sg l y) (ks++[z.1]) (N-1)∧N-1<N:=by
 obtain⟨h1,hN,hk,hb,hk1,hk2⟩:=h
 have hq:=(JU hm).1
 have hp:=h1.1.1
 have hl:=CS hq (by omega)
 match N with
 |0=>omega
 |M+1=>
  refine⟨?_,by omega⟩
  have k1:=Gt (g':=fun s=>(pE sg n (.chain (l+1)) s).bind fun p=>chF sg n l M (CV sg l y) (ks++[p.1]) p.2) h1 (by omega) hq (fun s hs hts=>by
   rw[chF,Gm,if_neg ?_,if_neg (by rw[JT hs];exact hm),JT hs];rfl
   rw[JT hs];rintro⟨q1,q2⟩;rcases ht with ht|ht
   ·exact q1 ht
   ·exact q2 ht)
  have k2:=BP (k:=fun k s=>chF sg n l M (CV sg l y) (ks++[k]) s) k1 hz.1 (fun _ _=>rfl)
  have e:=CE hz
  simp only[Aw] at e
  have:=h1.2.2.1
  simp only[Nat.add_sub_cancel]
  refine⟨k2,.inl (by omega),by simp;omega,fun hb2=>by omega,fun he=>(hm he).elim,fun _=>⟨?_,(JU hm).2⟩⟩
  simp only[List.length_append,List.length_cons,List.length_nil]
  rcases Classical.em (t=[]) with e0|e0
  ·have:=hk1 e0;omega
  ·have:=(hk2 e0).1;omega
theorem b3y{sg:List Sg}{n l:Nat}{x y:Gs}{t:List UInt8}{ks:List Int}{N:Nat}{z:Int×Gs}(hs:sgB sg)(h:chS sg n l x y t ks N)(hm:CV sg l y≠[])(ht:t≠[])(hne:CV sg l y≠t)(hz:Aj sg (As (Aw y) ⟨7,t,ks,false⟩) (pE sg n (.chain (l+1))) z):
 chS sg n l x z.2 (CV sg l y) ([AX (Aw y)]++[z.1]) (N-2)∧N-2<N:=by
 obtain⟨h1,hN,hk,hb,hk1,hk2⟩:=h
 have hq:=(JU hm).1
 have hp:=h1.1.1
 have hl:=CS hq (by omega)
 have hN2:2*((sg.length:Int)-y.pos)+4≤N:=by
  rcases hN with h|h
  ·exact h
  ·exact(ht h.1).elim
 match N with
 |0=>omega
 |1=>omega
 |M+2=>
  refine⟨?_,by omega⟩
  have hw:CQ ⟨7,t,ks,false⟩:=Vr hs (hk2 ht).2 (by omega)
  have k1:=Gt (g':=fun s=>(Bb ⟨7,t,ks,false⟩ s).bind fun p=>(pE sg n (.chain (l+1)) p.2).bind fun q=>chF sg n l M (CV sg l y) ([p.1]++[q.1]) q.2) h1 (by omega) hq (fun s hs hts=>by
   rw[chF,Gm,if_pos ⟨ht,by rw[JT hs];exact hne⟩]
   by_cases h3:300≤s.nodes.length
   ·rw[Vq h3,Vq (s:=adv s) h3];rfl
   ·rw[Vp h3,Vp (s:=adv s) h3]
    simp only[Option.bind_some]
    have e:IY sg l ⟨s.pos,s.deep,s.nodes++[⟨7,t,ks,false⟩]⟩=CV sg l y:=by rw[←JT hs];rfl
    rw[Gm,if_neg (by simp),if_neg (by rw[e];exact hm),e];rfl)
  have k2:=BP (k:=fun k s=>(pE sg n (.chain (l+1)) s).bind fun q=>chF sg n l M (CV sg l y) ([k]++[q.1]) q.2) k1 (Rn k1.1 hw) (fun _ _=>rfl)
  have k3:=BP (k:=fun k s=>chF sg n l M (CV sg l y) ([AX (Aw y)]++[k]) s) k2 hz.1 (fun _ _=>rfl)
  have e:=CE hz
  obtain⟨d1,d2,d3⟩:= @Je (Aw y) ⟨7,t,ks,false⟩
  rw[d2] at e;simp only[Aw] at e
  have:=h1.2.2.1
  simp only[Nat.add_sub_cancel]
  refine⟨k3,.inl (by omega),by simp;omega,fun hb2=>by omega,fun he=>(hm he).elim,fun _=>⟨by simp,(JU hm).2⟩⟩
theorem a2n{sg:List Sg}{n l:Nat}{x y:Gs}{t:List UInt8}{ks:List Int}{N:Nat}{k:Int}(h:chS sg n l x y t ks N)(hm:y.bad=true∨CV sg l y=[])(hl:ks.length=1)(hk:ks[0]? =some k):Aj sg x (pE sg (n+1) (.chain l)) (k,y):=by
 obtain⟨h1,hN,hk0,hb,hk1,hk2⟩:=h
 rcases hm with hm|hm
 ·exact⟨Pd h1 hm,fun hb2=>by simp only at hb2;rw[hm] at hb2;cases hb2⟩
 ·have ht:t=[]:=by
   rcases Classical.em (t=[]) with e0|e0
   ·exact e0
   ·have:=(hk2 e0).1;omega
  subst ht
  have hp:=h1.1.1
  match ks,hl with
  |[k0],_=>
   simp at hk;subst hk
   match N with
   |0=>omega
   |N+1=>exact⟨Gq (DK h1 (g':=fun s=>some (k0,s)) (fun s hs=>by rw[chF,Gm,if_neg (by simp),if_pos (by rw[JT hs,hm])];rfl)),hb⟩
theorem a2o{sg:List Sg}{n l:Nat}{x y:Gs}{t:List UInt8}{ks:List Int}{N:Nat}(hs:sgB sg)(h:chS sg n l x y t ks N)(hm:y.bad=true∨CV sg l y=[])(hl:ks.length≠1):Aj sg x (pE sg (n+1) (.chain l)) (AX y,As y ⟨7,t,ks,false⟩):=by
 obtain⟨h1,hN,hk0,hb,hk1,hk2⟩:=h
 have ht:t≠[]:=fun e=>hl (hk1 e)
 have hp:=h1.1.1
 have hw:CQ ⟨7,t,ks,false⟩:=Vr hs (hk2 ht).2 (by omega)
 obtain⟨d1,d2,d3⟩:= @Je y ⟨7,t,ks,false⟩
 have hN2:2*((sg.length:Int)-y.pos)+4≤N:=by
  rcases hN with h|h
  ·exact h
  ·exact(ht h.1).elim
 match N with
 |0=>omega
 |1=>omega
 |M+2=>
  have k1:restP sg x (pE sg (n+1) (.chain l)) y (Bb ⟨7,t,ks,false⟩) 0:=by
   rcases hm with hm|hm
   ·exact DK h1 (fun s hs=>by rw[DI hm] at hs;cases hs)
   ·refine DK h1 (fun s hs=> ?_)
    rw[chF,Gm,if_pos ⟨ht,by rw[JT hs,hm];exact Ne.symm ht⟩,Bb]
    split
    ·rfl
    ·simp only[Option.bind_some]
     have e:IY sg l ⟨s.pos,s.deep,s.nodes++[⟨7,t,ks,false⟩]⟩=[]:=by rw[←hm,←JT hs];rfl
     rw[Gm,if_neg (by simp),if_pos e];rfl
  exact⟨Rr k1 hw,fun hb2=>by simp only[d2];exact hb (d3 hb2)⟩
def gM(y:Gs)(m:List UInt8):Gs:=if m=[] then y else Aw y
theorem Vs{y:Gs}:gM y []=y:=rfl
theorem RI{y:Gs}{m:List UInt8}(h:m≠[]):gM y m=Aw y:=if_neg h
def mkQ(sg:List Sg)(y:Gs)(l:Nat)(i:Int)(m:List UInt8):Prop:=(0≤i∧i≤(BM l).length)∧((m=[]∧CV sg l y=(((BM l).drop i.toNat).find? fun m=>isG sg y 4 m).getD [])∨(m≠[]∧m=CV sg l y))
theorem b3z{sg:List Sg}{y:Gs}{l:Nat}:mkQ sg y l 0 []:=⟨by omega,.inl ⟨rfl,rfl⟩⟩
theorem b3A{sg:List Sg}{y:Gs}{l:Nat}{i:Int}{m v:List UInt8}(h:mkQ sg y l i m)(hm:m=[])(ha:(BM l)[i.toNat]? =some v)(hg:isG sg (gM y m) 4 v=false):mkQ sg y l (i+1) m:=by
 subst hm
 have hlt:=(List.getElem?_eq_some_iff.1 ha).1
 refine⟨by have:=h.1;omega,?_⟩
 rcases h.2 with h2|h2
 ·left;refine⟨rfl,?_⟩
  rw[h2.2,List.drop_eq_getElem_cons hlt,(List.getElem?_eq_some_iff.1 ha).2,List.find?_cons_of_neg (by simp;exact hg),show(i+1).toNat=i.toNat+1 by have:=h.1;omega]
 ·exact(h2.1 rfl).elim
theorem Vt{sg:List Sg}{y:Gs}{l:Nat}{i:Int}{m v:List UInt8}(h:mkQ sg y l i m)(hm:m=[])(ha:(BM l)[i.toNat]? =some v)(hg:isG sg (gM y m) 4 v=true):mkQ sg y l (i+1) v∧AP sg (gM y m) v=gM y v:=by
 subst hm
 have hlt:=(List.getElem?_eq_some_iff.1 ha).1
 have hv:=b1f (List.mem_of_getElem? ha)
 refine⟨⟨by have:=h.1;omega,.inr ⟨hv,?_⟩⟩,?_⟩
 ·exact(b1h (List.mem_of_getElem? ha) hg).symm
 ·rw[Vs] at hg ⊢;rw[RI hv];exact Ek hg
theorem b3B{sg:List Sg}{y:Gs}{l:Nat}{i:Int}{m:List UInt8}(h:mkQ sg y l i m)(hi:i<((BM l).length:Int))(hm:m≠[]):mkQ sg y l (i+1) m:=by
 refine⟨by have:=h.1;omega,?_⟩
 rcases h.2 with h2|h2
 ·exact(hm h2.1).elim
 ·exact .inr h2
theorem RJ{sg:List Sg}{y:Gs}{l:Nat}{i:Int}{m:List UInt8}(h:mkQ sg y l i m)(hi:¬i<((BM l).length:Int)):m=CV sg l y:=by
 rcases h.2 with h2|h2
 ·rw[h2.2,List.drop_eq_nil_of_le (by omega),h2.1];rfl
 ·exact h2.2
theorem a2p{sg:List Sg}{x:Gs}{f:Ps→PR}{a:Int}(h:gsOk sg x)(hb:x.bad=true):Aj sg x f (a,x):=⟨Pd (CU h) hb,fun hb2=>by simp only at hb2;rw[hb] at hb2;cases hb2⟩
theorem b3C{sg:List Sg}{n:Nat}{x y y':Gs}{k k':Int}{N:Nat}(h:enI sg n x y k N)(h1:gsOk sg y')(h2:y'.deep=y.deep)(h3:y.pos≤y'.pos)(h4:pur y'=pur y)(h5:y'.bad=false→k'=k):enI sg n x y' k' N:=by
 obtain⟨a,b,c⟩:=h
 cases hb:y'.bad with
 |false=>
  have hy:y.bad=false:=by
   cases hy:y.bad with
   |false=>rfl
   |true=>rw[DI hy,CR hb] at h4;cases h4
  rw[h5 hb]
  exact⟨Vn a h1 h2 h3 h4,fun _=>by have:=b hy;omega,fun _=>by have:=c hy;omega⟩
 |true=>
  have hy:y.bad=true:=by
   cases hy:y.bad with
   |true=>rfl
   |false=>rw[DI hb,CR hy] at h4;cases h4
  refine⟨DK (Vn a h1 h2 h3 h4) (fun s hs=>by rw[DI hb] at hs;cases hs),fun e=>(Bool.noConfusion (hb.symm.trans e)),fun e=>(Bool.noConfusion (hb.symm.trans e))⟩
theorem b3D{sg:List Sg}{n:Nat}{x y:Gs}{a k:Int}{N:Nat}(h:Aj sg x (pE sg (n+1) .fin) (a,y))(hb:y.bad=true):enI sg n x y k N:=
 ⟨DK (b0M h.1) (fun s hs=>by rw[DI hb] at hs;cases hs),fun e=>(Bool.noConfusion (hb.symm.trans e)),fun e=>(Bool.noConfusion (hb.symm.trans e))⟩
theorem b3E{sg:List Sg}{n:Nat}{x y:Gs}{k:Int}{N:Nat}(hs:sgB sg)(h:enI sg n x y k N)(hp:isG sg y 4 [40]=false)(hq:isG sg y 4 [46]=true):
 enI sg n x (As (Bi sg (Aw y) 1) ⟨6,Bx sg (Aw y) 1,[k],false⟩) (AX (Bi sg (Aw y) 1)) (N-1)∧N-1<N:=by
 have hl:=CS hq (by omega)
 obtain⟨M,rfl⟩:=Pf h hl.1
 refine⟨?_,by omega⟩
 have ho:=FR h.1.1 hl.2
 have hw:CQ ⟨6,(pkG sg (Aw y) 0).text,[k],false⟩:=⟨Pb hs,by simp⟩
 cases hn:nmG sg (Aw y) 0 with
 |true=>
  obtain⟨M',e,h2⟩:=b1l hs h hp hq hn
  have:M'=M:=by omega
  subst this
  obtain⟨a1,a2,a3,a4,a5⟩:=Vo ho (by have:=(Rk hn).2;omega) hw
  have e1:Bi sg (Aw y) 1=Aw (Aw y):=by rw[Bi,Iv,if_pos hn]
  have e2:Bx sg (Aw y) 1=(pkG sg (Aw y) 0).text:=by rw[Bx,Iv,if_pos hn]
  rw[e1,e2]
  exact b3C h2 a1 a2 a3 a4 (fun _=>a5)
 |false=>
  have h2:=b1m (a:=0) h hp hq hn
  have e1:Bi sg (Aw y) 1=Bv (Aw y):=by rw[Bi,Iv,if_neg (by simp [hn])]
  have hf:Dr (Bv (Aw y))=true:=by simp [Dr,Bv]
  rw[e1]
  have e3:As (Bv (Aw y)) ⟨6,Bx sg (Aw y) 1,[k],false⟩=Bv (Bv (Aw y)):=if_pos hf
  rw[e3]
  exact b3D (a:=0) (MR h2 ho rfl (Int.le_refl _) rfl (fun _=>rfl)) rfl
def vlQ(sg:List Sg)(one:Ps→PR)(m:List UInt8)(ks0:List Int)(x:Gs)(y:List Int×Gs):Prop:=∃l:List Int×Gs,(BB sg x (Bw sg one m (sg.length+1) []) l∧l.1.length≤3001)∧y=(ks0++l.1,AK sg l.2 m)
theorem Vu{s:ST}{one:Ps→PR}{m:List UInt8}{ks0:List Int}{x:Gs}{y:List Int×Gs}(hs:sgB s.sg)(h:vlQ s.sg one m ks0 x y):rOk s y.2∧y.1.length≤ks0.length+3001∧y.2.deep=x.deep∧x.pos≤y.2.pos:=by
 obtain⟨l,⟨h1,h2⟩,rfl⟩:=h
 have t:=Hc (m:=m) h1.1
 have:=h1.2.1;have:=h1.2.2.1
 exact⟨⟨hs,t.1⟩,by simp;omega,by simp only;omega,by simp only;omega⟩
theorem a2q{sg:List Sg}{x:Gs}{one:Ps→PR}{k:Int}{y:List Int×Gs}(hx:gsOk sg x)(h:vlQ sg one [41] [k] (AK sg x [40]) y):Aj sg x (CP sg one k) (AX y.2,As y.2 ⟨5,[],y.1,false⟩):=by
 obtain⟨l,⟨h1,h2⟩,rfl⟩:=h
 exact HJ h1.1 ⟨by simp,by simp;omega⟩ (b1z hx ⟨h1,h2⟩)
theorem b3F{sg:List Sg}{x y:Gs}{n N:Nat}{ks:List Int}{c w:Int×Gs}(h:JS sg n x y ks N)(hq:isG sg y 4 [46,46]=true)(hc:Aj sg (Aw y) (BS sg) c)
 (h2:Aj sg c.2 (CP sg (pE sg n .value) c.1) w):∃M,N=M+1∧JS sg n x w.2 (ks++[w.1]) M:=by
 obtain⟨h1,hN,hk,hb⟩:=h
 obtain⟨hl1,hl⟩:=CS hq (by omega)
 match N with
 |0=>omega
 |M+1=>
  refine⟨M,rfl,?_⟩
  have k1:=Gt (g':=fun s=>((BS sg s).bind fun p=>(CP sg (pE sg n .value) p.1 p.2).bind fun q=>Fs sg (pE sg n .value) M (ks++[q.1]) q.2).bind fun q=>Bb ⟨10,[],q.1,false⟩ q.2)
   h1 (by omega) hq (fun s hs ht=>by rw[Fs,if_pos (show isM sg s [46,46]=true from ht)])
  have k2:=BP (k:=fun k s=>((CP sg (pE sg n .value) k s).bind fun q=>Fs sg (pE sg n .value) M (ks++[q.1]) q.2).bind fun q=>Bb ⟨10,[],q.1,false⟩ q.2) k1 hc.1 (fun s _=>by simp only[Option.bind_assoc])
  have k3:=BP (k:=fun k s=>(Fs sg (pE sg n .value) M (ks++[k]) s).bind fun q=>Bb ⟨10,[],q.1,false⟩ q.2) k2 h2.1 (fun s _=>by simp only[Option.bind_assoc])
  have e0:(Aw y).pos≤c.2.pos:=hc.1.2.2.1
  have e1:=CE h2
  have ea:(Aw y).pos=y.pos+1:=rfl
  refine⟨k3,by omega,by simp;omega,fun hb2=> ?_⟩
  have:=h1.2.2.1
  omega
theorem b3G{sg:List Sg}(hm:sgM sg){s:Ps}(h0:0≤s.pos)(h:JP sg s=true):JR sg s=true:=by
 have hp:∀(n:Nat) (i:Int),0≤i→0≤DV sg n i:=by
  intro n
  induction n with
  |zero=>intro i hi;simpa [DV] using hi
  |succ n ih=>
   intro i hi;rw[DV];split
   ·split
    ·exact ih _ (by omega)
    ·omega
   ·exact hi
 exact a1v hm _ _ (by omega) (by rw[←Ve hm (hp _ _ (by omega))];exact h)
theorem b3H{sg:List Sg}(hm:sgM sg){s:Ps}(h0:0≤s.pos)(h1:JR sg s=true)(h2:JP sg s=false)(N:Nat):Bw sg (BS sg) [41] N [] (adv s)=none:=by
 have hp:∀(n:Nat) (i:Int),0≤i→0≤DV sg n i:=by
  intro n
  induction n with
  |zero=>intro i hi;simpa [DV] using hi
  |succ n ih=>
   intro i hi;rw[DV];split
   ·split
    ·exact ih _ (by omega)
    ·omega
   ·exact hi
 exact a1w hm (sg.length+1) (s.pos+1) (by omega) h1 (by rw[←Ve hm (hp _ _ (by omega))];exact h2) N [] (adv s) rfl
theorem b3I{sg:List Sg}{x:Gs}{n:Nat}{z:Int×Gs}(hm:sgM sg)(hx:gsOk sg x)(h1:(pkG sg x 0).kind≠1)(h2:(pkG sg x 0).kind≠2)(h3:(pkG sg x 0).kind≠3)(hn:isG sg x 4 [91]=false)(hq:isG sg x 4 [40]=true)
 (ha:∀s,pur x=some s→JR sg s=true) (hz:Aj sg x (fnR sg n) z):Aj sg x (pE sg (n+1) .base) z:=by
 refine JV hz (fun s hs=> ?_)
 have h0:0≤s.pos:=by obtain⟨_,rfl⟩:=Ez.1 hs;exact hx.1.1
 cases har:JP sg s with
 |true=>rw[Pg hs h1 h2 h3,if_neg (by simp [EA hs hn]),if_pos (by simp [Jc hs hq,har]),fnR,BD,if_pos (Jc hs hq)];rfl
 |false=>
  rw[Pg hs h1 h2 h3,if_neg (by simp [EA hs hn]),if_neg (by simp [har]),if_pos (Jc hs hq),b0P (x:=⟨0,[],[],false⟩) hm h0 (ha s hs) har (fun k=>⟨11,[],[k],false⟩),fnR,BD,if_pos (Jc hs hq)]
  simp only[Option.bind_some]
  rw[b3H hm h0 (ha s hs) har];rfl
theorem b3J{sg:List Sg}{x:Gs}{n:Nat}{z:Int×Gs}(hm:sgM sg)(h:gsOk sg x)(h1:(pkG sg x 0).kind≠1)(h2:(pkG sg x 0).kind≠2)(h3:(pkG sg x 0).kind≠3)(hn:isG sg x 4 [91]=false)(hq:isG sg x 4 [40]=true)
 (ha:∀s,pur x=some s→JR sg s=false) (hz:Aj sg (Aw x) (pE sg n .value) z):
 Aj sg x (pE sg (n+1) .base) (AX (AK sg z.2 [41]),As (AK sg z.2 [41]) ⟨11,[],[z.1],false⟩):=by
 refine HJ (Ft hz) ⟨by simp,by simp⟩ (b1q h h1 h2 h3 hn hq (fun s hs=> ?_) hz)
 have h0:0≤s.pos:=by obtain⟨_,rfl⟩:=Ez.1 hs;exact h.1.1
 cases har:JP sg s with
 |false=>rfl
 |true=>have:=b3G hm h0 har;rw[ha s hs] at this;cases this
end Go.My
end
section
set_option linter.unusedVariables false
set_option linter.unusedSimpArgs false
namespace Go.My
open Go.Eng Go.Proofs
variable {G:GInv}
def vQ(r n:Nat)(s:ST)(g:Gs):Prop:=vP r n s g∧sgM s.sg
def wQ(r n:Nat)(s:ST)(g:Gs):Prop:=wP r n s g∧sgM s.sg
def Lq(n:Nat):Sig:= {X:=ST×Int×Int×Bool×List Nd,args:=fun x=>[srd x.1 (xg x)],pre:=fun x=>vQ 11 n x.1 (xg x),Y:=Int×Int×Int×Bool×List Nd,post:=fun x y=>Aj x.1.sg (xg x) (pE x.1.sg n .value) (yS y),res:=fun x y=> .int .i64 y.1,outs:=fun x y=>[srd x.1 (yG y.2)],keep:=true}
def Gw(n:Nat):Sig:= {X:=ST×Int×Int×Bool×List Nd,args:=fun x=>[srd x.1 (xg x)],pre:=fun x=>vQ 10 n x.1 (xg x),Y:=Int×Int×Int×Bool×List Nd,post:=fun x y=>Aj x.1.sg (xg x) (pE x.1.sg n .pick) (yS y),res:=fun x y=> .int .i64 y.1,outs:=fun x y=>[srd x.1 (yG y.2)],keep:=true}
def HL(n:Nat):Sig:= {X:=ST×Int×Int×Bool×List Nd×Int,args:=fun x=>[srd x.1 (xh x),.int .i64 x.2.2.2.2.2],pre:=fun x=>wQ (9-x.2.2.2.2.2.toNat) n x.1 (xh x)∧0≤x.2.2.2.2.2∧x.2.2.2.2.2≤6,Y:=Int×Int×Int×Bool×List Nd,post:=fun x y=>Aj x.1.sg (xh x) (pE x.1.sg n (.chain x.2.2.2.2.2.toNat)) (yS y),res:=fun x y=> .int .i64 y.1,outs:=fun x y=>[srd x.1 (yG y.2),.top],keep:=true}
def RK(n:Nat):Sig:= {X:=ST×Int×Int×Bool×List Nd,args:=fun x=>[srd x.1 (xg x)],pre:=fun x=>wQ 2 n x.1 (xg x),Y:=Int×Int×Int×Bool×List Nd,post:=fun x y=>Aj x.1.sg (xg x) (pE x.1.sg n .fin) (yS y),res:=fun x y=> .int .i64 y.1,outs:=fun x y=>[srd x.1 (yG y.2)],keep:=true}
def RL(n:Nat):Sig:= {X:=ST×Int×Int×Bool×List Nd,args:=fun x=>[srd x.1 (xg x)],pre:=fun x=>wQ 1 n x.1 (xg x),Y:=Int×Int×Int×Bool×List Nd,post:=fun x y=>Aj x.1.sg (xg x) (pE x.1.sg n .base) (yS y),res:=fun x y=> .int .i64 y.1,outs:=fun x y=>[srd x.1 (yG y.2)],keep:=true}
structure qAll (G:GInv) (n:Nat):Prop where
 val:Am G Go.Proofs.Tryz.prog 172 (Lq n)
 pick:Am G Go.Proofs.Tryz.prog 187 (Gw n)
 chain:Am G Go.Proofs.Tryz.prog 202 (HL n)
 fin:Am G Go.Proofs.Tryz.prog 212 (RK n)
 base:Am G Go.Proofs.Tryz.prog 222 (RL n)
def saI(sg:List Sg)(p:Int)(i:Int)(N:Nat):Prop:=(p+1≤i∧i≤sg.length+1∧(sg.length:Int)-i<N)∧Ej sg (sg.length+1) (p+1)=Ej sg N i
def arG(sg:List Sg)(x:Gs):Bool:=isG sg x 4 [40]&&JR sg ⟨x.pos,x.deep,x.nodes⟩
theorem b3K{sg:List Sg}{p i:Int}{N:Nat}(h:saI sg p i N):p+1≤i∧i≤sg.length+1:=⟨h.1.1,h.1.2.1⟩
theorem b3L{sg:List Sg}{p:Int}(h0:0≤p)(h:p≤sg.length):saI sg p (p+1) (sg.length+1):=⟨by omega,rfl⟩
theorem a2r{sg:List Sg}{p i:Int}{N:Nat}(h0:0≤p)(h:saI sg p i N)(h1:i+1<sg.length)(hk:(sgO sg i).kind=1)(ht:((sgO sg (i+1)).text==[44])=true):saI sg p (i+1+1) (N-1)∧N-1<N:=by
 obtain⟨⟨a1,a2,a3⟩,h4⟩:=h
 match N with
 |0=>omega
 |N+1=>
  refine⟨⟨⟨by omega,by omega,by simp;omega⟩,?_⟩,by omega⟩
  rw[h4,Ej,if_pos ⟨h1,hk⟩,if_pos (by simpa using ht)]
  simp only[Nat.add_sub_cancel];congr 1;omega
theorem b3M{sg:List Sg}{p i:Int}{N:Nat}(h:saI sg p i N)(h1:i+1<sg.length)(hk:(sgO sg i).kind=1)(ht:((sgO sg (i+1)).text==[44])=false):Ej sg (sg.length+1) (p+1)=i+1:=by
 obtain⟨⟨a1,a2,a3⟩,h4⟩:=h
 match N with
 |0=>omega
 |N+1=>rw[h4,Ej,if_pos ⟨h1,hk⟩,if_neg (by simpa using ht)]
theorem b3N{sg:List Sg}{p i:Int}{N:Nat}(h:saI sg p i N)(h1:¬i+1<sg.length):Ej sg (sg.length+1) (p+1)=i:=by
 rw[h.2]
 match N with
 |0=>rfl
 |N+1=>rw[Ej,if_neg (fun hh=>h1 hh.1)]
theorem b3O{sg:List Sg}{p i:Int}{N:Nat}(h:saI sg p i N)(hk:(sgO sg i).kind≠1):Ej sg (sg.length+1) (p+1)=i:=by
 rw[h.2]
 match N with
 |0=>rfl
 |N+1=>rw[Ej,if_neg (fun hh=>hk hh.2)]
theorem b3P{sg:List Sg}{x:Gs}(h:isG sg x 4 [40]=false):false=arG sg x:=by simp [arG,h]
theorem Vv{sg:List Sg}{x:Gs}{i:Int}{b:Bool}(h:isG sg x 4 [40]=true)(hi:Ej sg (sg.length+1) (x.pos+1)=i)(hb:b=Fc sg i):b=arG sg x:=by
 rw[arG,h,Bool.true_and,JR];simp only[hi];exact hb
theorem a2s{sg:List Sg}{i k:Int}{e:Sg}(he:sg[i.toNat]? =some e)(hk:e.kind=k):(sgO sg i).kind=k:=by rw[IZ he];exact hk
theorem a2t{sg:List Sg}{i:Int}{e:Sg}{m:List UInt8}{b:Bool}(he:sg[i.toNat]? =some e)(hk:(e.text==m)=b):((sgO sg i).text==m)=b:=by rw[IZ he];exact hk
def lqJ(sg:List Sg)(one:Ps→PR)(m:List UInt8)(x y:Gs)(ks:List Int)(N:Nat):Prop:=Iu sg one m x y ks N∧(y.bad=false→x.bad=false)
theorem a2u{sg:List Sg}{one:Ps→PR}{m:List UInt8}{x:Gs}(h:gsOk sg x):lqJ sg one m x x [] (sg.length+1):=⟨b0X h,fun h=>h⟩
theorem Ji{s:ST}{one:Ps→PR}{m:List UInt8}{x y:Gs}{ks:List Int}{N:Nat}(hs:sgB s.sg)(h:lqJ s.sg one m x y ks N):rOk s y:=b1y hs h
theorem Po{s:ST}{one:Ps→PR}{m:List UInt8}{x y:Gs}{ks:List Int}{N:Nat}(hs:sgB s.sg)(h:lqJ s.sg one m x y ks N):ks.length≤3000:=b1w hs h
theorem b3Q{s:ST}{one:Ps→PR}{m:List UInt8}{x y:Gs}{ks:List Int}{N n:Nat}(hx:wQ 11 n s x)(h:lqJ s.sg one m x y ks N)(hb:y.bad=false)(hq:isG s.sg y 4 m=false):vQ 11 n s (AP s.sg y m):=by
 rw[Dl hq];exact⟨b1x hx.1.1.1.1 h hb hx.1.1.2 hx.1.2,hx.2⟩
theorem RM{sg:List Sg}{one:Ps→PR}{m:List UInt8}{x y:Gs}{ks:List Int}{N:Nat}{z:Int×Gs}(h:lqJ sg one m x y ks N)(hq:isG sg y 4 m=false)(hz:Aj sg (AP sg y m) one z)(hc:isG sg z.2 4 [44]=true):
 lqJ sg one m x (AP sg z.2 [44]) (ks++[z.1]) (N-1)∧N-1<N:=by
 rw[Dl hq] at hz;exact b1v h hz hq hc
theorem a2v{s:ST}{one:Ps→PR}{m:List UInt8}{ks0:List Int}{x y:Gs}{ks:List Int}{N:Nat}{z:Int×Gs}(hs:sgB s.sg)(h:lqJ s.sg one m x y ks N)(hq:isG s.sg y 4 m=false)(hz:Aj s.sg (AP s.sg y m) one z)(hc:isG s.sg z.2 4 [44]=false):
 vlQ s.sg one m ks0 x (ks0++ks++[z.1],AK s.sg (AP s.sg z.2 [44]) m):=by
 rw[Dl hq] at hz
 have a:=b1u h hz hq hc
 refine⟨_,⟨a,?_⟩,?_⟩
 ·have:=Po hs h;simp;omega
 ·simp only[List.append_assoc]
theorem a2w{s:ST}{one:Ps→PR}{m:List UInt8}{ks0:List Int}{x y:Gs}{ks:List Int}{N:Nat}(hs:sgB s.sg)(h:lqJ s.sg one m x y ks N)(hb:y.bad=true):vlQ s.sg one m ks0 x (ks0++ks,y):=by
 refine⟨_,⟨b0Y h.1 hb,?_⟩,by simp only[RH hb]⟩
 have:=Po hs h;simp only;omega
theorem a2x{s:ST}{one:Ps→PR}{m:List UInt8}{ks0:List Int}{x y:Gs}{ks:List Int}{N:Nat}(hs:sgB s.sg)(h:lqJ s.sg one m x y ks N)(hq:isG s.sg y 4 m=true):vlQ s.sg one m ks0 x (ks0++ks,AP s.sg y m):=by
 refine⟨_,⟨b0Z h.1 hq,?_⟩,by simp only[Ek hq,Jh hq]⟩
 have:=Po hs h;simp only;omega
theorem Fe{s:ST}{y:Gs}{m:List UInt8}(h:rOk s y):rOk s (AP s.sg y m):=by
 cases hq:isG s.sg y 4 m with
 |true=>rw[Ek hq];exact⟨h.1,FR h.2 (CS hq (by omega)).2⟩
 |false=>rw[Dl hq];exact h
theorem Hf{s:ST}{y:Gs}{k:Int}(h:rOk s y)(hk:k≠0):rOk s (Bi s.sg y k):=by
 unfold Bi;split
 ·rename_i hq;exact⟨h.1,FR h.2 (RD hk hq).2⟩
 ·exact h
theorem MT{s:ST}{y:Gs}{m:List UInt8}(h:rOk s y):Aj s.sg (AP s.sg y m) (BS s.sg) (AX (Bi s.sg (AP s.sg y m) 1),As (Bi s.sg (AP s.sg y m) 1) ⟨1,Bx s.sg (AP s.sg y m) 1,[],false⟩):=b3v h.1 (Fe h).2
theorem Vw{s:ST}{y:Gs}{m:List UInt8}(h:rOk s y):rOk s (As (Bi s.sg (AP s.sg y m) 1) ⟨1,Bx s.sg (AP s.sg y m) 1,[],false⟩):=⟨h.1,Ft (MT (m:=m) h)⟩
attribute [local irreducible] pE Bw CP fnR Aj BB gsOk AK Cx As CT Eh AP DJ DW AX Cy pkG isG nmG kdG Bi Bx BS vlQ lqJ saI
def DN:Sig:= {X:=ST×Int×Int×Bool×List Nd,args:=fun x=>[srd x.1 (xg x)],pre:=fun x=>rOk x.1 (xg x),Y:=Unit,post:=fun x y=>True,res:=fun x y=> .bool (arG x.1.sg (xg x)),outs:=fun x y=>[srd x.1 (xg x)],keep:=true}
def RN(x:ST×Int×Int×Bool×List Nd):LS:= {ι:=Int×Nat,inv:=fun i=>saI x.1.sg (xg x).pos i.1 i.2,regs:=fun i=>[(0,srd x.1 (xg x)),(3,.int .i64 i.1)],als:=[],meas:=fun i=>i.2}
theorem b3R:Am G Tryz.prog 226 DN:=
 vcFun_okP [(171,0,DL)] [] false (fun x=>[(5,RN x)]) Tryz.func226 rfl (by decide) ⟨Pl,trivial⟩ (fun(x:ST×Int×Int×Bool×List Nd)=>True∧cA DL [srd x.1 (xg x),.int .i64 (4:Int),.str #[(40:UInt8)].toList] fun x_1 y=>Aa (!isG x_1.1.sg (xh x_1) x_1.2.2.2.2.2.1 x_1.2.2.2.2.2.2) (rA DN x [.bool false,srd x_1.1 (xh x_1)]) (inR IntKind.i64 ((xg x).pos+(1:Int))∧eA (RN x) [srd x_1.1 (xh x_1),.int .i64 ((xg x).pos+(1:Int))]∧∀(i:Int×Nat),saI x.1.sg (xg x).pos i.1 i.2→inR IntKind.i64 (i.1+(1:Int))∧Aa (decide (i.1+(1:Int)<(↑(List.length x.1.sg):Int))) (((0:Int)≤i.1∧i.1<(↑(List.length x.1.sg):Int))∧∀(e:Sg),x.1.sg[Int.toNat i.1]? =some e→Aa (e.kind==(1:Int)) (inR IntKind.i64 (i.1+(1:Int))∧((0:Int)≤i.1+(1:Int)∧i.1+(1:Int)<(↑(List.length x.1.sg):Int))∧∀(e:Sg),x.1.sg[Int.toNat (i.1+(1:Int))]? =some e→Aa (!e.text== #[(44:UInt8)].toList) (inR IntKind.i64 (i.1+(1:Int)+(1:Int))∧Aa (decide (i.1+(1:Int)+(1:Int)<(↑(List.length x.1.sg):Int))) (((0:Int)≤i.1+(1:Int)∧i.1+(1:Int)<(↑(List.length x.1.sg):Int))∧∀(e:Sg),x.1.sg[Int.toNat (i.1+(1:Int))]? =some e→Aa (e.text== #[(41:UInt8)].toList) (((0:Int)≤i.1+(1:Int)∧i.1+(1:Int)<(↑(List.length x.1.sg):Int))∧∀(e:Sg),x.1.sg[Int.toNat (i.1+(1:Int))]? =some e→Aa (e.kind==(4:Int)) (inR IntKind.i64 (i.1+(1:Int)+(1:Int))∧((0:Int)≤i.1+(1:Int)+(1:Int)∧i.1+(1:Int)+(1:Int)<(↑(List.length x.1.sg):Int))∧∀(e:Sg),x.1.sg[Int.toNat (i.1+(1:Int)+(1:Int))]? =some e→Aa (e.text== #[(61:UInt8),(62:UInt8)].toList) (inR IntKind.i64 (i.1+(1:Int)+(1:Int))∧((0:Int)≤i.1+(1:Int)+(1:Int)∧i.1+(1:Int)+(1:Int)<(↑(List.length x.1.sg):Int))∧∀(e:Sg),x.1.sg[Int.toNat (i.1+(1:Int)+(1:Int))]? =some e→rA DN x [.bool (e.kind==(4:Int)),srd x.1 (xg x)]) (rA DN x [.bool false,srd x.1 (xg x)])) (rA DN x [.bool false,srd x.1 (xg x)])) (rA DN x [.bool false,srd x.1 (xg x)])) (rA DN x [.bool false,srd x.1 (xg x)])) (inR IntKind.i64 (i.1+(1:Int)+(1:Int))∧eN (RN x) i [srd x.1 (xg x),.int .i64 (i.1+(1:Int)+(1:Int))])) (inR IntKind.i64 (i.1+(1:Int))∧Aa (decide (i.1+(1:Int)<(↑(List.length x.1.sg):Int))) (((0:Int)≤i.1∧i.1<(↑(List.length x.1.sg):Int))∧∀(e:Sg),x.1.sg[Int.toNat i.1]? =some e→Aa (e.text== #[(41:UInt8)].toList) (((0:Int)≤i.1∧i.1<(↑(List.length x.1.sg):Int))∧∀(e:Sg),x.1.sg[Int.toNat i.1]? =some e→Aa (e.kind==(4:Int)) (inR IntKind.i64 (i.1+(1:Int))∧((0:Int)≤i.1+(1:Int)∧i.1+(1:Int)<(↑(List.length x.1.sg):Int))∧∀(e:Sg),x.1.sg[Int.toNat (i.1+(1:Int))]? =some e→Aa (e.text== #[(61:UInt8),(62:UInt8)].toList) (inR IntKind.i64 (i.1+(1:Int))∧((0:Int)≤i.1+(1:Int)∧i.1+(1:Int)<(↑(List.length x.1.sg):Int))∧∀(e:Sg),x.1.sg[Int.toNat (i.1+(1:Int))]? =some e→rA DN x [.bool (e.kind==(4:Int)),srd x.1 (xg x)]) (rA DN x [.bool false,srd x.1 (xg x)])) (rA DN x [.bool false,srd x.1 (xg x)])) (rA DN x [.bool false,srd x.1 (xg x)])) (rA DN x [.bool false,srd x.1 (xg x)]))) (inR IntKind.i64 (i.1+(1:Int))∧Aa (decide (i.1+(1:Int)<(↑(List.length x.1.sg):Int))) (((0:Int)≤i.1∧i.1<(↑(List.length x.1.sg):Int))∧∀(e:Sg),x.1.sg[Int.toNat i.1]? =some e→Aa (e.text== #[(41:UInt8)].toList) (((0:Int)≤i.1∧i.1<(↑(List.length x.1.sg):Int))∧∀(e:Sg),x.1.sg[Int.toNat i.1]? =some e→Aa (e.kind==(4:Int)) (inR IntKind.i64 (i.1+(1:Int))∧((0:Int)≤i.1+(1:Int)∧i.1+(1:Int)<(↑(List.length x.1.sg):Int))∧∀(e:Sg),x.1.sg[Int.toNat (i.1+(1:Int))]? =some e→Aa (e.text== #[(61:UInt8),(62:UInt8)].toList) (inR IntKind.i64 (i.1+(1:Int))∧((0:Int)≤i.1+(1:Int)∧i.1+(1:Int)<(↑(List.length x.1.sg):Int))∧∀(e:Sg),x.1.sg[Int.toNat (i.1+(1:Int))]? =some e→rA DN x [.bool (e.kind==(4:Int)),srd x.1 (xg x)]) (rA DN x [.bool false,srd x.1 (xg x)])) (rA DN x [.bool false,srd x.1 (xg x)])) (rA DN x [.bool false,srd x.1 (xg x)])) (rA DN x [.bool false,srd x.1 (xg x)])))) (fun x=>by kernel_rfl) fun(x:ST×Int×Int×Bool×List Nd) (hx:rOk x.1 (xg x))=>(by
 dsimp only[cA,eA,eN,RN,Bn,AW,rA,DN,DL,CO,sgs,srd,Au,Ax,mvL,lnL,mvE,lnE,Bm]
 obtain⟨s,p,d,b,ns⟩:=x;dsimp only[xg,xh] at hx ⊢
 have hx:rOk s ⟨p,d,b,ns⟩:=hx;have hs:=Gp hx;dsimp only at hs
 (repeat' first|(with_reducible first|rfl|exact True.intro|apply AJ|apply And.intro|((first|apply Az|apply AH|apply AA|apply AI)<;>intro _))|(apply Av<;>intro _)|apply AG|refine Af () ?_ ?_|((first|apply AO|apply AN|apply AM|apply AL|apply AF|apply AE|apply AD|apply AC|apply AB)<;>try dsimp only)|apply Af|(refine Prod.forall.2 ?_;intro _;try dsimp only)|(intro _;try dsimp only))
 all_goals(try dsimp only[xg,xh,yG,yS,iG] at*)
 all_goals first
  |(show Nat;skip)
  |rfl
  |exact hx
  |exact b3L hs.1.1.1 hs.1.1.2
  |exact b3P (x:=⟨p,d,b,ns⟩) ‹_›
  |exact(a2r hs.1.1.1 ‹_› ‹_› (a2s ‹_› ‹_›) (a2t ‹_› ‹_›)).1
  |(have hq:=b3K (show saI _ _ _ _ by assumption);(try simp only[AR]);omega)
  |omega
  |skip
 all_goals first
  |exact(a2r hs.1.1.1 ‹_› ‹_› (a2s ‹_› ‹_›) (a2t ‹_› ‹_›)).2
  |skip
 all_goals(repeat(rename s.sg[_]? =some _=>hq;have hq2:=IZ hq;clear hq;subst hq2))
 all_goals first
  |(refine Vv (x:=⟨p,d,b,ns⟩) ‹_› (b3M ‹_› ‹_› ‹_› ‹_›) ?_;rw[Bool.eq_iff_iff];simp [Fc,Jd, *];done)
  |(refine Vv (x:=⟨p,d,b,ns⟩) ‹_› (b3N ‹_› ‹_›) ?_;rw[Bool.eq_iff_iff];simp [Fc,Jd, *];done)
  |(refine Vv (x:=⟨p,d,b,ns⟩) ‹_› (b3O ‹_› ‹_›) ?_;rw[Bool.eq_iff_iff];simp [Fc,Jd, *];done)
  |skip)
def FU(n:Nat):Sig:= {X:=ST×Int×Int×Bool×List Nd×List UInt8×List Int,args:=fun x=>[srd x.1 (xh x),.str x.2.2.2.2.2.1,Ab x.2.2.2.2.2.2],pre:=fun x=>wQ 11 n x.1 (xh x)∧x.2.2.2.2.2.2.length≤1,Y:=List Int×Int×Int×Bool×List Nd,post:=fun x y=>vlQ x.1.sg (pE x.1.sg n .value) x.2.2.2.2.2.1 x.2.2.2.2.2.2 (xh x) (yS y),res:=fun x y=>Ab y.1,outs:=fun x y=>[srd x.1 (yG y.2),.top,.top],keep:=true}
def RO(n:Nat)(x:ST×Int×Int×Bool×List Nd×List UInt8×List Int):LS:= {ι:=Int×Int×Bool×List Nd×List Int×Nat,inv:=fun i=>lqJ x.1.sg (pE x.1.sg n .value) x.2.2.2.2.2.1 (xh x) (iG i) i.2.2.2.2.1 i.2.2.2.2.2,regs:=fun i=>[(0,srd x.1 (iG i)),(1,.str x.2.2.2.2.2.1),(2,Ab (x.2.2.2.2.2.2++i.2.2.2.2.1))],als:=[],meas:=fun i=>i.2.2.2.2.2}
theorem Vx(n:Nat)(h:qAll G n):Am G Tryz.prog 188 (FU n):=
 vcFun_okP [(142,0,BU),(172,0,(Lq n)),(141,0,BI)] [(26,⟨Int,Bj⟩)] false (fun x=>[(1,RO n x)]) Tryz.func188 rfl (by decide) ⟨Hd,h.val,HI,trivial⟩ (fun(x:ST×Int×Int×Bool×List Nd×List UInt8×List Int)=>True∧eA (RO n x) [srd x.1 (xh x),.str x.2.2.2.2.2.1,Ab x.2.2.2.2.2.2]∧∀(i:Int×Int×Bool×List Nd×List Int×Nat),lqJ x.1.sg (pE x.1.sg n NT.value) x.2.2.2.2.2.1 (xh x) (iG i) i.2.2.2.2.1 i.2.2.2.2.2→Aa (!(iG i).bad) (cA BU [srd x.1 (iG i),.str x.2.2.2.2.2.1] fun x_1 y=>Aa (!isG x_1.1.sg (xh x_1) (4:Int) x_1.2.2.2.2.2) (cA (Lq n) [srd x_1.1 (AP x_1.1.sg (xh x_1) x_1.2.2.2.2.2)] fun x_2 y=>∃(x_3:Int),y.1=x_3∧∃(zs:List Int),Ab [x_3]=Ab zs∧BF Bj∧Ba (List.length (x.2.2.2.2.2.2++i.2.2.2.2.1)+List.length zs) (8:Nat)∧cA BU [srd x_2.1 (yG y.2),.str #[(44:UInt8)].toList] fun x_4 y=>Aa (!isG x_4.1.sg (xh x_4) (4:Int) x_4.2.2.2.2.2) (cA BI [srd x_4.1 (AP x_4.1.sg (xh x_4) x_4.2.2.2.2.2),.str x.2.2.2.2.2.1] fun x_5 y=>rA (FU n) x [Ab (x.2.2.2.2.2.2++i.2.2.2.2.1++zs),srd x_5.1 (AK x_5.1.sg (xh x_5) x_5.2.2.2.2.2),.top,.top]) (eN (RO n x) i [srd x_4.1 (AP x_4.1.sg (xh x_4) x_4.2.2.2.2.2),.str x.2.2.2.2.2.1,Ab (x.2.2.2.2.2.2++i.2.2.2.2.1++zs)])) (rA (FU n) x [Ab (x.2.2.2.2.2.2++i.2.2.2.2.1),srd x_1.1 (AP x_1.1.sg (xh x_1) x_1.2.2.2.2.2),.top,.top])) (rA (FU n) x [Ab (x.2.2.2.2.2.2++i.2.2.2.2.1),srd x.1 (iG i),.top,.top])) (fun x=>by kernel_rfl) fun(x:ST×Int×Int×Bool×List Nd×List UInt8×List Int) (hx:wQ 11 n x.1 (xh x)∧x.2.2.2.2.2.2.length≤1)=>(by
 dsimp only[cA,eA,eN,RO,Bn,Ab,AW,rA,BU,Lq,FU,BI,CO,sgs,srd,Au,Ax,mvL,lnL,mvE,lnE,Bm]
 obtain⟨s,p,d,b,ns,m,ks0⟩:=x;dsimp only[xg,xh] at hx ⊢
 obtain⟨hx,hk0⟩:=hx
 have hx:wQ 11 n s ⟨p,d,b,ns⟩:=hx
 have hs:=hx.1.1.1.1;have h1:=hx.1.1.1
 (repeat' first|(with_reducible first|rfl|exact True.intro|apply AJ|apply And.intro|((first|apply Az|apply AH|apply AA|apply AI)<;>intro _))|(apply Av<;>intro _)|apply AG|refine Af () ?_ ?_|((first|apply AO|apply AN|apply AM|apply AL|apply AF|apply AE|apply AD|apply AC|apply AB)<;>try dsimp only)|apply Af|(refine Prod.forall.2 ?_;intro _;try dsimp only)|(intro _;try dsimp only))
 all_goals(try dsimp only[xg,xh,yG,yS,iG] at*)
 all_goals(try simp only[FS] at*)
 all_goals first
  |(show Nat;skip)
  |rfl
  |exact h1
  |exact a2u h1.2
  |exact Ji hs ‹_›
  |exact b3Q hx ‹_› ‹_› ‹_›
  |exact EN h1 ‹_›
  |exact Fe (EN h1 ‹_›)
  |exact(RM ‹_› ‹_› ‹_› ‹_›).1
  |exact a2v hs ‹_› ‹_› ‹_› ‹_›
  |exact a2w hs ‹_› ‹_›
  |exact a2x hs ‹_› ‹_›
  |(simp;done)
  |(have hq:=Po hs (show lqJ _ _ _ _ _ _ _ by assumption);(try simp only[Ba,List.length_append,List.length_cons,List.length_nil]);omega)
  |skip
 all_goals first
  |exact(RM ‹_› ‹_› ‹_› ‹_›).2
  |(simp;done)
  |skip)
def FV:Sig:= {X:=ST×Int×Int×Bool×List Nd,args:=fun x=>[srd x.1 (xg x)],pre:=fun x=>rOk x.1 (xg x),Y:=List Int×Int×Int×Bool×List Nd,post:=fun x y=>vlQ x.1.sg (BS x.1.sg) [41] [] (AK x.1.sg (xg x) [40]) (yS y),res:=fun x y=>Ab y.1,outs:=fun x y=>[srd x.1 (yG y.2)],keep:=true}
def RP(x:ST×Int×Int×Bool×List Nd):LS:= {ι:=Int×Int×Bool×List Nd×List Int×Nat,inv:=fun i=>lqJ x.1.sg (BS x.1.sg) [41] (AK x.1.sg (xg x) [40]) (iG i) i.2.2.2.2.1 i.2.2.2.2.2,regs:=fun i=>[(0,srd x.1 (iG i)),(3,Ab i.2.2.2.2.1)],als:=[],meas:=fun i=>i.2.2.2.2.2}
theorem Vy:Am G Tryz.prog 143 FV:=
 vcFun_okP [(142,0,BU),(141,0,BI),(117,0,Br),(138,0,Cp)] [(26,⟨Int,Bj⟩)] false (fun x=>[(3,RP x)]) Tryz.func143 rfl (by decide) ⟨Hd,HI,He,JZ,trivial⟩ (fun(x:ST×Int×Int×Bool×List Nd)=>True∧cA BI [srd x.1 (xg x),.str #[(40:UInt8)].toList] fun x_1 y=>eA (RP x) [srd x_1.1 (AK x_1.1.sg (xh x_1) x_1.2.2.2.2.2),Ab []]∧∀(i:Int×Int×Bool×List Nd×List Int×Nat),lqJ x.1.sg (BS x.1.sg) [(41:UInt8)] (AK x.1.sg (xg x) [(40:UInt8)]) (iG i) i.2.2.2.2.1 i.2.2.2.2.2→Aa (!(iG i).bad) (cA BU [srd x.1 (iG i),.str #[(41:UInt8)].toList] fun x_2 y=>Aa (!isG x_2.1.sg (xh x_2) (4:Int) x_2.2.2.2.2.2) (cA Cp [srd x_2.1 (AP x_2.1.sg (xh x_2) x_2.2.2.2.2.2),.int .i64 (1:Int)] fun x_3 y=>cA Br [srd x_3.1 (Bi x_3.1.sg (xh x_3) x_3.2.2.2.2.2),.int .i64 (1:Int),.str (Bx x_3.1.sg (xh x_3) x_3.2.2.2.2.2),Ab []] fun x_4 y=>∃(x_5:Int),AX (xh x_4)=x_5∧∃(zs:List Int),Ab [x_5]=Ab zs∧BF Bj∧Ba (List.length i.2.2.2.2.1+List.length zs) (8:Nat)∧cA BU [srd x_4.1 (As (xh x_4) {kind:=x_4.2.2.2.2.2.1,text:=x_4.2.2.2.2.2.2.1,kids:=x_4.2.2.2.2.2.2.2,blank:=false}),.str #[(44:UInt8)].toList] fun x_6 y=>Aa (!isG x_6.1.sg (xh x_6) (4:Int) x_6.2.2.2.2.2) (cA BI [srd x_6.1 (AP x_6.1.sg (xh x_6) x_6.2.2.2.2.2),.str #[(41:UInt8)].toList] fun x_7 y=>rA FV x [Ab (i.2.2.2.2.1++zs),srd x_7.1 (AK x_7.1.sg (xh x_7) x_7.2.2.2.2.2)]) (eN (RP x) i [srd x_6.1 (AP x_6.1.sg (xh x_6) x_6.2.2.2.2.2),Ab (i.2.2.2.2.1++zs)])) (rA FV x [Ab i.2.2.2.2.1,srd x_2.1 (AP x_2.1.sg (xh x_2) x_2.2.2.2.2.2)])) (rA FV x [Ab i.2.2.2.2.1,srd x.1 (iG i)])) (fun x=>by kernel_rfl) fun(x:ST×Int×Int×Bool×List Nd) (hx:rOk x.1 (xg x))=>(by
 dsimp only[cA,eA,eN,RP,Bn,Ab,AW,rA,BU,FV,Br,Cp,BI,CO,sgs,srd,Au,Ax,mvL,lnL,mvE,lnE,Bm]
 obtain⟨s,p,d,b,ns⟩:=x;dsimp only[xg,xh] at hx ⊢
 have h1:rOk s ⟨p,d,b,ns⟩:=hx;have hs:=h1.1
 have t:=Gv (m:=[40]) h1
 (repeat' first|(with_reducible first|rfl|exact True.intro|apply AJ|apply And.intro|((first|apply Az|apply AH|apply AA|apply AI)<;>intro _))|(apply Av<;>intro _)|apply AG|refine Af () ?_ ?_|((first|apply AO|apply AN|apply AM|apply AL|apply AF|apply AE|apply AD|apply AC|apply AB)<;>try dsimp only)|apply Af|(refine Prod.forall.2 ?_;intro _;try dsimp only)|(intro _;try dsimp only))
 all_goals(try dsimp only[xg,xh,yG,yS,iG] at*)
 all_goals(try simp only[FS] at*)
 all_goals first
  |(show Nat;skip)
  |rfl
  |exact h1
  |omega
  |exact a2u t.1.2
  |exact Ji hs ‹_›
  |exact Fe (Ji hs ‹_›)
  |exact Hf (Fe (Ji hs ‹_›)) (by omega)
  |exact Vw (Ji hs ‹_›)
  |exact Fe (Vw (Ji hs ‹_›))
  |exact(RM ‹_› ‹_› (MT (Ji hs ‹_›)) ‹_›).1
  |exact a2v (ks0:=[]) hs ‹_› ‹_› (MT (Ji hs ‹_›)) ‹_›
  |exact a2w (ks0:=[]) hs ‹_› ‹_›
  |exact a2x (ks0:=[]) hs ‹_› ‹_›
  |(have hq:=Po hs (show lqJ _ _ _ _ _ _ _ by assumption);(try simp only[Ba,List.length_append,List.length_cons,List.length_nil]);omega)
  |skip
 all_goals first
  |exact(RM ‹_› ‹_› (MT (Ji hs ‹_›)) ‹_›).2
  |skip)
end Go.My
end
section
set_option linter.unusedVariables false
set_option linter.unusedSimpArgs false
namespace Go.My
open Go.Eng Go.Proofs
variable {G:GInv}
theorem Jj{sg:List Sg}{x:Gs}{k:Int}(h:kdG sg x k=false)(hk:k≠1):(pkG sg x 0).kind≠k:=by
 rw[Pm hk] at h;simpa using h
theorem b3S{sg:List Sg}{x:Gs}{n:Nat}{k:Int}{y:Gs}(hs:sgB sg)(h:gsOk sg x)(h1:kdG sg x 1=false)(hk:(pkG sg x 0).kind=1)(hy:y=Bv x):Aj sg x (pE sg (n+1) .base) (k,y):=by
 have a:=a1C (n:=n) hs h hk
 rw[Iv] at h1
 rw[DW,DJ,if_neg (by simp [h1]),if_neg (by simp [h1])] at a
 subst hy
 exact MR a h rfl (Int.le_refl _) rfl (fun hb=>by simp [Bv] at hb)
theorem b3T{sg:List Sg}{x:Gs}{n:Nat}(hs:sgB sg)(h:gsOk sg x)(h1:kdG sg x 1=true):Aj sg x (pE sg (n+1) .base) (AX (Bi sg x 1),As (Bi sg x 1) ⟨1,Bx sg x 1,[],false⟩):=by
 have hn:=h1
 rw[Iv] at hn
 have a:=a1C (n:=n) hs h (by simp [nmG] at hn;exact hn.1)
 rw[DW,DJ,if_pos hn,if_pos hn] at a
 exact MS hs h (by omega) h1 a
theorem a2y{sg:List Sg}{x:Gs}{n:Nat}{k:Int}(hs:sgB sg)(h:gsOk sg x)(hk:k=2∨k=3)(h1:kdG sg x k=true):Aj sg x (pE sg (n+1) .base) (AX (Bi sg x k),As (Bi sg x k) ⟨k,Bx sg x k,[],false⟩):=by
 have hn:=h1
 rw[Pm (by omega)] at hn
 exact MS hs h (by omega) h1 (b1o hs h (by simpa using hn) hk)
theorem Vz{sg:List Sg}{x:Gs}{m:List UInt8}(hq:isG sg x 4 m=true):(pkG sg x 0).kind≠1:=by
 simp [isG] at hq;rw[hq.1];omega
theorem b3U{s:ST}{x:Gs}{n:Nat}{v:List Int×Gs}(h:rOk s x)(h1:kdG s.sg x 1=false)(h2:kdG s.sg x 2=false)(h3:kdG s.sg x 3=false)(hq:isG s.sg x 4 [91]=true)(hv:vlQ s.sg (pE s.sg n .value) [93] [] (AP s.sg x [91]) v):
 Aj s.sg x (pE s.sg (n+1) .base) (AX v.2,As v.2 ⟨4,[],v.1,false⟩):=by
 rw[Ek hq] at hv
 obtain⟨l,⟨a,b⟩,rfl⟩:=hv
 exact HJ a.1 ⟨by simp,by simp;omega⟩ (b1p h.2 (Vz hq) (Jj h2 (by omega)) (Jj h3 (by omega)) hq a b)
theorem b3V{s:ST}{x:Gs}{n:Nat}{v:List Int×Gs}{z:Int×Gs}(hm:sgM s.sg)(h:rOk s x)(h1:kdG s.sg x 1=false)(h2:kdG s.sg x 2=false)(h3:kdG s.sg x 3=false)(hn:isG s.sg x 4 [91]=false)(ha:arG s.sg (AP s.sg x [91])=true)
 (hv:vlQ s.sg (BS s.sg) [41] [] (AK s.sg (AP s.sg x [91]) [40]) v) (hz:Aj s.sg (AK s.sg v.2 [61,62]) (pE s.sg n .pick) z):Aj s.sg x (pE s.sg (n+1) .base) (AX z.2,As z.2 ⟨9,[],v.1++[z.1],false⟩):=by
 rw[Dl hn] at ha hv
 simp only[arG,Bool.and_eq_true] at ha
 obtain⟨l,⟨a,b⟩,rfl⟩:=hv
 refine b3I hm h.2 (Vz ha.1) (Jj h2 (by omega)) (Jj h3 (by omega)) hn ha.1 (fun s0 hs=> ?_) (b1s (l:=l) h.2 a b hz)
 obtain⟨_,rfl⟩:=Ez.1 hs;exact ha.2
theorem b3W{s:ST}{x:Gs}{n:Nat}{z:Int×Gs}(hm:sgM s.sg)(h:rOk s x)(h1:kdG s.sg x 1=false)(h2:kdG s.sg x 2=false)(h3:kdG s.sg x 3=false)(hn:isG s.sg x 4 [91]=false)(ha:arG s.sg (AP s.sg x [91])=false)(hb:(AK s.sg (AP s.sg x [91]) [40]).bad=false)
 (hz:Aj s.sg (AK s.sg (AP s.sg x [91]) [40]) (pE s.sg n .value) z):Aj s.sg x (pE s.sg (n+1) .base) (AX (AK s.sg z.2 [41]),As (AK s.sg z.2 [41]) ⟨11,[],[z.1],false⟩):=by
 rw[Dl hn] at ha hb hz
 have hq:isG s.sg x 4 [40]=true:=by
  cases hq:isG s.sg x 4 [40] with
  |true=>rfl
  |false=>rw[Pn hq] at hb;cases hb
 rw[Jh hq] at hz
 simp only[arG,hq,Bool.true_and] at ha
 refine b3J hm h.2 (Vz hq) (Jj h2 (by omega)) (Jj h3 (by omega)) hn hq (fun s0 hs=> ?_) hz
 obtain⟨_,rfl⟩:=Ez.1 hs;exact ha
theorem b3X{s:ST}{x:Gs}{n:Nat}{k:Int}(h:rOk s x)(h1:kdG s.sg x 1=false)(h2:kdG s.sg x 2=false)(h3:kdG s.sg x 3=false)(hn:isG s.sg x 4 [91]=false)(hx:x.bad=false)(hb:(AK s.sg (AP s.sg x [91]) [40]).bad=true):
 Aj s.sg x (pE s.sg (n+1) .base) (k,AK s.sg (AP s.sg x [91]) [40]):=by
 rw[Dl hn] at hb ⊢
 have hq:isG s.sg x 4 [40]=false:=by
  cases hq:isG s.sg x 4 [40] with
  |false=>rfl
  |true=>rw[Jh hq] at hb;simp only[Aw] at hb;rw[hx] at hb;cases hb
 rw[Pn hq]
 rcases Classical.em ((pkG s.sg x 0).kind=1) with e|e
 ·exact b3S h.1 h.2 h1 e rfl
 ·exact b1r h.2 e (Jj h2 (by omega)) (Jj h3 (by omega)) hn hq
theorem b3Y{s:ST}{x:Gs}{n:Nat}(hx:wQ 1 (n+1) s x)(hq:isG s.sg x 4 [91]=true):wQ 11 n s (AP s.sg x [91]):=by
 rw[Ek hq];exact⟨(a1D hq (by omega) hx.1.1.1 hx.1.1.2 hx.1.2 (by omega)).1,hx.2⟩
theorem b3Z{s:ST}{x:Gs}{n:Nat}{v:List Int×Gs}(hx:wQ 1 (n+1) s x)(hn:isG s.sg x 4 [91]=false)(ha:arG s.sg (AP s.sg x [91])=true)(hv:vlQ s.sg (BS s.sg) [41] [] (AK s.sg (AP s.sg x [91]) [40]) v):vQ 10 n s (AK s.sg v.2 [61,62]):=by
 rw[Dl hn] at ha hv
 simp only[arG,Bool.and_eq_true] at ha
 obtain⟨l,a,rfl⟩:=hv
 exact⟨b1A (x:=x) (n:=n) (l:=l) hx.1.1.1 (hx.1.1.2 (CS ha.1 (by omega)).1) ha.1 (by have:=hx.1.2;omega) a,hx.2⟩
theorem b4a{s:ST}{x:Gs}{n:Nat}(hx:wQ 1 (n+1) s x)(hn:isG s.sg x 4 [91]=false)(hb:(AK s.sg (AP s.sg x [91]) [40]).bad=false):vQ 11 n s (AK s.sg (AP s.sg x [91]) [40]):=by
 rw[Dl hn] at hb ⊢
 have hq:isG s.sg x 4 [40]=true:=by
  cases hq:isG s.sg x 4 [40] with
  |true=>rfl
  |false=>rw[Pn hq] at hb;cases hb
 rw[Jh hq];exact⟨(a1D hq (by omega) hx.1.1.1 hx.1.1.2 hx.1.2 (by omega)).2,hx.2⟩
theorem VA{s:ST}{one:Ps→PR}{m:List UInt8}{ks0:List Int}{x:Gs}{y:List Int×Gs}(hs:sgB s.sg)(h:vlQ s.sg one m ks0 x y):rOk s y.2:=(Vu hs h).1
theorem VB{s:ST}{one:Ps→PR}{m:List UInt8}{ks0:List Int}{x:Gs}{y:List Int×Gs}(hs:sgB s.sg)(h:vlQ s.sg one m ks0 x y):y.1.length≤ks0.length+3001:=(Vu hs h).2.1
def eqJ(sg:List Sg)(n:Nat)(x y:Gs)(k:Int)(N:Nat):Prop:=enI sg n x y k N∧(y.bad=false→y.deep≤20)
theorem b4b{s:ST}{x:Gs}{n:Nat}{z:Int×Gs}(hx:wQ 2 (n+1) s x)(hz:Aj s.sg x (pE s.sg n .base) z):eqJ s.sg n x z.2 z.1 (s.sg.length+1):=b1C hx.1.1.1 hx.1.1.2 hz
theorem a2z{s:ST}{x y:Gs}{n:Nat}{k:Int}{N:Nat}(hx:wQ 2 (n+1) s x)(h:eqJ s.sg n x y k N):rOk s y:=⟨hx.1.1.1.1,h.1.1.1⟩
theorem b4c{s:ST}{x y:Gs}{n:Nat}{k:Int}{N:Nat}(hx:wQ 2 (n+1) s x)(h:eqJ s.sg n x y k N)(hq:isG s.sg y 4 [40]=true):wQ 11 n s (AP s.sg y [40]):=by
 have hb:=(CS hq (by omega)).1
 have:=h.1.2.2 hb;have:=hx.1.2
 have hl:=CS hq (by omega)
 rw[Ek hq]
 have e1:(Aw y).pos=y.pos+1:=rfl
 have e2:(Aw y).deep=y.deep:=rfl
 exact⟨⟨⟨⟨hx.1.1.1.1,FR h.1.1.1 hl.2⟩,fun _=>by rw[e2];exact h.2 hb⟩,by omega⟩,hx.2⟩
theorem a2A{s:ST}{x y:Gs}{n:Nat}{k:Int}{N:Nat}{v:List Int×Gs}(hx:wQ 2 (n+1) s x)(h:eqJ s.sg n x y k N)(hq:isG s.sg y 4 [40]=true)(hv:vlQ s.sg (pE s.sg n .value) [41] [k] (AP s.sg y [40]) v):
 eqJ s.sg n x (As v.2 ⟨5,[],v.1,false⟩) (AX v.2) (N-1)∧N-1<N:=by
 rw[Ek hq,←Jh hq] at hv
 have hw:=a2q h.1.1.1 hv
 exact b1D h hw hq
theorem a2B{s:ST}{x y:Gs}{n:Nat}{k:Int}{N:Nat}(hx:wQ 2 (n+1) s x)(h:eqJ s.sg n x y k N)(hp:isG s.sg y 4 [40]=false)(hq:isG s.sg (AP s.sg y [40]) 4 [46]=true):
 eqJ s.sg n x (As (Bi s.sg (AP s.sg (AP s.sg y [40]) [46]) 1) ⟨6,Bx s.sg (AP s.sg (AP s.sg y [40]) [46]) 1,[k],false⟩) (AX (Bi s.sg (AP s.sg (AP s.sg y [40]) [46]) 1)) (N-1)∧N-1<N:=by
 rw[Dl hp] at hq ⊢
 rw[Ek hq]
 obtain⟨a,b⟩:=b3E hx.1.1.1.1 h.1 hp hq
 refine⟨⟨a,fun _=> ?_⟩,b⟩
 rw[Vf]
 have:=h.2 (CS hq (by omega)).1
 have e:(Bi s.sg (Aw y) 1).deep=y.deep:=by unfold Bi;split<;>rfl
 omega
theorem VC{s:ST}{x y:Gs}{n:Nat}{k:Int}{N:Nat}(hx:wQ 2 (n+1) s x)(h:eqJ s.sg n x y k N):rOk s (AP s.sg y [40])∧rOk s (AP s.sg (AP s.sg y [40]) [46])∧rOk s (Bi s.sg (AP s.sg (AP s.sg y [40]) [46]) 1):=
 have a:=Fe (m:=[40]) (a2z hx h)
 ⟨a,Fe a,Hf (Fe a) (by omega)⟩
theorem b4d{s:ST}{x y:Gs}{n:Nat}{k:Int}{N:Nat}(h:eqJ s.sg n x y k N)(hb:y.bad=true):Aj s.sg x (pE s.sg (n+1) .fin) (k,y):=b1j h.1 hb
theorem b4e{s:ST}{x y:Gs}{n:Nat}{k:Int}{N:Nat}(h:eqJ s.sg n x y k N)(hb:y.bad=false)(hp:isG s.sg y 4 [40]=false)(hq:isG s.sg (AP s.sg y [40]) 4 [46]=false):Aj s.sg x (pE s.sg (n+1) .fin) (k,AP s.sg (AP s.sg y [40]) [46]):=by
 rw[Dl hp] at hq ⊢
 rw[Dl hq];exact b1n h.1 hb hp hq
attribute [local irreducible] pE Bw CP fnR Aj BB gsOk AK Cx As CT Eh AP DJ DW AX Cy pkG isG nmG kdG Bi Bx BS vlQ lqJ saI arG eqJ
def Iw(n:Nat):Sig:= {X:=ST×Int×Int×Bool×List Nd,args:=fun x=>[srd x.1 (xg x)],pre:=fun x=>wQ 1 (n+1) x.1 (xg x),Y:=Int×Int×Int×Bool×List Nd,post:=fun x y=>Aj x.1.sg (xg x) (pE x.1.sg (n+1) .base) (yS y),res:=fun x y=> .int .i64 y.1,outs:=fun x y=>[srd x.1 (yG y.2)],keep:=true}
theorem b4f(n:Nat)(h:qAll G n):Am G Tryz.prog 222 (Iw n):=
 vcFun_okP [(137,0,DM),(138,0,Cp),(117,0,Br),(142,0,BU),(188,0,(FU n)),(226,0,DN),(143,0,FV),(141,0,BI),(187,0,(Gw n)),(172,0,(Lq n))] [(26,⟨Int,Bj⟩)] false (fun x=>[]) Tryz.func222 rfl (by decide) ⟨RE,JZ,He,Hd,(Vx n h),b3R,Vy,HI,h.pick,h.val,trivial⟩ (fun(x:ST×Int×Int×Bool×List Nd)=>True∧Aa (xg x).bad (rA (Iw n) x [.int .i64 (0:Int),srd x.1 (xg x)]) (cA DM [srd x.1 (xg x),.int .i64 (1:Int)] fun x_1 y=>Aa (kdG x_1.1.sg (xh x_1) x_1.2.2.2.2.2) (cA Cp [srd x_1.1 (xh x_1),.int .i64 (1:Int)] fun x_2 y=>cA Br [srd x_2.1 (Bi x_2.1.sg (xh x_2) x_2.2.2.2.2.2),.int .i64 (1:Int),.str (Bx x_2.1.sg (xh x_2) x_2.2.2.2.2.2),Ab []] fun x_3 y=>rA (Iw n) x [.int .i64 (AX (xh x_3)),srd x_3.1 (As (xh x_3) {kind:=x_3.2.2.2.2.2.1,text:=x_3.2.2.2.2.2.2.1,kids:=x_3.2.2.2.2.2.2.2,blank:=false})]) (cA DM [srd x_1.1 (xh x_1),.int .i64 (2:Int)] fun x_2 y=>Aa (kdG x_2.1.sg (xh x_2) x_2.2.2.2.2.2) (cA Cp [srd x_2.1 (xh x_2),.int .i64 (2:Int)] fun x_3 y=>cA Br [srd x_3.1 (Bi x_3.1.sg (xh x_3) x_3.2.2.2.2.2),.int .i64 (2:Int),.str (Bx x_3.1.sg (xh x_3) x_3.2.2.2.2.2),Ab []] fun x_4 y=>rA (Iw n) x [.int .i64 (AX (xh x_4)),srd x_4.1 (As (xh x_4) {kind:=x_4.2.2.2.2.2.1,text:=x_4.2.2.2.2.2.2.1,kids:=x_4.2.2.2.2.2.2.2,blank:=false})]) (cA DM [srd x_2.1 (xh x_2),.int .i64 (3:Int)] fun x_3 y=>Aa (kdG x_3.1.sg (xh x_3) x_3.2.2.2.2.2) (cA Cp [srd x_3.1 (xh x_3),.int .i64 (3:Int)] fun x_4 y=>cA Br [srd x_4.1 (Bi x_4.1.sg (xh x_4) x_4.2.2.2.2.2),.int .i64 (3:Int),.str (Bx x_4.1.sg (xh x_4) x_4.2.2.2.2.2),Ab []] fun x_5 y=>rA (Iw n) x [.int .i64 (AX (xh x_5)),srd x_5.1 (As (xh x_5) {kind:=x_5.2.2.2.2.2.1,text:=x_5.2.2.2.2.2.2.1,kids:=x_5.2.2.2.2.2.2.2,blank:=false})]) (cA BU [srd x_3.1 (xh x_3),.str #[(91:UInt8)].toList] fun x_4 y=>Aa (isG x_4.1.sg (xh x_4) (4:Int) x_4.2.2.2.2.2) (cA (FU n) [srd x_4.1 (AP x_4.1.sg (xh x_4) x_4.2.2.2.2.2),.str #[(93:UInt8)].toList,Ab []] fun x_5 y=>cA Br [srd x_5.1 (yG y.2),.int .i64 (4:Int),.str #[].toList,Ab y.1] fun x_6 y=>rA (Iw n) x [.int .i64 (AX (xh x_6)),srd x_6.1 (As (xh x_6) {kind:=x_6.2.2.2.2.2.1,text:=x_6.2.2.2.2.2.2.1,kids:=x_6.2.2.2.2.2.2.2,blank:=false})]) (cA DN [srd x_4.1 (AP x_4.1.sg (xh x_4) x_4.2.2.2.2.2)] fun x_5 y=>Aa (arG x_5.1.sg (xg x_5)) (cA FV [srd x_5.1 (xg x_5)] fun x_6 y=>cA BI [srd x_6.1 (yG y.2),.str #[(61:UInt8),(62:UInt8)].toList] fun x_7 y_1=>cA (Gw n) [srd x_7.1 (AK x_7.1.sg (xh x_7) x_7.2.2.2.2.2)] fun x_8 y_2=>∃(x_9:Int),y_2.1=x_9∧∃(zs:List Int),Ab [x_9]=Ab zs∧BF Bj∧Ba (List.length y.1+List.length zs) (8:Nat)∧cA Br [srd x_8.1 (yG y_2.2),.int .i64 (9:Int),.str #[].toList,Ab (y.1++zs)] fun x_10 y=>rA (Iw n) x [.int .i64 (AX (xh x_10)),srd x_10.1 (As (xh x_10) {kind:=x_10.2.2.2.2.2.1,text:=x_10.2.2.2.2.2.2.1,kids:=x_10.2.2.2.2.2.2.2,blank:=false})]) (cA BI [srd x_5.1 (xg x_5),.str #[(40:UInt8)].toList] fun x_6 y=>Aa (AK x_6.1.sg (xh x_6) x_6.2.2.2.2.2).bad (rA (Iw n) x [.int .i64 (0:Int),srd x_6.1 (AK x_6.1.sg (xh x_6) x_6.2.2.2.2.2)]) (cA (Lq n) [srd x_6.1 (AK x_6.1.sg (xh x_6) x_6.2.2.2.2.2)] fun x_7 y=>cA BI [srd x_7.1 (yG y.2),.str #[(41:UInt8)].toList] fun x_8 y_1=>∃(x_9:Int),y.1=x_9∧cA Br [srd x_8.1 (AK x_8.1.sg (xh x_8) x_8.2.2.2.2.2),.int .i64 (11:Int),.str #[].toList,Ab [x_9]] fun x_10 y=>rA (Iw n) x [.int .i64 (AX (xh x_10)),srd x_10.1 (As (xh x_10) {kind:=x_10.2.2.2.2.2.1,text:=x_10.2.2.2.2.2.2.1,kids:=x_10.2.2.2.2.2.2.2,blank:=false})])))))))) (fun x=>by kernel_rfl) fun(x:ST×Int×Int×Bool×List Nd) (hx:wQ 1 (n+1) x.1 (xg x))=>(by
 dsimp only[cA,Bn,Ab,AW,rA,DN,Iw,DM,BU,FV,Gw,Br,Cp,Lq,FU,BI,CO,sgs,srd,Au,Ax,mvL,lnL,mvE,lnE]
 obtain⟨s,p,d,b,ns⟩:=x;dsimp only[xg,xh] at hx ⊢
 have hx:wQ 1 (n+1) s ⟨p,d,b,ns⟩:=hx
 have h1:=hx.1.1.1;have hs:=h1.1
 (repeat' first|(with_reducible first|rfl|exact True.intro|apply AJ|apply And.intro|((first|apply Az|apply AH|apply AA|apply AI)<;>intro _))|(apply Av<;>intro _)|apply AG|refine Af () ?_ ?_|((first|apply AO|apply AN|apply AM|apply AL|apply AF|apply AE|apply AD|apply AC|apply AB)<;>try dsimp only)|apply Af|(refine Prod.forall.2 ?_;intro _;try dsimp only)|(intro _;try dsimp only))
 all_goals(try dsimp only[xg,xh,yG,yS,iG] at*)
 all_goals(try simp only[FS] at*)
 all_goals first
  |rfl
  |exact h1
  |omega
  |(simp;done)
  |exact a2p h1.2 ‹_›
  |exact b3T hs h1.2 ‹_›
  |exact a2y hs h1.2 (.inl rfl) ‹_›
  |exact a2y hs h1.2 (.inr rfl) ‹_›
  |exact Hf h1 (by omega)
  |exact b3Y hx ‹_›
  |exact b3U h1 ‹_› ‹_› ‹_› ‹_› ‹_›
  |exact VA hs ‹_›
  |exact Fe h1
  |exact b3Z hx ‹_› ‹_› ‹_›
  |exact b4a hx ‹_› ‹_›
  |exact(Gv (Fe h1)).1
  |exact EN h1 ‹_›
  |exact(Gv (EN h1 ‹_›)).1
  |exact b3V hx.2 h1 ‹_› ‹_› ‹_› ‹_› ‹_› ‹_› ‹_›
  |exact b3W hx.2 h1 ‹_› ‹_› ‹_› ‹_› ‹_› ‹_› ‹_›
  |exact b3X h1 ‹_› ‹_› ‹_› ‹_› ‹_› ‹_›
  |(have hq:=VB hs (show vlQ _ _ _ [] _ _ by assumption);(try simp only[Ba,List.length_append,List.length_cons,List.length_nil] at*);omega)
  |skip)
def RQ(n:Nat):Sig:= {X:=ST×Int×Int×Bool×List Nd,args:=fun x=>[srd x.1 (xg x)],pre:=fun x=>wQ 2 (n+1) x.1 (xg x),Y:=Int×Int×Int×Bool×List Nd,post:=fun x y=>Aj x.1.sg (xg x) (pE x.1.sg (n+1) .fin) (yS y),res:=fun x y=> .int .i64 y.1,outs:=fun x y=>[srd x.1 (yG y.2)],keep:=true}
def Pp(n:Nat)(x:ST×Int×Int×Bool×List Nd):LS:= {ι:=Int×Int×Bool×List Nd×Int×Nat,inv:=fun i=>eqJ x.1.sg n (xg x) (iG i) i.2.2.2.2.1 i.2.2.2.2.2,regs:=fun i=>[(0,srd x.1 (iG i)),(3,.int .i64 i.2.2.2.2.1)],als:=[],meas:=fun i=>i.2.2.2.2.2}
theorem b4g(n:Nat)(h:qAll G n):Am G Tryz.prog 212 (RQ n):=
 vcFun_okP [(222,0,(RL n)),(142,0,BU),(188,0,(FU n)),(117,0,Br),(138,0,Cp)] [(26,⟨Int,Bj⟩)] false (fun x=>[(2,Pp n x)]) Tryz.func212 rfl (by decide) ⟨h.base,Hd,(Vx n h),He,JZ,trivial⟩ (fun(x:ST×Int×Int×Bool×List Nd)=>True∧cA (RL n) [srd x.1 (xg x)] fun x_1 y=>eA (Pp n x) [srd x_1.1 (yG y.2),.int .i64 y.1]∧∀(i:Int×Int×Bool×List Nd×Int×Nat),eqJ x.1.sg n (xg x) (iG i) i.2.2.2.2.1 i.2.2.2.2.2→Aa (!(iG i).bad) (cA BU [srd x.1 (iG i),.str #[(40:UInt8)].toList] fun x_2 y=>Aa (isG x_2.1.sg (xh x_2) (4:Int) x_2.2.2.2.2.2) (∃(x_3:Int),i.2.2.2.2.1=x_3∧cA (FU n) [srd x_2.1 (AP x_2.1.sg (xh x_2) x_2.2.2.2.2.2),.str #[(41:UInt8)].toList,Ab [x_3]] fun x_4 y=>cA Br [srd x_4.1 (yG y.2),.int .i64 (5:Int),.str #[].toList,Ab y.1] fun x_5 y=>eN (Pp n x) i [srd x_5.1 (As (xh x_5) {kind:=x_5.2.2.2.2.2.1,text:=x_5.2.2.2.2.2.2.1,kids:=x_5.2.2.2.2.2.2.2,blank:=false}),.int .i64 (AX (xh x_5))]) (cA BU [srd x_2.1 (AP x_2.1.sg (xh x_2) x_2.2.2.2.2.2),.str #[(46:UInt8)].toList] fun x_3 y=>Aa (isG x_3.1.sg (xh x_3) (4:Int) x_3.2.2.2.2.2) (cA Cp [srd x_3.1 (AP x_3.1.sg (xh x_3) x_3.2.2.2.2.2),.int .i64 (1:Int)] fun x_4 y=>∃(x_5:Int),i.2.2.2.2.1=x_5∧cA Br [srd x_4.1 (Bi x_4.1.sg (xh x_4) x_4.2.2.2.2.2),.int .i64 (6:Int),.str (Bx x_4.1.sg (xh x_4) x_4.2.2.2.2.2),Ab [x_5]] fun x_6 y=>eN (Pp n x) i [srd x_6.1 (As (xh x_6) {kind:=x_6.2.2.2.2.2.1,text:=x_6.2.2.2.2.2.2.1,kids:=x_6.2.2.2.2.2.2.2,blank:=false}),.int .i64 (AX (xh x_6))]) (rA (RQ n) x [.int .i64 i.2.2.2.2.1,srd x_3.1 (AP x_3.1.sg (xh x_3) x_3.2.2.2.2.2)]))) (rA (RQ n) x [.int .i64 i.2.2.2.2.1,srd x.1 (iG i)])) (fun x=>by kernel_rfl) fun(x:ST×Int×Int×Bool×List Nd) (hx:wQ 2 (n+1) x.1 (xg x))=>(by
 dsimp only[cA,eA,eN,Pp,Bn,Ab,AW,rA,RL,RQ,BU,Br,Cp,FU,CO,sgs,srd,Au,Ax,mvL,lnL,mvE,lnE,Bm]
 obtain⟨s,p,d,b,ns⟩:=x;dsimp only[xg,xh] at hx ⊢
 have hx:wQ 2 (n+1) s ⟨p,d,b,ns⟩:=hx
 have h1:=hx.1.1.1;have hs:=h1.1
 (repeat' first|(with_reducible first|rfl|exact True.intro|apply AJ|apply And.intro|((first|apply Az|apply AH|apply AA|apply AI)<;>intro _))|(apply Av<;>intro _)|apply AG|refine Af () ?_ ?_|((first|apply AO|apply AN|apply AM|apply AL|apply AF|apply AE|apply AD|apply AC|apply AB)<;>try dsimp only)|apply Af|(refine Prod.forall.2 ?_;intro _;try dsimp only)|(intro _;try dsimp only))
 all_goals(try dsimp only[xg,xh,yG,yS,iG] at*)
 all_goals(try simp only[FS] at*)
 all_goals first
  |(show Nat;skip)
  |rfl
  |exact⟨b1E hx.1.1.1 hx.1.1.2 hx.1.2,hx.2⟩
  |exact b4b hx ‹_›
  |exact a2z hx ‹_›
  |exact b4c hx ‹_› ‹_›
  |exact(VC hx ‹_›).1
  |exact(VC hx ‹_›).2.1
  |exact(VC hx ‹_›).2.2
  |exact VA hs ‹_›
  |exact(a2A hx ‹_› ‹_› ‹_›).1
  |exact(a2B hx ‹_› ‹_› ‹_›).1
  |exact b4d ‹_› ‹_›
  |exact b4e ‹_› ‹_› ‹_› ‹_›
  |omega
  |(simp;done)
  |skip
 all_goals first
  |exact(a2A hx ‹_› ‹_› ‹_›).2
  |exact(a2B hx ‹_› ‹_› ‹_›).2
  |skip)
end Go.My
end
section
set_option linter.unusedVariables false
set_option linter.unusedSimpArgs false
namespace Go.My
open Go.Eng Go.Proofs
variable {G:GInv}
theorem bt{a b:List UInt8}(h:(a==b)=true):a=b:=by simpa using h
theorem bf{a b:List UInt8}(h:(a==b)=false):a≠b:=by simpa using h
def csJ(sg:List Sg)(n l:Nat)(x y:Gs)(t:List UInt8)(ks:List Int)(N:Nat):Prop:=chS sg n l x y t ks N∧(y.bad=false→y.deep≤20)
theorem b4h{s:ST}{x:Gs}{n:Nat}{l:Int}(hx:wQ (9-l.toNat) (n+1) s x)(hl:l>5)(h6:l≤6):wQ 2 n s x:=by
 have e:l.toNat=6:=by omega
 have a:=hx.1.2
 rw[e] at a
 exact⟨⟨hx.1.1,by omega⟩,hx.2⟩
theorem b4i{s:ST}{x:Gs}{n:Nat}{l:Int}{z:Int×Gs}(hl:l>5)(h6:l≤6)(h:Aj s.sg x (pE s.sg n .fin) z):Aj s.sg x (pE s.sg (n+1) (.chain l.toNat)) z:=b1G (by omega) h
theorem b4j{s:ST}{x:Gs}{n:Nat}{l:Int}(hx:wQ (9-l.toNat) (n+1) s x)(h0:0≤l)(hl:¬l>5):wQ (9-(l+1).toNat) n s x:=⟨⟨hx.1.1,by have:=hx.1.2;omega⟩,hx.2⟩
theorem b4k{s:ST}{x:Gs}{n:Nat}{l:Int}{z:Int×Gs}(hx:wQ (9-l.toNat) (n+1) s x)(h0:0≤l)(hl:¬l>5)(hz:Aj s.sg x (pE s.sg n (.chain (l+1).toNat)) z):csJ s.sg n l.toNat x z.2 [] [z.1] (2*s.sg.length+4):=by
 rw[show(l+1).toNat=l.toNat+1 by omega] at hz
 exact⟨b3w hx.1.1.1.2 (by omega) hz,Ph hz hx.1.1.2⟩
theorem a2C{s:ST}{x y:Gs}{n l:Nat}{t:List UInt8}{ks:List Int}{N:Nat}(hs:sgB s.sg)(h:csJ s.sg n l x y t ks N):rOk s y:=⟨hs,h.1.1.1⟩
theorem a2D{s:ST}{x y:Gs}{n l:Nat}{t:List UInt8}{ks:List Int}{N:Nat}{i:Int}{m:List UInt8}(hs:sgB s.sg)(h:csJ s.sg n l x y t ks N)(hq:mkQ s.sg y l i m):rOk s (gM y m):=by
 unfold gM;split
 ·exact a2C hs h
 ·rename_i hm
  rcases hq.2 with h2|h2
  ·exact(hm h2.1).elim
  ·have hg:=(JU (sg:=s.sg) (l:=l) (g:=y) (by rw[←h2.2];exact hm)).1
   exact⟨hs,FR h.1.1.1 (CS hg (by omega)).2⟩
theorem a2E{s:ST}{x y:Gs}{n:Nat}{l:Int}{t:List UInt8}{ks:List Int}{N:Nat}{i:Int}{m:List UInt8}(hx:wQ (9-l.toNat) (n+1) s x)(h0:0≤l)(hl:¬l>5)(h:csJ s.sg n l.toNat x y t ks N)(hq:mkQ s.sg y l.toNat i m)(hm:m≠[]):wQ (9-(l+1).toNat) n s (gM y m):=by
 have hr:=a2D hx.1.1.1.1 h hq
 rw[RI hm] at hr ⊢
 rcases hq.2 with h2|h2
 ·exact(hm h2.1).elim
 ·have hg:=(JU (sg:=s.sg) (l:=l.toNat) (g:=y) (by rw[←h2.2];exact hm)).1
  have hb:=CS hg (by omega)
  have e1:(Aw y).pos=y.pos+1:=rfl
  have e2:(Aw y).deep=y.deep:=rfl
  have:=h.1.1.2.2.1;have:=hx.1.2;have:=h.2 hb.1
  exact⟨⟨⟨hr,fun _=>by omega⟩,by omega⟩,hx.2⟩
theorem b4l{s:ST}{x y:Gs}{n:Nat}{l:Int}{t:List UInt8}{ks:List Int}{N:Nat}{i:Int}{m:List UInt8}(hx:wQ (9-l.toNat) (n+1) s x)(h0:0≤l)(hl:¬l>5)(h:csJ s.sg n l.toNat x y t ks N)(hq:mkQ s.sg y l.toNat i m)(hm:m≠[])(ht:t≠[]):wQ (9-(l+1).toNat) n s (As (gM y m) ⟨7,t,ks,false⟩):=by
 have a:=a2E hx h0 hl h hq hm
 obtain⟨d1,d2,d3⟩:= @Je (gM y m) ⟨7,t,ks,false⟩
 have hw:=Vr (ks:=ks) hx.1.1.1.1 (h.1.2.2.2.2.2 ht).2 (by have:=h.1.2.2.1;have:=h.1.1.1.1;omega)
 exact⟨⟨⟨⟨a.1.1.1.1,Pa a.1.1.1.2 hw⟩,fun hb=>by rw[d1];exact a.1.1.2 (d3 hb)⟩,by rw[d2];exact a.1.2⟩,a.2⟩
theorem RR{s:ST}{x y:Gs}{n:Nat}{l:Int}{t:List UInt8}{ks:List Int}{N:Nat}{i:Int}{m:List UInt8}{z:Int×Gs}(h0:0≤l)(h:csJ s.sg n l.toNat x y t ks N)(hq:mkQ s.sg y l.toNat i m)(hi:¬i<((BM l.toNat).length:Int))(hm:m≠[])(ht:t=[]∨m=t)
 (hz:Aj s.sg (gM y m) (pE s.sg n (.chain (l+1).toNat)) z):csJ s.sg n l.toNat x z.2 m (ks++[z.1]) (N-1)∧N-1<N:=by
 have e:=RJ hq hi
 rw[RI hm,show(l+1).toNat=l.toNat+1 by omega] at hz
 obtain⟨a,b⟩:=b3x h.1 (by rw[←e];exact hm) (by rw[←e];exact ht) hz
 rw[←e] at a
 have hg:=(JU (sg:=s.sg) (l:=l.toNat) (g:=y) (by rw[←e];exact hm)).1
 exact⟨⟨a,Ph hz (fun _=>h.2 (CS hg (by omega)).1)⟩,b⟩
theorem a2F{s:ST}{x y:Gs}{n:Nat}{l:Int}{t:List UInt8}{ks:List Int}{N:Nat}{i:Int}{m:List UInt8}{z:Int×Gs}(hs:sgB s.sg)(h0:0≤l)(h:csJ s.sg n l.toNat x y t ks N)(hq:mkQ s.sg y l.toNat i m)(hi:¬i<((BM l.toNat).length:Int))(hm:m≠[])(ht:t≠[])(hne:m≠t)
 (hz:Aj s.sg (As (gM y m) ⟨7,t,ks,false⟩) (pE s.sg n (.chain (l+1).toNat)) z):csJ s.sg n l.toNat x z.2 m ([AX (gM y m)]++[z.1]) (N-2)∧N-2<N:=by
 have e:=RJ hq hi
 rw[RI hm] at hz ⊢
 rw[show(l+1).toNat=l.toNat+1 by omega] at hz
 obtain⟨a,b⟩:=b3y hs h.1 (by rw[←e];exact hm) ht (by rw[←e];exact hne) hz
 rw[←e] at a
 have hg:=(JU (sg:=s.sg) (l:=l.toNat) (g:=y) (by rw[←e];exact hm)).1
 refine⟨⟨a,Ph hz (fun hb=> ?_)⟩,b⟩
 rw[Vf];exact h.2 (CS hg (by omega)).1
theorem b4m{s:ST}{x y:Gs}{n l:Nat}{t:List UInt8}{ks:List Int}{N:Nat}{i:Int}{m:List UInt8}{k:Int}(h:csJ s.sg n l x y t ks N)(hq:mkQ s.sg y l i m)(hi:¬i<((BM l).length:Int))(hm:m=[])(hl:(ks.length:Int)=1)(hk:ks[(0:Int).toNat]? =some k):Aj s.sg x (pE s.sg (n+1) (.chain l)) (k,gM y m):=by
 have e:=RJ hq hi
 subst hm
 exact a2n h.1 (.inr e.symm) (by omega) hk
theorem b4n{s:ST}{x y:Gs}{n l:Nat}{t:List UInt8}{ks:List Int}{N:Nat}{i:Int}{m:List UInt8}(hs:sgB s.sg)(h:csJ s.sg n l x y t ks N)(hq:mkQ s.sg y l i m)(hi:¬i<((BM l).length:Int))(hm:m=[])(hl:(ks.length:Int)≠1):Aj s.sg x (pE s.sg (n+1) (.chain l)) (AX (gM y m),As (gM y m) ⟨7,t,ks,false⟩):=by
 have e:=RJ hq hi
 subst hm
 exact a2o hs h.1 (.inr e.symm) (by omega)
theorem b4o{s:ST}{x y:Gs}{n l:Nat}{t:List UInt8}{ks:List Int}{N:Nat}{k:Int}(h:csJ s.sg n l x y t ks N)(hb:y.bad=true)(hl:(ks.length:Int)=1)(hk:ks[(0:Int).toNat]? =some k):Aj s.sg x (pE s.sg (n+1) (.chain l)) (k,y):=a2n h.1 (.inl hb) (by omega) hk
theorem b4p{s:ST}{x y:Gs}{n l:Nat}{t:List UInt8}{ks:List Int}{N:Nat}(hs:sgB s.sg)(h:csJ s.sg n l x y t ks N)(hb:y.bad=true)(hl:(ks.length:Int)≠1):Aj s.sg x (pE s.sg (n+1) (.chain l)) (AX y,As y ⟨7,t,ks,false⟩):=a2o hs h.1 (.inl hb) (by omega)
theorem b4q{s:ST}{x y:Gs}{n l:Nat}{t:List UInt8}{ks:List Int}{N:Nat}(hs:sgB s.sg)(h:csJ s.sg n l x y t ks N):ks.length≤3001∧1≤ks.length:=by
 have h1:=h.1.2.2.1;have h2:=h.1.1.1.1.2;have h3:=hs.1
 refine⟨by omega,?_⟩
 rcases Classical.em (t=[]) with e|e
 ·have:=h.1.2.2.2.2.1 e;omega
 ·have:=(h.1.2.2.2.2.2 e).1;omega
theorem b4r{sg:List Sg}{y:Gs}{l:Nat}{i:Int}{m:List UInt8}(h:mkQ sg y l i m):(0≤i∧i≤(BM l).length)∧(BM l).length≤2:=⟨h.1,b1B⟩
theorem Ka{sg:List Sg}{y:Gs}{l:Nat}{i:Int}{m v:List UInt8}(h:mkQ sg y l i m)(hm:m=[])(ha:(BM l)[i.toNat]? =some v)(hg:isG sg (gM y m) 4 v=true):
 (AP sg (gM y m) v).pos=(gM y v).pos∧(AP sg (gM y m) v).bad=(gM y v).bad∧(AP sg (gM y m) v).deep=(gM y v).deep∧(AP sg (gM y m) v).nodes=(gM y v).nodes:=by
 rw[(Vt h hm ha hg).2];exact⟨rfl,rfl,rfl,rfl⟩
theorem b4s{sg:List Sg}{p d:Int}{b:Bool}{ns:List Nd}{f:Ps→PR}{z:Int×Gs}(hd:d≤20)(h:d+1>20)(hz:Aj sg ⟨p,d+1,true,ns⟩ f z):Aj sg (pkX ⟨p,d,b,ns⟩) f z:=by
 have e:pkX ⟨p,d,b,ns⟩=⟨p,d+1,true,ns⟩:=by simp only[pkX];rw[if_pos (show d=20 by omega)];rfl
 rw[e];exact hz
theorem b4t{sg:List Sg}{p d:Int}{b:Bool}{ns:List Nd}{f:Ps→PR}{z:Int×Gs}(h:¬d+1>20)(hz:Aj sg ⟨p,d+1,b,ns⟩ f z):Aj sg (pkX ⟨p,d,b,ns⟩) f z:=by
 have e:pkX ⟨p,d,b,ns⟩=⟨p,d+1,b,ns⟩:=by simp only[pkX];rw[if_neg (show¬d=20 by omega)];rfl
 rw[e];exact hz
theorem b4u{s:ST}{p d:Int}{b:Bool}{ns:List Nd}{n:Nat}(hx:vQ 10 (n+1) s ⟨p,d,b,ns⟩)(h:d+1>20):wQ (9-(0:Int).toNat) n s ⟨p,d+1,true,ns⟩:=by
 have a:=(a1E hx.1.1.1 hx.1.1.2 hx.1.2).1
 have hd:=hx.1.1.2;simp only at hd
 have e:pkX ⟨p,d,b,ns⟩=⟨p,d+1,true,ns⟩:=by simp only[pkX];rw[if_pos (show d=20 by omega)];rfl
 rw[e] at a;exact⟨a,hx.2⟩
theorem b4v{s:ST}{p d:Int}{b:Bool}{ns:List Nd}{n:Nat}(hx:vQ 10 (n+1) s ⟨p,d,b,ns⟩)(h:¬d+1>20):wQ (9-(0:Int).toNat) n s ⟨p,d+1,b,ns⟩:=by
 have a:=(a1E hx.1.1.1 hx.1.1.2 hx.1.2).1
 have e:pkX ⟨p,d,b,ns⟩=⟨p,d+1,b,ns⟩:=by simp only[pkX];rw[if_neg (show¬d=20 by omega)];rfl
 rw[e] at a;exact⟨a,hx.2⟩
theorem b4w{s:ST}{x y:Gs}{n:Nat}{ks:List Int}{N:Nat}(hx:vQ 11 (n+1) s x)(h:vaJ s.sg n x y ks N)(hq:isG s.sg y 4 [46,46]=true):
 wQ 11 n s (AK s.sg (As (Bi s.sg (AP s.sg y [46,46]) 1) ⟨1,Bx s.sg (AP s.sg y [46,46]) 1,[],false⟩) [40]):=by
 have hr:=Vg hx.1.1.1 h
 have a:=MT (m:=[46,46]) hr
 have e:=CE a
 have t:=Hc (m:=[40]) (Ft a)
 rw[Ek hq] at a e t ⊢
 simp only at e t
 have e1:(Aw y).pos=y.pos+1:=rfl
 have e2:(Aw y).deep=y.deep:=rfl
 have:=h.1.1.2.2.1;have:=h.2;have:=hx.1.2
 exact⟨⟨⟨⟨hx.1.1.1.1,t.1⟩,fun _=>by omega⟩,by omega⟩,hx.2⟩
theorem a2G{s:ST}{x y:Gs}{n:Nat}{ks:List Int}{N:Nat}{v:List Int×Gs}(hs:sgB s.sg)(h:vaJ s.sg n x y ks N)(hq:isG s.sg y 4 [46,46]=true)
 (hv:vlQ s.sg (pE s.sg n .value) [41] [AX (Bi s.sg (AP s.sg y [46,46]) 1)] (AK s.sg (As (Bi s.sg (AP s.sg y [46,46]) 1) ⟨1,Bx s.sg (AP s.sg y [46,46]) 1,[],false⟩) [40]) v):
 vaJ s.sg n x (As v.2 ⟨5,[],v.1,false⟩) (ks++[AX v.2]) (N-1)∧N-1<N:=by
 have a:=MT (m:=[46,46]) (show rOk s y from⟨hs,h.1.1.1⟩)
 have hw:=a2q (Ft a) hv
 have e:=(CE a).1
 rw[Ek hq] at a e
 obtain⟨c1,c2⟩:=ML (b3F h.1 hq a (by rw[Ek hq] at hw;exact hw))
 have e2:(Aw y).deep=y.deep:=rfl
 have e3:=(CE hw).1
 rw[Ek hq] at e3
 have:=h.2
 exact⟨a1G ⟨c1,by simp only at*;omega⟩,c2⟩
theorem VD{s:ST}{x y:Gs}{n:Nat}{ks:List Int}{N:Nat}(hs:sgB s.sg)(h:vaJ s.sg n x y ks N):rOk s (AP s.sg y [46,46])∧rOk s (Bi s.sg (AP s.sg y [46,46]) 1)∧rOk s (As (Bi s.sg (AP s.sg y [46,46]) 1) ⟨1,Bx s.sg (AP s.sg y [46,46]) 1,[],false⟩):=
 have hr:rOk s y:=⟨hs,h.1.1.1⟩
 ⟨Fe hr,Hf (Fe hr) (by omega),Vw hr⟩
def lqI(s:ST)(e:Int)(j:Int×Int×Bool×List Nd×List UInt8×List Int×Nat):LS:= {
 ι:=Int×List UInt8,inv:=fun i=>mkQ s.sg (iF j) e.toNat i.1 i.2,regs:=fun i=>[(0,srd s (gM (iF j) i.2)),(1,.int .i64 e),(5,Ab j.2.2.2.2.2.1),(6,.str j.2.2.2.2.1),(7,.sl false 0 1 (List UInt8) Ag (BM e.toNat)),(8,.str i.2),(9,.int .i64 i.1)],als:=[],meas:=fun i=>(BM e.toNat).length-i.1.toNat}
def lqO(n:Nat)(x:ST×Int×Int×Bool×List Nd×Int):LS:= {
 ι:=Int×Int×Bool×List Nd×List UInt8×List Int×Nat,inv:=fun i=>csJ x.1.sg n x.2.2.2.2.2.toNat (xh x) (iF i) i.2.2.2.2.1 i.2.2.2.2.2.1 i.2.2.2.2.2.2,regs:=fun i=>[(0,srd x.1 (iF i)),(1,.int .i64 x.2.2.2.2.2),(5,Ab i.2.2.2.2.2.1),(6,.str i.2.2.2.2.1),(7,.sl false 0 1 (List UInt8) Ag (BM x.2.2.2.2.2.toNat))],als:=[],meas:=fun i=>i.2.2.2.2.2.2,
 sub:=fun j=>[(9,lqI x.1 x.2.2.2.2.2 j)]}
attribute [local irreducible] pE Bw CP fnR Aj BB gsOk AK Cx As CT Eh AP DJ DW AX Cy pkG isG nmG kdG Bi Bx BS vlQ lqJ saI arG eqJ csJ mkQ gM vaJ
def HM:Sig:= {X:=Int,args:=fun x=>[.int .i64 x],pre:=fun x=>0≤x∧x≤5,Y:=Unit,post:=fun x y=>True,res:=fun x y=> .sl false 0 1 (List UInt8) Ag (BM x.toNat),outs:=fun x y=>[.top],keep:=true}
theorem b4x:Am G Tryz.prog 213 HM:=
 vcFun_okP [] [(38,⟨List UInt8,Ag⟩)] false (fun x=>[]) Tryz.func213 rfl (by decide) trivial (fun(x:Int)=>True∧Aa (x==(0:Int)) (∃(x_1:List UInt8),#[(124:UInt8),(124:UInt8)].toList=x_1∧rA HM x [AV.sl true (0:Nat) (1:Nat) (List UInt8) Ag [x_1],.top]) (Aa (x==(1:Int)) (∃(x_1:List UInt8),#[(38:UInt8),(38:UInt8)].toList=x_1∧rA HM x [AV.sl true (0:Nat) (1:Nat) (List UInt8) Ag [x_1],.top]) (Aa (x==(2:Int)) (∃(x_1:List UInt8),#[(61:UInt8),(61:UInt8)].toList=x_1∧rA HM x [AV.sl true (0:Nat) (1:Nat) (List UInt8) Ag [x_1],.top]) (Aa (x==(3:Int)) (∃(x_1:List UInt8),#[(60:UInt8)].toList=x_1∧rA HM x [AV.sl true (0:Nat) (1:Nat) (List UInt8) Ag [x_1],.top]) (Aa (x==(4:Int)) (∃(x_1:List UInt8),#[(43:UInt8)].toList=x_1∧∃(x_2:List UInt8),#[(45:UInt8)].toList=x_2∧rA HM x [AV.sl true (0:Nat) (1:Nat) (List UInt8) Ag [x_1,x_2],.top]) (∃(x_1:List UInt8),#[(42:UInt8)].toList=x_1∧rA HM x [AV.sl true (0:Nat) (1:Nat) (List UInt8) Ag [x_1],.top])))))) (fun x=>by kernel_rfl) fun(x:Int) (hx:0≤x∧x≤5)=>(by
 dsimp only[rA,HM,Au,Ax]
 obtain⟨h1,h2⟩:=hx
 have hh:x=0∨x=1∨x=2∨x=3∨x=4∨x=5:=by omega
 rcases hh with rfl|rfl|rfl|rfl|rfl|rfl
 all_goals(repeat' first|(with_reducible first|rfl|exact True.intro|apply AJ|apply And.intro|((first|apply Az|apply AH|apply AA|apply AI)<;>intro _))|(apply Av<;>intro _)|apply AG|refine Af () ?_ ?_|((first|apply AO|apply AN|apply AM|apply AL|apply AF|apply AE|apply AD|apply AC|apply AB)<;>try dsimp only)|apply Af|(refine Prod.forall.2 ?_;intro _;try dsimp only)|(intro _;try dsimp only))
 all_goals first
  |rfl
  |omega
  |(simp [Ba];done)
  |skip)
def Lr(n:Nat):Sig:= {X:=ST×Int×Int×Bool×List Nd×Int,args:=fun x=>[srd x.1 (xh x),.int .i64 x.2.2.2.2.2],pre:=fun x=>wQ (9-x.2.2.2.2.2.toNat) (n+1) x.1 (xh x)∧0≤x.2.2.2.2.2∧x.2.2.2.2.2≤6,Y:=Int×Int×Int×Bool×List Nd,post:=fun x y=>Aj x.1.sg (xh x) (pE x.1.sg (n+1) (.chain x.2.2.2.2.2.toNat)) (yS y),res:=fun x y=> .int .i64 y.1,outs:=fun x y=>[srd x.1 (yG y.2),.top],keep:=true}
theorem b4y(n:Nat)(h:qAll G n):Am G Tryz.prog 202 (Lr n):=
 vcFun_okP [(212,0,(RK n)),(202,0,(HL n)),(213,0,HM),(142,0,BU),(117,0,Br)] [(26,⟨Int,Bj⟩),(38,⟨List UInt8,Ag⟩)] false (fun x=>[(6,lqO n x)]) Tryz.func202 rfl (by decide) ⟨h.fin,h.chain,b4x,Hd,He,trivial⟩ (fun(x:ST×Int×Int×Bool×List Nd×Int)=>True∧Aa (decide (x.2.2.2.2.2>(5:Int))) (cA (RK n) [srd x.1 (xh x)] fun x_1 y=>rA (Lr n) x [.int .i64 y.1,srd x_1.1 (yG y.2),.top]) (inR IntKind.i64 (x.2.2.2.2.2+(1:Int))∧cA (HL n) [srd x.1 (xh x),.int .i64 (x.2.2.2.2.2+(1:Int))] fun x_1 y=>∃(x_2:Int),y.1=x_2∧cA HM [.int .i64 x.2.2.2.2.2] fun x_3 y_1=>eA (lqO n x) [srd x_1.1 (yG y.2),.int .i64 x.2.2.2.2.2,Ab [x_2],.str #[].toList,AV.sl false (0:Nat) (1:Nat) (List UInt8) Ag (BM (Int.toNat x_3))]∧∀(i:Int×Int×Bool×List Nd×List UInt8×List Int×Nat),csJ x.1.sg n (Int.toNat x.2.2.2.2.2) (xh x) (iF i) i.2.2.2.2.1 i.2.2.2.2.2.1 i.2.2.2.2.2.2→Aa (!(iF i).bad) (eA (lqI x.1 x.2.2.2.2.2 i) [srd x.1 (iF i),.int .i64 x.2.2.2.2.2,Ab i.2.2.2.2.2.1,.str i.2.2.2.2.1,AV.sl false (0:Nat) (1:Nat) (List UInt8) Ag (BM (Int.toNat x.2.2.2.2.2)),.str #[].toList,.int .i64 (0:Int)]∧∀(i_1:Int×List UInt8),mkQ x.1.sg (iF i) (Int.toNat x.2.2.2.2.2) i_1.1 i_1.2→Aa (decide (i_1.1<(↑(List.length (BM (Int.toNat x.2.2.2.2.2))):Int))) (Aa (i_1.2== #[].toList) (((0:Int)≤i_1.1∧i_1.1<(↑(List.length (BM (Int.toNat x.2.2.2.2.2))):Int))∧∀(e:List UInt8),(BM (Int.toNat x.2.2.2.2.2))[Int.toNat i_1.1]? =some e→cA BU [srd x.1 (gM (iF i) i_1.2),.str e] fun x_4 y=>Aa (isG x_4.1.sg (xh x_4) (4:Int) x_4.2.2.2.2.2) (((0:Int)≤i_1.1∧i_1.1<(↑(List.length (BM (Int.toNat x.2.2.2.2.2))):Int))∧∀(e:List UInt8),(BM (Int.toNat x.2.2.2.2.2))[Int.toNat i_1.1]? =some e→inR IntKind.i64 (i_1.1+(1:Int))∧eN (lqI x.1 x.2.2.2.2.2 i) i_1 [srd x_4.1 (AP x_4.1.sg (xh x_4) x_4.2.2.2.2.2),.int .i64 x.2.2.2.2.2,Ab i.2.2.2.2.2.1,.str i.2.2.2.2.1,AV.sl false (0:Nat) (1:Nat) (List UInt8) Ag (BM (Int.toNat x.2.2.2.2.2)),.str e,.int .i64 (i_1.1+(1:Int))]) (inR IntKind.i64 (i_1.1+(1:Int))∧eN (lqI x.1 x.2.2.2.2.2 i) i_1 [srd x_4.1 (AP x_4.1.sg (xh x_4) x_4.2.2.2.2.2),.int .i64 x.2.2.2.2.2,Ab i.2.2.2.2.2.1,.str i.2.2.2.2.1,AV.sl false (0:Nat) (1:Nat) (List UInt8) Ag (BM (Int.toNat x.2.2.2.2.2)),.str i_1.2,.int .i64 (i_1.1+(1:Int))])) (inR IntKind.i64 (i_1.1+(1:Int))∧eN (lqI x.1 x.2.2.2.2.2 i) i_1 [srd x.1 (gM (iF i) i_1.2),.int .i64 x.2.2.2.2.2,Ab i.2.2.2.2.2.1,.str i.2.2.2.2.1,AV.sl false (0:Nat) (1:Nat) (List UInt8) Ag (BM (Int.toNat x.2.2.2.2.2)),.str i_1.2,.int .i64 (i_1.1+(1:Int))])) (Aa (i_1.2== #[].toList) (Aa ((↑(List.length i.2.2.2.2.2.1):Int)==(1:Int)) (((0:Int)≤(0:Int)∧(0:Int)<(↑(List.length i.2.2.2.2.2.1):Int))∧(0:Nat)<List.length i.2.2.2.2.2.1∧∀(x_4:Int),i.2.2.2.2.2.1[(0:Nat)]? =some x_4→rA (Lr n) x [.int .i64 x_4,srd x.1 (gM (iF i) i_1.2),.top]) (cA Br [srd x.1 (gM (iF i) i_1.2),.int .i64 (7:Int),.str i.2.2.2.2.1,Ab i.2.2.2.2.2.1] fun x_4 y=>rA (Lr n) x [.int .i64 (AX (xh x_4)),srd x_4.1 (As (xh x_4) {kind:=x_4.2.2.2.2.2.1,text:=x_4.2.2.2.2.2.2.1,kids:=x_4.2.2.2.2.2.2.2,blank:=false}),.top])) (Aa (!i.2.2.2.2.1== #[].toList) (Aa (!i_1.2==i.2.2.2.2.1) (cA Br [srd x.1 (gM (iF i) i_1.2),.int .i64 (7:Int),.str i.2.2.2.2.1,Ab i.2.2.2.2.2.1] fun x_4 y=>∃(x_5:Int),AX (xh x_4)=x_5∧inR IntKind.i64 (x.2.2.2.2.2+(1:Int))∧cA (HL n) [srd x_4.1 (As (xh x_4) {kind:=x_4.2.2.2.2.2.1,text:=x_4.2.2.2.2.2.2.1,kids:=x_4.2.2.2.2.2.2.2,blank:=false}),.int .i64 (x.2.2.2.2.2+(1:Int))] fun x_6 y=>∃(x_7:Int),y.1=x_7∧∃(zs:List Int),Ab [x_7]=Ab zs∧BF Bj∧Ba (List.length [x_5]+List.length zs) (8:Nat)∧eN (lqO n x) i [srd x_6.1 (yG y.2),.int .i64 x.2.2.2.2.2,Ab ([x_5]++zs),.str i_1.2,AV.sl false (0:Nat) (1:Nat) (List UInt8) Ag (BM (Int.toNat x.2.2.2.2.2))]) (inR IntKind.i64 (x.2.2.2.2.2+(1:Int))∧cA (HL n) [srd x.1 (gM (iF i) i_1.2),.int .i64 (x.2.2.2.2.2+(1:Int))] fun x_4 y=>∃(x_5:Int),y.1=x_5∧∃(zs:List Int),Ab [x_5]=Ab zs∧BF Bj∧Ba (List.length i.2.2.2.2.2.1+List.length zs) (8:Nat)∧eN (lqO n x) i [srd x_4.1 (yG y.2),.int .i64 x.2.2.2.2.2,Ab (i.2.2.2.2.2.1++zs),.str i_1.2,AV.sl false (0:Nat) (1:Nat) (List UInt8) Ag (BM (Int.toNat x.2.2.2.2.2))])) (inR IntKind.i64 (x.2.2.2.2.2+(1:Int))∧cA (HL n) [srd x.1 (gM (iF i) i_1.2),.int .i64 (x.2.2.2.2.2+(1:Int))] fun x_4 y=>∃(x_5:Int),y.1=x_5∧∃(zs:List Int),Ab [x_5]=Ab zs∧BF Bj∧Ba (List.length i.2.2.2.2.2.1+List.length zs) (8:Nat)∧eN (lqO n x) i [srd x_4.1 (yG y.2),.int .i64 x.2.2.2.2.2,Ab (i.2.2.2.2.2.1++zs),.str i_1.2,AV.sl false (0:Nat) (1:Nat) (List UInt8) Ag (BM (Int.toNat x.2.2.2.2.2))])))) (Aa ((↑(List.length i.2.2.2.2.2.1):Int)==(1:Int)) (((0:Int)≤(0:Int)∧(0:Int)<(↑(List.length i.2.2.2.2.2.1):Int))∧(0:Nat)<List.length i.2.2.2.2.2.1∧∀(x_4:Int),i.2.2.2.2.2.1[(0:Nat)]? =some x_4→rA (Lr n) x [.int .i64 x_4,srd x.1 (iF i),.top]) (cA Br [srd x.1 (iF i),.int .i64 (7:Int),.str i.2.2.2.2.1,Ab i.2.2.2.2.2.1] fun x_4 y=>rA (Lr n) x [.int .i64 (AX (xh x_4)),srd x_4.1 (As (xh x_4) {kind:=x_4.2.2.2.2.2.1,text:=x_4.2.2.2.2.2.2.1,kids:=x_4.2.2.2.2.2.2.2,blank:=false}),.top])))) (fun x=>by kernel_rfl) fun(x:ST×Int×Int×Bool×List Nd×Int) (hx:wQ (9-x.2.2.2.2.2.toNat) (n+1) x.1 (xh x)∧0≤x.2.2.2.2.2∧x.2.2.2.2.2≤6)=>(by
 dsimp only[cA,eA,eN,lqI,lqO,Bn,Ab,AW,rA,HL,Lr,RK,HM,BU,Br,CO,sgs,srd,Au,Ax,mvL,lnL,mvE,lnE,Bm]
 obtain⟨s,p,d,b,ns,e⟩:=x;dsimp only[xg,xh] at hx ⊢
 obtain⟨hx,h4,h5⟩:=hx
 have hx:wQ (9-e.toNat) (n+1) s ⟨p,d,b,ns⟩:=hx
 have h1:=hx.1.1.1;have hs:=h1.1
 (repeat' first|(with_reducible first|rfl|exact True.intro|apply AJ|apply And.intro|((first|apply Az|apply AH|apply AA|apply AI)<;>intro _))|(apply Av<;>intro _)|apply AG|refine Af () ?_ ?_|((first|apply AO|apply AN|apply AM|apply AL|apply AF|apply AE|apply AD|apply AC|apply AB)<;>try dsimp only)|apply Af|(refine Prod.forall.2 ?_;intro _;try dsimp only)|(intro _;try dsimp only))
 all_goals(try dsimp only[xg,xh,yG,yS,iG,iF] at*)
 all_goals(try simp only[FS] at*)
 all_goals first
  |(show Nat;skip)
  |rfl
  |assumption
  |exact h1
  |exact b4h hx ‹_› h5
  |exact b4i ‹_› h5 ‹_›
  |exact b4j hx h4 ‹_›
  |exact b4k hx h4 ‹_› ‹_›
  |exact a2C hs ‹_›
  |exact a2D hs ‹_› ‹_›
  |exact b3z
  |(simp only[Vs];done)
  |exact(Ka ‹_› ‹_› ‹_› ‹_›).1
  |exact(Ka ‹_› ‹_› ‹_› ‹_›).2.1
  |exact(Ka ‹_› ‹_› ‹_› ‹_›).2.2.1
  |exact(Ka ‹_› ‹_› ‹_› ‹_›).2.2.2
  |exact b3A ‹_› ‹_› ‹_› ‹_›
  |exact(Vt ‹_› ‹_› ‹_› ‹_›).1
  |exact b3B ‹_› ‹_› ‹_›
  |exact a2E hx h4 ‹_› ‹_› ‹_› ‹_›
  |exact b4l hx h4 ‹_› ‹_› ‹_› ‹_› (bf ‹_›)
  |exact(a2F hs h4 ‹_› ‹_› ‹_› ‹_› (bf ‹_›) (bf ‹_›) ‹_›).1
  |exact(RR h4 ‹_› ‹_› ‹_› ‹_› (.inl (bt ‹_›)) ‹_›).1
  |exact(RR h4 ‹_› ‹_› ‹_› ‹_› (.inr (bt ‹_›)) ‹_›).1
  |exact b4m ‹_› ‹_› ‹_› ‹_› ‹_› ‹_›
  |exact b4n hs ‹_› ‹_› ‹_› ‹_› ‹_›
  |exact b4o ‹_› ‹_› ‹_› ‹_›
  |exact b4p hs ‹_› ‹_› ‹_›
  |((try simp only[AR]);omega)
  |(have hq:=b4r (show mkQ _ _ _ _ _ by assumption);(try simp only[AR]);omega)
  |(have hq:=b4q hs (show csJ _ _ _ _ _ _ _ _ by assumption);(try simp only[Ba,List.length_append,List.length_cons,List.length_nil]);omega)
  |skip
 all_goals first
  |exact(a2F hs h4 ‹_› ‹_› ‹_› ‹_› (bf ‹_›) (bf ‹_›) ‹_›).2
  |exact(RR h4 ‹_› ‹_› ‹_› ‹_› (.inl (bt ‹_›)) ‹_›).2
  |exact(RR h4 ‹_› ‹_› ‹_› ‹_› (.inr (bt ‹_›)) ‹_›).2
  |(simp only[Vs];done)
  |skip
 all_goals(try(repeat(rename(BM _)[_]? =some _=>hq;revert hq;rename(BM _)[_]? =some _=>hr;intro hq;rw[hr] at hq;cases hq)))
 all_goals first
  |exact(Vt ‹_› ‹_› ‹_› ‹_›).1
  |exact(Ka ‹_› ‹_› ‹_› ‹_›).1
  |exact(Ka ‹_› ‹_› ‹_› ‹_›).2.1
  |exact(Ka ‹_› ‹_› ‹_› ‹_›).2.2.1
  |exact(Ka ‹_› ‹_› ‹_› ‹_›).2.2.2
  |(rw[Dl ‹_›];done)
  |skip)
def Ls(n:Nat):Sig:= {X:=ST×Int×Int×Bool×List Nd,args:=fun x=>[srd x.1 (xg x)],pre:=fun x=>vQ 10 (n+1) x.1 (xg x),Y:=Int×Int×Int×Bool×List Nd,post:=fun x y=>Aj x.1.sg (xg x) (pE x.1.sg (n+1) .pick) (yS y),res:=fun x y=> .int .i64 y.1,outs:=fun x y=>[srd x.1 (yG y.2)],keep:=true}
theorem b4z(n:Nat)(h:qAll G n):Am G Tryz.prog 187 (Ls n):=
 vcFun_okP [(202,0,(HL n)),(142,0,BU),(187,0,(Gw n)),(141,0,BI),(117,0,Br)] [(26,⟨Int,Bj⟩)] false (fun x=>[]) Tryz.func187 rfl (by decide) ⟨h.chain,Hd,h.pick,HI,He,trivial⟩ (fun(x:ST×Int×Int×Bool×List Nd)=>True∧Aa (xg x).bad (rA (Ls n) x [.int .i64 (0:Int),srd x.1 (xg x)]) (inR IntKind.i64 ((xg x).deep+(1:Int))∧Aa (decide ((xg x).deep+(1:Int)>(20:Int))) (cA (HL n) [.box 0 [sgs x.1.sg,.int .i64 (xg x).pos,.bool true,.int .i64 ((xg x).deep+(1:Int)),AW (xg x).nodes],.int .i64 (0:Int)] fun x_1 y=>cA BU [srd x_1.1 (yG y.2),.str #[(63:UInt8)].toList] fun x_2 y_1=>Aa (isG x_2.1.sg (xh x_2) (4:Int) x_2.2.2.2.2.2) (cA (Gw n) [srd x_2.1 (AP x_2.1.sg (xh x_2) x_2.2.2.2.2.2)] fun x_3 y_2=>cA BI [srd x_3.1 (yG y_2.2),.str #[(58:UInt8)].toList] fun x_4 y_3=>cA (Gw n) [srd x_4.1 (AK x_4.1.sg (xh x_4) x_4.2.2.2.2.2)] fun x_5 y_4=>∃(x_6:Int),y.1=x_6∧∃(x_7:Int),y_2.1=x_7∧∃(x_8:Int),y_4.1=x_8∧cA Br [srd x_5.1 (yG y_4.2),.int .i64 (8:Int),.str #[].toList,Ab [x_6,x_7,x_8]] fun x_9 y=>inR IntKind.i64 ((As (xh x_9) {kind:=x_9.2.2.2.2.2.1,text:=x_9.2.2.2.2.2.2.1,kids:=x_9.2.2.2.2.2.2.2,blank:=false}).deep-(1:Int))∧rA (Ls n) x [.int .i64 (AX (xh x_9)),.box 0 [sgs x_9.1.sg,.int .i64 (As (xh x_9) {kind:=x_9.2.2.2.2.2.1,text:=x_9.2.2.2.2.2.2.1,kids:=x_9.2.2.2.2.2.2.2,blank:=false}).pos,.bool (As (xh x_9) {kind:=x_9.2.2.2.2.2.1,text:=x_9.2.2.2.2.2.2.1,kids:=x_9.2.2.2.2.2.2.2,blank:=false}).bad,.int .i64 ((As (xh x_9) {kind:=x_9.2.2.2.2.2.1,text:=x_9.2.2.2.2.2.2.1,kids:=x_9.2.2.2.2.2.2.2,blank:=false}).deep-(1:Int)),AW (As (xh x_9) {kind:=x_9.2.2.2.2.2.1,text:=x_9.2.2.2.2.2.2.1,kids:=x_9.2.2.2.2.2.2.2,blank:=false}).nodes]]) (inR IntKind.i64 ((AP x_2.1.sg (xh x_2) x_2.2.2.2.2.2).deep-(1:Int))∧rA (Ls n) x [.int .i64 y.1,.box 0 [sgs x_2.1.sg,.int .i64 (AP x_2.1.sg (xh x_2) x_2.2.2.2.2.2).pos,.bool (AP x_2.1.sg (xh x_2) x_2.2.2.2.2.2).bad,.int .i64 ((AP x_2.1.sg (xh x_2) x_2.2.2.2.2.2).deep-(1:Int)),AW (AP x_2.1.sg (xh x_2) x_2.2.2.2.2.2).nodes]])) (cA (HL n) [.box 0 [sgs x.1.sg,.int .i64 (xg x).pos,.bool (xg x).bad,.int .i64 ((xg x).deep+(1:Int)),AW (xg x).nodes],.int .i64 (0:Int)] fun x_1 y=>cA BU [srd x_1.1 (yG y.2),.str #[(63:UInt8)].toList] fun x_2 y_1=>Aa (isG x_2.1.sg (xh x_2) (4:Int) x_2.2.2.2.2.2) (cA (Gw n) [srd x_2.1 (AP x_2.1.sg (xh x_2) x_2.2.2.2.2.2)] fun x_3 y_2=>cA BI [srd x_3.1 (yG y_2.2),.str #[(58:UInt8)].toList] fun x_4 y_3=>cA (Gw n) [srd x_4.1 (AK x_4.1.sg (xh x_4) x_4.2.2.2.2.2)] fun x_5 y_4=>∃(x_6:Int),y.1=x_6∧∃(x_7:Int),y_2.1=x_7∧∃(x_8:Int),y_4.1=x_8∧cA Br [srd x_5.1 (yG y_4.2),.int .i64 (8:Int),.str #[].toList,Ab [x_6,x_7,x_8]] fun x_9 y=>inR IntKind.i64 ((As (xh x_9) {kind:=x_9.2.2.2.2.2.1,text:=x_9.2.2.2.2.2.2.1,kids:=x_9.2.2.2.2.2.2.2,blank:=false}).deep-(1:Int))∧rA (Ls n) x [.int .i64 (AX (xh x_9)),.box 0 [sgs x_9.1.sg,.int .i64 (As (xh x_9) {kind:=x_9.2.2.2.2.2.1,text:=x_9.2.2.2.2.2.2.1,kids:=x_9.2.2.2.2.2.2.2,blank:=false}).pos,.bool (As (xh x_9) {kind:=x_9.2.2.2.2.2.1,text:=x_9.2.2.2.2.2.2.1,kids:=x_9.2.2.2.2.2.2.2,blank:=false}).bad,.int .i64 ((As (xh x_9) {kind:=x_9.2.2.2.2.2.1,text:=x_9.2.2.2.2.2.2.1,kids:=x_9.2.2.2.2.2.2.2,blank:=false}).deep-(1:Int)),AW (As (xh x_9) {kind:=x_9.2.2.2.2.2.1,text:=x_9.2.2.2.2.2.2.1,kids:=x_9.2.2.2.2.2.2.2,blank:=false}).nodes]]) (inR IntKind.i64 ((AP x_2.1.sg (xh x_2) x_2.2.2.2.2.2).deep-(1:Int))∧rA (Ls n) x [.int .i64 y.1,.box 0 [sgs x_2.1.sg,.int .i64 (AP x_2.1.sg (xh x_2) x_2.2.2.2.2.2).pos,.bool (AP x_2.1.sg (xh x_2) x_2.2.2.2.2.2).bad,.int .i64 ((AP x_2.1.sg (xh x_2) x_2.2.2.2.2.2).deep-(1:Int)),AW (AP x_2.1.sg (xh x_2) x_2.2.2.2.2.2).nodes]])))) (fun x=>by kernel_rfl) fun(x:ST×Int×Int×Bool×List Nd) (hx:vQ 10 (n+1) x.1 (xg x))=>(by
 dsimp only[cA,Bn,Ab,AW,rA,HL,BU,Gw,Ls,Br,BI,CO,sgs,srd,Au,Ax,mvL,lnL,mvE,lnE]
 obtain⟨s,p,d,b,ns⟩:=x;dsimp only[xg,xh] at hx ⊢
 have hx:vQ 10 (n+1) s ⟨p,d,b,ns⟩:=hx
 have h1:=hx.1.1.1;have h2:=hx.1.1.2;have h3:=hx.1.2;have hs:=h1.1;dsimp only at h2 h3
 (repeat' first|(with_reducible first|rfl|exact True.intro|apply AJ|apply And.intro|((first|apply Az|apply AH|apply AA|apply AI)<;>intro _))|(apply Av<;>intro _)|apply AG|refine Af () ?_ ?_|((first|apply AO|apply AN|apply AM|apply AL|apply AF|apply AE|apply AD|apply AC|apply AB)<;>try dsimp only)|apply Af|(refine Prod.forall.2 ?_;intro _;try dsimp only)|(intro _;try dsimp only))
 all_goals(try dsimp only[xg,xh,yG,yS,iG,iF] at*)
 all_goals(try simp only[FS] at*)
 all_goals(try(first|(have hz:=b4s (b:=b) h2 ‹_› (show Aj s.sg ⟨p,d+1,true,ns⟩ (pE s.sg n (.chain _)) _ by assumption))|(have hz:=b4t ‹_› (show Aj s.sg ⟨p,d+1,b,ns⟩ (pE s.sg n (.chain _)) _ by assumption))))
 all_goals first
  |rfl
  |assumption
  |exact a2p h1.2 ‹_›
  |exact b4u hx ‹_›
  |exact b4v hx ‹_›
  |exact EN h1 hz
  |(clear hz;exact EN h1 ‹_›)
  |exact⟨a1F h1 h2 h3 hz ‹_›,hx.2⟩
  |exact⟨b1H h1 h2 h3 hz ‹_› ‹_›,hx.2⟩
  |exact b1I h1 h2 hz ‹_› ‹_› ‹_›
  |exact b1J h1 h2 hz ‹_›
  |(have hq:=b1K h1 hz ‹_›;(try dsimp only at hq);(try simp only[AR]);omega)
  |(have hq:=b1L (show Aj s.sg (AK s.sg _ _) _ _ by assumption);(try dsimp only at hq);(try simp only[AR,Vf]);omega)
  |(have hq:=(Gp h1).1.2;dsimp only at hq;(try simp only[AR]);omega)
  |skip)
def RS(n:Nat):Sig:= {X:=ST×Int×Int×Bool×List Nd,args:=fun x=>[srd x.1 (xg x)],pre:=fun x=>vQ 11 (n+1) x.1 (xg x),Y:=Int×Int×Int×Bool×List Nd,post:=fun x y=>Aj x.1.sg (xg x) (pE x.1.sg (n+1) .value) (yS y),res:=fun x y=> .int .i64 y.1,outs:=fun x y=>[srd x.1 (yG y.2)],keep:=true}
def RT(n:Nat)(x:ST×Int×Int×Bool×List Nd):LS:= {ι:=Int×Int×Bool×List Nd×List Int×Nat,inv:=fun i=>vaJ x.1.sg n (xg x) (iG i) i.2.2.2.2.1 i.2.2.2.2.2,regs:=fun i=>[(0,srd x.1 (iG i)),(4,Ab i.2.2.2.2.1)],als:=[],meas:=fun i=>i.2.2.2.2.2}
theorem b4A(n:Nat)(h:qAll G n):Am G Tryz.prog 172 (RS n):=
 vcFun_okP [(187,0,(Gw n)),(171,0,DL),(142,0,BU),(138,0,Cp),(117,0,Br),(141,0,BI),(188,0,(FU n))] [(26,⟨Int,Bj⟩)] false (fun x=>[(5,RT n x)]) Tryz.func172 rfl (by decide) ⟨h.pick,Pl,Hd,JZ,He,HI,(Vx n h),trivial⟩ (fun(x:ST×Int×Int×Bool×List Nd)=>True∧cA (Gw n) [srd x.1 (xg x)] fun x_1 y=>cA DL [srd x_1.1 (yG y.2),.int .i64 (4:Int),.str #[(46:UInt8),(46:UInt8)].toList] fun x_2 y_1=>Aa (!isG x_2.1.sg (xh x_2) x_2.2.2.2.2.2.1 x_2.2.2.2.2.2.2) (rA (RS n) x [.int .i64 y.1,srd x_2.1 (xh x_2)]) (∃(x_3:Int),y.1=x_3∧eA (RT n x) [srd x_2.1 (xh x_2),Ab [x_3]]∧∀(i:Int×Int×Bool×List Nd×List Int×Nat),vaJ x.1.sg n (xg x) (iG i) i.2.2.2.2.1 i.2.2.2.2.2→cA BU [srd x.1 (iG i),.str #[(46:UInt8),(46:UInt8)].toList] fun x_4 y=>Aa (isG x_4.1.sg (xh x_4) (4:Int) x_4.2.2.2.2.2) (cA Cp [srd x_4.1 (AP x_4.1.sg (xh x_4) x_4.2.2.2.2.2),.int .i64 (1:Int)] fun x_5 y=>cA Br [srd x_5.1 (Bi x_5.1.sg (xh x_5) x_5.2.2.2.2.2),.int .i64 (1:Int),.str (Bx x_5.1.sg (xh x_5) x_5.2.2.2.2.2),Ab []] fun x_6 y=>cA BI [srd x_6.1 (As (xh x_6) {kind:=x_6.2.2.2.2.2.1,text:=x_6.2.2.2.2.2.2.1,kids:=x_6.2.2.2.2.2.2.2,blank:=false}),.str #[(40:UInt8)].toList] fun x_7 y=>∃(x_8:Int),AX (xh x_6)=x_8∧cA (FU n) [srd x_7.1 (AK x_7.1.sg (xh x_7) x_7.2.2.2.2.2),.str #[(41:UInt8)].toList,Ab [x_8]] fun x_9 y=>cA Br [srd x_9.1 (yG y.2),.int .i64 (5:Int),.str #[].toList,Ab y.1] fun x_10 y=>∃(x_11:Int),AX (xh x_10)=x_11∧∃(zs:List Int),Ab [x_11]=Ab zs∧BF Bj∧Ba (List.length i.2.2.2.2.1+List.length zs) (8:Nat)∧eN (RT n x) i [srd x_10.1 (As (xh x_10) {kind:=x_10.2.2.2.2.2.1,text:=x_10.2.2.2.2.2.2.1,kids:=x_10.2.2.2.2.2.2.2,blank:=false}),Ab (i.2.2.2.2.1++zs)]) (cA Br [srd x_4.1 (AP x_4.1.sg (xh x_4) x_4.2.2.2.2.2),.int .i64 (10:Int),.str #[].toList,Ab i.2.2.2.2.1] fun x_5 y=>rA (RS n) x [.int .i64 (AX (xh x_5)),srd x_5.1 (As (xh x_5) {kind:=x_5.2.2.2.2.2.1,text:=x_5.2.2.2.2.2.2.1,kids:=x_5.2.2.2.2.2.2.2,blank:=false})]))) (fun x=>by kernel_rfl) fun(x:ST×Int×Int×Bool×List Nd) (hx:vQ 11 (n+1) x.1 (xg x))=>(by
 dsimp only[cA,eA,eN,RT,Bn,Ab,AW,rA,DL,BU,Gw,Br,Cp,RS,FU,BI,CO,sgs,srd,Au,Ax,mvL,lnL,mvE,lnE,Bm]
 obtain⟨s,p,d,b,ns⟩:=x;dsimp only[xg,xh] at hx ⊢
 have hx:vQ 11 (n+1) s ⟨p,d,b,ns⟩:=hx
 have h1:=hx.1.1.1;have h2:=hx.1.1.2;have h3:=hx.1.2;have hs:=h1.1;dsimp only at h2 h3
 (repeat' first|(with_reducible first|rfl|exact True.intro|apply AJ|apply And.intro|((first|apply Az|apply AH|apply AA|apply AI)<;>intro _))|(apply Av<;>intro _)|apply AG|refine Af () ?_ ?_|((first|apply AO|apply AN|apply AM|apply AL|apply AF|apply AE|apply AD|apply AC|apply AB)<;>try dsimp only)|apply Af|(refine Prod.forall.2 ?_;intro _;try dsimp only)|(intro _;try dsimp only))
 all_goals(try dsimp only[xg,xh,yG,yS,iG] at*)
 all_goals(try simp only[FS] at*)
 all_goals first
  |(show Nat;skip)
  |rfl
  |assumption
  |exact⟨b1M h1 h2 h3,hx.2⟩
  |exact EN h1 ‹_›
  |exact b1N h1 ‹_› ‹_›
  |exact b1O h1 h2 ‹_› ‹_›
  |exact Vg h1 ‹_›
  |exact(VD hs ‹_›).1
  |exact(VD hs ‹_›).2.1
  |exact(VD hs ‹_›).2.2
  |exact b4w hx ‹_› ‹_›
  |exact VA hs ‹_›
  |exact(a2G hs ‹_› ‹_› ‹_›).1
  |exact b1Q h1 ‹_› ‹_›
  |exact b1R h1 ‹_› ‹_›
  |omega
  |(simp;done)
  |(have hq:=b1P hs (show vaJ _ _ _ _ _ _ by assumption);(try simp only[Ba,List.length_append,List.length_cons,List.length_nil]);omega)
  |skip
 all_goals first
  |exact(a2G hs ‹_› ‹_› ‹_›).2
  |skip)
theorem VE{r:Nat}{s:ST}{g:Gs}(hr:1≤r)(h:wQ r 0 s g):False:=b2y hr h.1
theorem a2H{r:Nat}{s:ST}{g:Gs}(hr:1≤r)(h:vQ r 0 s g):False:=b2z hr h.1
theorem b4B:qAll G 0:=
 ⟨Ln Tryz.func172 rfl (by decide) (fun x h=>a2H (by omega) h),Ln Tryz.func187 rfl (by decide) (fun x h=>a2H (by omega) h),
  Ln Tryz.func202 rfl (by decide) (fun x h=>VE (by have:=h.2;omega) h.1),Ln Tryz.func212 rfl (by decide) (fun x h=>VE (by omega) h),Ln Tryz.func222 rfl (by decide) (fun x h=>VE (by omega) h)⟩
theorem b4C(n:Nat):qAll G n:=by
 induction n with
 |zero=>exact b4B
 |succ n ih=>exact⟨b4A n ih,b4z n ih,b4y n ih,b4g n ih,b4f n ih⟩
def Fw:Sig:= {X:=ST×Int×Int×Bool×List Nd,args:=fun x=>[srd x.1 (xg x)],pre:=fun x=>okD x.1 (xg x)∧sgM x.1.sg,Y:=Int×Int×Int×Bool×List Nd,post:=fun x y=>Aj x.1.sg (xg x) (Cg x.1.sg) (yS y),res:=fun x y=> .int .i64 y.1,outs:=fun x y=>[srd x.1 (yG y.2)],keep:=true}
theorem a2I{s:ST}{g:Gs}(h:okD s g∧sgM s.sg):vQ 11 peN s g:=⟨b2A h.1,h.2⟩
theorem VF:Am G Go.Proofs.Tryz.prog 172 Fw:=
 have c:=(b4C (G:=G) peN).val
 ⟨⟨c.1.1,fun x y hx hy=>c.1.2 x y (a2I hx) hy⟩,fun x hx=>c.2 x (a2I hx)⟩
end Go.My
end
section
set_option linter.unusedVariables false
set_option linter.unusedSimpArgs false
namespace Go.My
open Go.Eng
def VG(e:Nd)(b:Bool):Nd:=⟨e.kind,e.text,e.kids,b⟩
def RU(b:Bool)(p:Int×Ps):Int×Ps:=(p.1,⟨p.2.pos,p.2.deep,p.2.nodes.set p.1.toNat (VG (Ai p.2.nodes p.1) b)⟩)
def BL(f:Bool→Ps→PR):Prop:=∀b s,f b s=(f false s).map (RU b)∧∀p,f b s=some p→1≤p.2.nodes.length∧p.1=(p.2.nodes.length:Int)-1
theorem MU{k:Int}{t:List UInt8}{ks:List Int}:BL (fun b=>Bb ⟨k,t,ks,b⟩):=by
 intro b s
 by_cases h:300≤s.nodes.length
 ·simp only[Vq h];exact⟨rfl,fun p hp=>by cases hp⟩
 ·simp only[Vp h]
  refine⟨?_,fun p hp=>by simp only[Option.some.injEq] at hp;subst hp;simp⟩
  simp only[Option.map_some,RU,Int.toNat_natCast]
  congr 3
  have e:Ai (s.nodes++[⟨k,t,ks,false⟩]) (s.nodes.length:Int)=⟨k,t,ks,false⟩:=Bg (by simp)
  rw[e]
  simp [VG]
theorem a2J{f:Bool→Ps→PR}(h:BL f):BL (fun b s=>FO (f b s)):=by
 intro b s
 obtain⟨h1,h2⟩:=h b s
 refine⟨?_,fun p hp=> ?_⟩
 ·simp only[FO];rw[h1]
  cases f false s with
  |none=>rfl
  |some p=>rfl
 ·simp only[FO,Option.map_eq_some_iff] at hp
  obtain⟨q,hq,rfl⟩:=hp
  exact h2 q hq
theorem Fx{α:Type}{h:Ps→Option (α×Ps)}{g:Bool→α→Ps→PR}(hg:∀a,BL (fun b=>g b a)):BL (fun b s=>(h s).bind fun p=>g b p.1 p.2):=by
 intro b s
 simp only
 cases h s with
 |none=>exact⟨rfl,fun p hp=>by cases hp⟩
 |some p=>exact hg p.1 b p.2
theorem VH{h:Ps→Option Ps}{g:Bool→Ps→PR}(hg:BL g):BL (fun b s=>(h s).bind fun p=>g b p):=by
 intro b s
 simp only
 cases h s with
 |none=>exact⟨rfl,fun p hp=>by cases hp⟩
 |some p=>exact hg b p
theorem Fy{c:Ps→Prop}[inst:∀s,Decidable (c s)]{f g:Bool→Ps→PR}(hf:BL f)(hg:BL g):BL (fun b s=>if c s then f b s else g b s):=by
 intro b s
 by_cases h:c s
 ·simp only[if_pos h];exact hf b s
 ·simp only[if_neg h];exact hg b s
theorem a2K:BL (fun _ _=>none):=fun b s=>⟨rfl,fun p hp=>by cases hp⟩
theorem Lt{f:Bool→Ps→PR}{a:Ps→Ps}(h:BL f):BL (fun b s=>f b (a s)):=fun b s=>h b (a s)
theorem b4D{f:Ps→Bool→Ps→PR}(h:∀q,BL (f q)):BL (fun b s=>f s b s):=fun b s=>h s b s
theorem VI{sg:List Sg}{k:Int}:BL (Fr sg k):=fun b s=>a2J (MU (k:=k) (t:=(sgO sg s.pos).text) (ks:=[])) b s
theorem Lu{sg:List Sg}{m:List UInt8}{k:Int}{t:List UInt8}{ks:List Int}:BL (fun b=>Bu sg m ⟨k,t,ks,b⟩):=Fy (c:=fun s=>isM sg s m=true) (a2J MU) a2K
theorem VJ{sg:List Sg}:BL (Dj sg):=
 Fx (h:=Gl sg) (g:=fun b t s=>if isM sg s [61] then(Cg sg (adv s)).bind fun q=>Bu sg [59] ⟨12,t,[q.1],b⟩ q.2 else Bu sg [59] ⟨12,t,[],b⟩ s) (fun t=>
  Fy (c:=fun s=>isM sg s [61]=true) (Fx (h:=fun s=>Cg sg (adv s)) (g:=fun b k s=>Bu sg [59] ⟨12,t,[k],b⟩ s) (fun _=>Lu)) Lu)
theorem b4E{sg:List Sg}:BL (Gu sg):=
 Fy (c:=fun s=>isM sg s [59]=true) Lu (Fx (h:=Cg sg) (g:=fun b k s=>Bu sg [59] ⟨15,[],[k],b⟩ s) (fun _=>Lu))
theorem b4F{sg:List Sg}{n:Nat}:BL (ifR sg n):=
 Fx (h:=Dq sg) (g:=fun b c s=>(BN sg (stR sg n) s).bind fun q=>if isW sg q.2 [101,108,115,101] then(BN sg (stR sg n) (adv q.2)).bind fun r=>Bb ⟨16,[],[c,q.1,r.1],b⟩ r.2 else Bb ⟨16,[],[c,q.1],b⟩ q.2) (fun c=>
  Fx (h:=BN sg (stR sg n)) (g:=fun b k s=>if isW sg s [101,108,115,101] then(BN sg (stR sg n) (adv s)).bind fun r=>Bb ⟨16,[],[c,k,r.1],b⟩ r.2 else Bb ⟨16,[],[c,k],b⟩ s) (fun k=>
   Fy (c:=fun s=>isW sg s [101,108,115,101]=true) (Fx (h:=fun s=>BN sg (stR sg n) (adv s)) (g:=fun b r s=>Bb ⟨16,[],[c,k,r],b⟩ s) (fun _=>MU)) MU))
theorem b4G{sg:List Sg}{n:Nat}:BL (whR sg n):=
 Fx (h:=Dq sg) (g:=fun b c s=>(BN sg (stR sg n) s).bind fun q=>Bb ⟨17,[],[c,q.1],b⟩ q.2) (fun c=>Fx (h:=BN sg (stR sg n)) (g:=fun b k s=>Bb ⟨17,[],[c,k],b⟩ s) (fun _=>MU))
theorem b4H{sg:List Sg}:BL (doR sg):=Fx (h:=Cg sg) (g:=fun b k s=>Bu sg [59] ⟨14,[],[k],b⟩ s) (fun _=>Lu)
theorem VK{sg:List Sg}:∀ {n:Nat},BL (stR sg n)
 |0=>a2K
 |n+1=>by
  intro b s
  rw[Jg,Jg]
  exact Fy (c:=fun s=>(sgO sg s.pos).kind=5) VI (Fy (c:=fun s=>isW sg s [118,97,114]=true) (Lt (a:=adv) VJ) (Fy (c:=fun s=>isW sg s [114,101,116,117,114,110]=true) (Lt (a:=adv) b4E)
   (Fy (c:=fun s=>isW sg s [105,102]=true) (Lt (a:=adv) b4F) (Fy (c:=fun s=>isW sg s [119,104,105,108,101]=true) (Lt (a:=adv) b4G)
     (Fy (c:=fun s=>(Di sg s.pos&&isM sg (adv s) [61])=true) (b4D (f:=fun q b s=>(Cg sg (adv (adv s))).bind fun p=>Bu sg [59] ⟨13,(sgO sg q.pos).text,[p.1],b⟩ p.2) (fun q=>Fx (h:=fun s=>Cg sg (adv (adv s))) (g:=fun b k s=>Bu sg [59] ⟨13,(sgO sg q.pos).text,[k],b⟩ s) (fun _=>Lu))) b4H))))) b s
theorem a2L{sg:List Sg}:BL (Gn sg):=
 Fx (h:=Gl sg) (g:=fun b t s=>(BD sg [40] s).bind fun s1=>(Bw sg (BS sg) [41] (sg.length+1) [] s1).bind fun q=>(BD sg [41] q.2).bind fun s2=>(Fb sg s2).bind fun r=>Bb ⟨20,t,q.1++[r.1],b⟩ r.2) (fun t=>
  VH (h:=BD sg [40]) (g:=fun b s1=>(Bw sg (BS sg) [41] (sg.length+1) [] s1).bind fun q=>(BD sg [41] q.2).bind fun s2=>(Fb sg s2).bind fun r=>Bb ⟨20,t,q.1++[r.1],b⟩ r.2)
   (Fx (h:=Bw sg (BS sg) [41] (sg.length+1) []) (g:=fun b ks s=>(BD sg [41] s).bind fun s2=>(Fb sg s2).bind fun r=>Bb ⟨20,t,ks++[r.1],b⟩ r.2) (fun ks=>
     VH (h:=BD sg [41]) (g:=fun b s2=>(Fb sg s2).bind fun r=>Bb ⟨20,t,ks++[r.1],b⟩ r.2) (Fx (h:=Fb sg) (g:=fun b k s=>Bb ⟨20,t,ks++[k],b⟩ s) (fun _=>MU)))))
theorem VL{sg:List Sg}:BL (Da sg):=Fy (c:=fun s=>(sgO sg s.pos).kind=5) VI (Fy (c:=fun s=>isW sg s [118,97,114]=true) (Lt (a:=adv) VJ) a2L)
theorem b4I{sg:List Sg}:BL (Ha sg):=
 Fx (h:=Gl sg) (g:=fun b t s=>(BD sg [123] s).bind fun s1=>(CD sg (Da sg) [125] (sg.length+1) [] s1).bind fun q=>Bu sg [125] ⟨21,t,q.1,b⟩ q.2) (fun t=>
  VH (h:=BD sg [123]) (g:=fun b s1=>(CD sg (Da sg) [125] (sg.length+1) [] s1).bind fun q=>Bu sg [125] ⟨21,t,q.1,b⟩ q.2)
   (Fx (h:=CD sg (Da sg) [125] (sg.length+1) []) (g:=fun b ks s=>Bu sg [125] ⟨21,t,ks,b⟩ s) (fun _=>Lu)))
theorem VM{sg:List Sg}:BL (Dk sg):=Fy (c:=fun s=>(sgO sg s.pos).kind=5) VI (Fy (c:=fun s=>isW sg s [118,97,114]=true) (Lt (a:=adv) VJ) (Fy (c:=fun s=>isW sg s [99,108,97,115,115]=true) (Lt (a:=adv) b4I) a2L))
theorem a2M{sg:List Sg}{x y:Gs}{f:Bool→Ps→PR}{k:Int}(hf:BL f)(h:Aj sg x (f false) (k,y))(hb:y.bad=false):1≤y.nodes.length∧k=(y.nodes.length:Int)-1:=by
 obtain⟨⟨a1,a2,a3,a4,a5⟩,_⟩:=h
 simp only at a4 a5
 rw[CR hb] at a4
 cases hp:(pur x).bind (f false) with
 |none=>rw[hp] at a4;cases a4
 |some p=>
  rw[hp] at a4
  simp only[Option.map_some,Option.some.injEq] at a4
  have e:=a5 p hp
  cases hs:pur x with
  |none=>rw[hs] at hp;cases hp
  |some s=>
   rw[hs] at hp;simp only[Option.bind_some] at hp
   have:=(hf false s).2 p hp
   rw[←a4] at this;simp only at this;rw[e];exact this
theorem VN{sg:List Sg}{x y:Gs}{f:Bool→Ps→PR}{k:Int}{b:Bool}(hf:BL f)(h:Aj sg x (f false) (k,y)):Aj sg x (f b) (k,gBl y k b):=by
 have hk:=a2M hf h
 obtain⟨⟨a1,a2,a3,a4,a5⟩,c⟩:=h
 simp only at a1 a2 a3 a4 a5 c
 have eb:(pur x).bind (f b)=((pur x).bind (f false)).map (RU b):=by
  cases pur x with
  |none=>rfl
  |some s=>exact(hf b s).1
 cases hb:y.bad with
 |true=>
  have e:gBl y k b=y:=by rw[gBl,if_neg (by simp [hb])]
  rw[e]
  rw[DI hb] at a4
  have hn:(pur x).bind (f false)=none:=by
   cases hp:(pur x).bind (f false) with
   |none=>rfl
   |some p=>rw[hp] at a4;cases a4
  refine⟨⟨a1,a2,a3,?_,fun p hp=> ?_⟩,c⟩
  ·rw[eb,hn,DI hb];rfl
  ·rw[eb,hn] at hp;cases hp
 |false=>
  obtain⟨k1,k2⟩:=hk hb
  have hlt:k<(y.nodes.length:Int):=by omega
  have e:gBl y k b=⟨y.pos,y.deep,y.bad,y.nodes.set k.toNat (VG (Ai y.nodes k) b)⟩:=by rw[gBl,if_pos ⟨hb,hlt⟩];rfl
  rw[e]
  have hat:CQ (Ai y.nodes k):=by
   have hkl:k.toNat<y.nodes.length:=by omega
   have:=a1.2.2.2 (y.nodes[k.toNat]) (List.getElem_mem hkl)
   rw[Bg (List.getElem?_eq_getElem hkl)];exact this
  refine⟨⟨⟨a1.1,a1.2.1,by simpa using a1.2.2.1,fun w hw=> ?_⟩,a2,a3,?_,fun p hp=> ?_⟩,c⟩
  ·rcases List.mem_or_eq_of_mem_set hw with hw|hw
   ·exact a1.2.2.2 w hw
   ·subst hw;exact hat
  ·rw[eb]
   rw[CR hb] at a4
   cases hp:(pur x).bind (f false) with
   |none=>rw[hp] at a4;cases a4
   |some p=>
    rw[hp] at a4
    simp only[Option.map_some,Option.some.injEq] at a4 ⊢
    have:=a5 p hp
    rw[CR (by exact hb)]
    simp only[RU,←a4,this]
  ·rw[eb,Option.map_eq_some_iff] at hp
   obtain⟨q,hq,rfl⟩:=hp
   exact a5 q hq
theorem MV{sg:List Sg}{x y:Gs}{f:Bool→Ps→PR}{k:Int}(hf:BL f)(h:Aj sg x (f false) (k,y)):y.bad=false→0≤k:=fun hb=>by have:=a2M hf h hb;omega
theorem VO{sg:List Sg}{y:Gs}(hb:y.bad=false):blG sg y=(pkG sg y 0).blank:=by
 rw[blG,pkG]
 by_cases h:y.pos<sg.length
 ·rw[if_neg (by simp [hb];omega)];simp [h]
 ·rw[if_pos (.inr (by omega))];simp [h,Ey]
theorem b4J{sg:List Sg}{x:Gs}{one:Bool→Ps→PR}(h:gsOk sg x)(hd:x.deep≤20):restP sg x (BN sg one) (pkX (AK sg x [123]))
 (fun s1=>(CD sg one [125] (sg.length+1) [] s1).bind fun p=>(Bu sg [125] ⟨18,[],p.1,false⟩ p.2).map fun q=>(q.1,dp q.2 (-1))) 1:=by
 have t:=Hc (m:=[123]) h
 have a:=b1Z (one:=one) h hd
 have t1:=t.1;have t2:=t.2.1
 by_cases h20:x.deep=20
 ·rw[if_pos h20] at a
  have e:pkX (AK sg x [123])=gDp (Bv (AK sg x [123])) 1:=by rw[pkX,if_pos (by omega)]
  have e2:AK sg (gDp (Bv x) 1) [123]=gDp (Bv x) 1:=RH rfl
  rw[e2] at a
  rw[e]
  refine Vn a ⟨t1.1,by simp only[gDp,Bv];omega,t1.2.2⟩ (by simp only[gDp,Bv];omega) (by simp only[gDp,Bv];omega) rfl
 ·rw[if_neg h20] at a
  have e:pkX (AK sg x [123])=gDp (AK sg x [123]) 1:=by rw[pkX,if_neg (by omega)]
  rw[e]
  have e2:AK sg (gDp x 1) [123]=gDp (AK sg x [123]) 1:=by
   have:isG sg (gDp x 1) 4 [123]=isG sg x 4 [123]:=rfl
   cases hq:isG sg x 4 [123] with
   |true=>rw[Jh hq,Jh (by rw[this];exact hq)];rfl
   |false=>rw[Pn hq,Pn (by rw[this];exact hq)];rfl
  rw[e2] at a;exact a
theorem a2N{g:Gs}{d:Int}{w:Nd}:As (gDp g d) w=gDp (As g w) d∧AX (gDp g d)=AX g:=by
 have hf:Dr (gDp g d)=Dr g:=rfl
 unfold As AX
 rw[hf]
 cases Dr g<;>exact⟨rfl,rfl⟩
theorem a2O{sg:List Sg}{one:Bool→Ps→PR}{x:Gs}{l:List Int×Gs}(h:gsOk sg x)(hd:x.deep≤20)(hl:BB sg (pkX (AK sg x [123])) (CD sg one [125] (sg.length+1) []) l)(hll:l.1.length≤3001):
 Aj sg x (BN sg one) (AX (gDp (AK sg l.2 [125]) (-1)),As (gDp (AK sg l.2 [125]) (-1)) ⟨18,[],l.1,false⟩):=by
 have k1:=BP (k:=fun ks s=>(Bu sg [125] ⟨18,[],ks,false⟩ s).map fun q=>(q.1,dp q.2 (-1))) (b4J h hd) hl (fun _ _=>rfl)
 have hw:CQ ⟨18,[],l.1,false⟩:=⟨by simp,by simp only;omega⟩
 have hc:=HJ k1.1 hw (MG (m:=[125]) k1.1 hw)
 have k2:=BP (k:=fun k s=>some (k,dp s (-1))) k1 hc.1 (fun s _=>by cases Bu sg [125] ⟨18,[],l.1,false⟩ s<;>rfl)
 simp only at k2
 rw[(a2N (w:=⟨18,[],l.1,false⟩)).1,(a2N (w:=⟨18,[],l.1,false⟩)).2]
 refine⟨Gq (Lk (e:= -1) k2 ?_ (fun s hs=>rfl)),fun hb=> ?_⟩
 ·have:=k2.2.1;have:=h.2.1;omega
 ·have:=hc.2 hb
  have:=k1.2.2.1
  simp only[gDp] at*;omega
end Go.My
end
