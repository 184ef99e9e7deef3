/- joined -/
import Derived.Test.YtblmpjljedglaaaGreatDoorQH
set_option linter.unusedSimpArgs false
set_option linter.unusedVariables false
section
namespace Go.My
open Go.Eng
variable {N l n:Nat}{f:Ps→PR}{g x y y':Gs}{i k:Int}{ks:List Int}{m t:List UInt8}{s:Ps}{sg:List Sg}{w:Nd}{z:Int×Gs}
theorem Ov{k':Int}(h:Ah sg x f (k,y))(h1:gsOk sg y')(h2:y'.deep=y.deep)(h3:y.pos≤y'.pos)(h4:pur y'=pur y)(h5:y'.bad=false→k'=k):Ah sg x f (k',y'):=by
 obtain⟨⟨a1,a2,a3,a4,a5⟩,b⟩:=h
 simp only at a1 a2 a3 a4 a5 b
 have hb:y'.bad=y.bad:=by
  cases hy:y.bad with
  |true=>exact a4H.1 (h4.trans (Ev hy))
  |false=>
   cases hy':y'.bad with
   |false=>rfl
   |true=>rw[Ev hy',Dx hy] at h4;cases h4
 refine⟨⟨h1,by simp only;omega,by simp only;omega,by simp only;rw[h4];exact a4,fun p hp=> ?_⟩,fun hw=> ?_⟩
 ·simp only
  have:=a5 p hp
  rw[h5 ?_]
  ·exact this
  ·cases hy:y'.bad with
   |false=>rfl
   |true=>rw[←h4,Ev hy,hp] at a4;cases a4
 ·simp only at hw ⊢
  have:=b (by rw[←hb];exact hw);omega
theorem YL{α:Type}{f g:Ps→Option (α×Ps)}{d:Int}(h:restP sg x f y g d)(h1:gsOk sg y')(h2:y'.deep=y.deep)(h3:y.pos≤y'.pos)(h4:pur y'=pur y):restP sg x f y' g d:=by
 obtain⟨a1,a2,a3,a4⟩:=h
 exact⟨h1,by omega,by omega,by rw[h4];exact a4⟩
theorem YM(h:gsOk sg g)(hl:g.pos<sg.length)(hw:Dw w):gsOk sg (Ax (Aw g) w)∧(Ax (Aw g) w).deep=(Dz (Ax g w)).deep∧(Dz (Ax g w)).pos≤(Ax (Aw g) w).pos∧pur (Ax (Aw g) w)=pur (Dz (Ax g w))∧AY (Aw g)=AY g:=by
 refine⟨QA (GF h hl) hw,?_⟩
 cases hf:Ef g with
 |true=>
  have hf2:Ef (Aw g)=true:=hf
  simp only[Ax,AY,hf,hf2,if_true]
  simp [Dz,Bu,Aw,pur];omega
 |false=>
  have hf2:Ef (Aw g)=false:=hf
  have:=(Tm hf).1
  simp only[Ax,AY,hf,hf2,Bool.false_eq_true,if_false]
  simp [Dz,Bu,Aw,pur,this]
theorem IH(hg:gsOk sg g)(hw:Dw w)(h:Ah sg x f (Da sg g m,CZ sg g m w)):Ah sg x f (AY (AP sg g m),Ax (AP sg g m) w):=by
 cases hq:isG sg g 4 m with
 |true=>
  obtain⟨a,b,c,d,e⟩:=YM hg (Dy hq (by omega)).2 hw
  simp only[CZ,Da,AP,hq,if_true] at h ⊢
  exact Ov h a b c d (fun _=>e)
 |false=>
  simp only[CZ,Da,AP,hq,Bool.false_eq_true,if_false] at h ⊢
  have hf:Ef (Bu g)=true:=by simp [Ef,Bu]
  simp only[Ax,AY,hf,if_true]
  exact Ov h hg rfl (Int.le_refl _) rfl (fun _=>rfl)
theorem QM(hk:k≠1):kdG sg g k=decide ((pkG sg g 0).kind=k):=by simp [kdG,hk]
theorem Ow{c:Int}(hs:sgB sg)(hg:gsOk sg g)(hk:k≠0)(hq:kdG sg g k=true)(h:Ah sg x f (AY g,ER sg g c false)):Ah sg x f (AY (Bh sg g k),Ax (Bh sg g k) ⟨c,Bz sg g k,[],false⟩):=by
 have hl:=TD hk hq
 have hw:Dw ⟨c,(pkG sg g 0).text,[],false⟩:=⟨QB hs,by simp⟩
 obtain⟨a1,a2,a3,a4,a5⟩:=YM hg hl.2 hw
 simp only[Bh,Bz,hq,if_true]
 exact Ov h a1 a2 a3 a4 (fun _=>a5)
theorem b7Z(hs:sgB sg)(hg:gsOk sg g):Ah sg g (BQ sg) (AY (Bh sg g 1),Ax (Bh sg g 1) ⟨1,Bz sg g 1,[],false⟩):=by
 have h:=To hs hg
 cases hq:nmG sg g 0 with
 |true=>
  refine Ow hs hg (by omega) (by rw[Jo];exact hq) ?_
  simp only[Ew,EI,hq,if_true] at h;exact h
 |false=>
  have hq2:kdG sg g 1=false:=by rw[Jo];exact hq
  simp only[Ew,EI,hq,Bool.false_eq_true,if_false] at h
  have hf:Ef (Bu g)=true:=by simp [Ef,Bu]
  simp only[Bh,Bz,hq2,Bool.false_eq_true,if_false,Ax,AY,hf,if_true]
  exact Ov h hg rfl (Int.le_refl _) rfl (fun _=>rfl)
theorem II:Bh sg g 1=De sg g∧Bz sg g 1=Dr sg g:=by
 simp only[Bh,De,Bz,Dr,Jo];exact⟨trivial,trivial⟩
theorem TH(h:g.bad=true):AP sg g m=g:=by
 have:isG sg g 4 m=false:=a4I (Ev h) (by omega)
 simp only[AP,this,Bool.false_eq_true,if_false,Bu]
 cases g;simp only at h;simp [h]
theorem JY(h:isG sg g 4 m=true):AP sg g m=Aw g:=by simp [AP,h]
theorem QN(h:isG sg g 4 m=false):AP sg g m=Bu g:=by simp [AP,h]
theorem YN(h:¬300≤s.nodes.length):Bd w s=some ((s.nodes.length:Int),⟨s.pos,s.deep,s.nodes++[w]⟩):=if_neg h
theorem YO(h:300≤s.nodes.length):Bd w s=none:=if_pos h
def chS(sg:List Sg)(n l:Nat)(x y:Gs)(t:List UInt8)(ks:List Int)(N:Nat):Prop:=
 restP sg x (pE sg (n+1) (.chain l)) y (chF sg n l N t ks) 0∧(2*((sg.length:Int)-y.pos)+4≤N∨(t=[]∧2*((sg.length:Int)-y.pos)+3≤N))∧(ks.length:Int)≤y.pos+1∧(y.bad=false→x.pos<y.pos)∧(t=[]→ks.length=1)∧(t≠[]→2≤ks.length∧t∈BN l)
theorem b8a(h:gsOk sg x)(hl:l≠6)(h1:Ah sg x (pE sg n (.chain (l+1))) z):chS sg n l x z.2 [] [z.1] (2*sg.length+4):=by
 obtain⟨a,b,c⟩:=b5I h hl h1
 have:=a.1.1
 exact⟨a,.inr ⟨rfl,b⟩,by simp;omega,c,fun _=>rfl,fun h=>(h rfl).elim⟩
theorem YP(hs:sgB sg)(hml:m∈BN l)(hk:(ks.length:Int)≤sg.length+1):Dw ⟨7,m,ks,false⟩:=by
 refine⟨?_,by have:=hs.1;simp only;omega⟩
 simp only
 unfold BN at hml
 split at hml<;>simp at hml<;>(first|(subst hml;simp)|(rcases hml with rfl|rfl<;>simp))
theorem b8b(h:chS sg n l x y t ks N)(hm:DB sg l y≠[])(ht:t=[]∨DB sg l y=t)(hz:Ah sg (Aw y) (pE sg n (.chain (l+1))) z):
 chS sg n l x z.2 (DB sg l y) (ks++[z.1]) (N-1)∧N-1<N:=by
 obtain⟨h1,hN,hk,hb,hk1,hk2⟩:=h
 have hq:=(KZ hm).1
 have hp:=h1.1.1
 have hl:=Dy hq (by omega)
 match N with
 |0=>omega
 |M+1=>
  refine⟨?_,by omega⟩
  have k1:=Hf (g':=fun s=>(pE sg n (.chain (l+1)) s).bind fun p=>chF sg n l M (DB sg l y) (ks++[p.1]) p.2) h1 (by omega) hq (fun s hs hts=>by
   rw[chF,Gr,if_neg ?_,if_neg (by rw[KY hs];exact hm),KY hs];rfl
   rw[KY hs];rintro⟨q1,q2⟩;rcases ht with ht|ht
   ·exact q1 ht
   ·exact q2 ht)
  have k2:=BR (k:=fun k s=>chF sg n l M (DB sg l y) (ks++[k]) s) k1 hz.1 (fun _ _=>rfl)
  have e:=Dh hz
  simp only[Aw] at e
  have:=h1.2.2.1
  simp only[Nat.add_sub_cancel]
  refine⟨k2,.inl (by omega),by simp;omega,fun hb2=>by omega,fun he=>(hm he).elim,fun _=>⟨?_,(KZ hm).2⟩⟩
  simp only[List.length_append,List.length_cons,List.length_nil]
  rcases Classical.em (t=[]) with e0|e0
  ·have:=hk1 e0;omega
  ·have:=(hk2 e0).1;omega
theorem b8c(hs:sgB sg)(h:chS sg n l x y t ks N)(hm:DB sg l y≠[])(ht:t≠[])(hne:DB sg l y≠t)(hz:Ah sg (Ax (Aw y) ⟨7,t,ks,false⟩) (pE sg n (.chain (l+1))) z):
 chS sg n l x z.2 (DB sg l y) ([AY (Aw y)]++[z.1]) (N-2)∧N-2<N:=by
 obtain⟨h1,hN,hk,hb,hk1,hk2⟩:=h
 have hq:=(KZ hm).1
 have hp:=h1.1.1
 have hl:=Dy hq (by omega)
 have hN2:2*((sg.length:Int)-y.pos)+4≤N:=by
  rcases hN with h|h
  ·exact h
  ·exact(ht h.1).elim
 match N with
 |0=>omega
 |1=>omega
 |M+2=>
  refine⟨?_,by omega⟩
  have hw:Dw ⟨7,t,ks,false⟩:=YP hs (hk2 ht).2 (by omega)
  have k1:=Hf (g':=fun s=>(Bd ⟨7,t,ks,false⟩ s).bind fun p=>(pE sg n (.chain (l+1)) p.2).bind fun q=>chF sg n l M (DB sg l y) ([p.1]++[q.1]) q.2) h1 (by omega) hq (fun s hs hts=>by
   rw[chF,Gr,if_pos ⟨ht,by rw[KY hs];exact hne⟩]
   by_cases h3:300≤s.nodes.length
   ·rw[YO h3,YO (s:=adv s) h3];rfl
   ·rw[YN h3,YN (s:=adv s) h3]
    simp only[Option.bind_some]
    have e:IB sg l ⟨s.pos,s.deep,s.nodes++[⟨7,t,ks,false⟩]⟩=DB sg l y:=by rw[←KY hs];rfl
    rw[Gr,if_neg (by simp),if_neg (by rw[e];exact hm),e];rfl)
  have k2:=BR (k:=fun k s=>(pE sg n (.chain (l+1)) s).bind fun q=>chF sg n l M (DB sg l y) ([k]++[q.1]) q.2) k1 (Tn k1.1 hw) (fun _ _=>rfl)
  have k3:=BR (k:=fun k s=>chF sg n l M (DB sg l y) ([AY (Aw y)]++[k]) s) k2 hz.1 (fun _ _=>rfl)
  have e:=Dh hz
  obtain⟨d1,d2,d3⟩:= @JV (Aw y) ⟨7,t,ks,false⟩
  rw[d2] at e;simp only[Aw] at e
  have:=h1.2.2.1
  simp only[Nat.add_sub_cancel]
  refine⟨k3,.inl (by omega),by simp;omega,fun hb2=>by omega,fun he=>(hm he).elim,fun _=>⟨by simp,(KZ hm).2⟩⟩
theorem a5H(h:chS sg n l x y t ks N)(hm:y.bad=true∨DB sg l y=[])(hl:ks.length=1)(hk:ks[0]? =some k):Ah sg x (pE sg (n+1) (.chain l)) (k,y):=by
 obtain⟨h1,hN,hk0,hb,hk1,hk2⟩:=h
 rcases hm with hm|hm
 ·exact⟨QD h1 hm,fun hb2=>by simp only at hb2;rw[hm] at hb2;cases hb2⟩
 ·have ht:t=[]:=by
   rcases Classical.em (t=[]) with e0|e0
   ·exact e0
   ·have:=(hk2 e0).1;omega
  subst ht
  have hp:=h1.1.1
  match ks,hl with
  |[k0],_=>
   simp at hk;subst hk
   match N with
   |0=>omega
   |N+1=>exact⟨He (Ey h1 (g':=fun s=>some (k0,s)) (fun s hs=>by rw[chF,Gr,if_neg (by simp),if_pos (by rw[KY hs,hm])];rfl)),hb⟩
theorem a5I(hs:sgB sg)(h:chS sg n l x y t ks N)(hm:y.bad=true∨DB sg l y=[])(hl:ks.length≠1):Ah sg x (pE sg (n+1) (.chain l)) (AY y,Ax y ⟨7,t,ks,false⟩):=by
 obtain⟨h1,hN,hk0,hb,hk1,hk2⟩:=h
 have ht:t≠[]:=fun e=>hl (hk1 e)
 have hp:=h1.1.1
 have hw:Dw ⟨7,t,ks,false⟩:=YP hs (hk2 ht).2 (by omega)
 obtain⟨d1,d2,d3⟩:= @JV y ⟨7,t,ks,false⟩
 have hN2:2*((sg.length:Int)-y.pos)+4≤N:=by
  rcases hN with h|h
  ·exact h
  ·exact(ht h.1).elim
 match N with
 |0=>omega
 |1=>omega
 |M+2=>
  have k1:restP sg x (pE sg (n+1) (.chain l)) y (Bd ⟨7,t,ks,false⟩) 0:=by
   rcases hm with hm|hm
   ·exact Ey h1 (fun s hs=>by rw[Ev hm] at hs;cases hs)
   ·refine Ey h1 (fun s hs=> ?_)
    rw[chF,Gr,if_pos ⟨ht,by rw[KY hs,hm];exact Ne.symm ht⟩,Bd]
    split
    ·rfl
    ·simp only[Option.bind_some]
     have e:IB sg l ⟨s.pos,s.deep,s.nodes++[⟨7,t,ks,false⟩]⟩=[]:=by rw[←hm,←KY hs];rfl
     rw[Gr,if_neg (by simp),if_pos e];rfl
  exact⟨Tr k1 hw,fun hb2=>by simp only[d2];exact hb (d3 hb2)⟩
def gM(y:Gs)(m:List UInt8):Gs:=if m=[] then y else Aw y
theorem YQ:gM y []=y:=rfl
theorem TI(h:m≠[]):gM y m=Aw y:=if_neg h
def mkQ(sg:List Sg)(y:Gs)(l:Nat)(i:Int)(m:List UInt8):Prop:=(0≤i∧i≤(BN l).length)∧((m=[]∧DB sg l y=(((BN l).drop i.toNat).find? fun m=>isG sg y 4 m).getD [])∨(m≠[]∧m=DB sg l y))
theorem b8d:mkQ sg y l 0 []:=⟨by omega,.inl ⟨rfl,rfl⟩⟩
theorem b8e{v:List UInt8}(h:mkQ sg y l i m)(hm:m=[])(ha:(BN l)[i.toNat]? =some v)(hg:isG sg (gM y m) 4 v=false):mkQ sg y l (i+1) m:=by
 subst hm
 have hlt:=(List.getElem?_eq_some_iff.1 ha).1
 refine⟨by have:=h.1;omega,?_⟩
 rcases h.2 with h2|h2
 ·left;refine⟨rfl,?_⟩
  rw[h2.2,List.drop_eq_getElem_cons hlt,(List.getElem?_eq_some_iff.1 ha).2,List.find?_cons_of_neg (by simp;exact hg),show(i+1).toNat=i.toNat+1 by have:=h.1;omega]
 ·exact(h2.1 rfl).elim
theorem YR{v:List UInt8}(h:mkQ sg y l i m)(hm:m=[])(ha:(BN l)[i.toNat]? =some v)(hg:isG sg (gM y m) 4 v=true):mkQ sg y l (i+1) v∧AS sg (gM y m) v=gM y v:=by
 subst hm
 have hlt:=(List.getElem?_eq_some_iff.1 ha).1
 have hv:=b5J (List.mem_of_getElem? ha)
 refine⟨⟨by have:=h.1;omega,.inr ⟨hv,?_⟩⟩,?_⟩
 ·exact(b5L (List.mem_of_getElem? ha) hg).symm
 ·rw[YQ] at hg ⊢;rw[TI hv];exact EV hg
theorem b8f(h:mkQ sg y l i m)(hi:i<((BN l).length:Int))(hm:m≠[]):mkQ sg y l (i+1) m:=by
 refine⟨by have:=h.1;omega,?_⟩
 rcases h.2 with h2|h2
 ·exact(hm h2.1).elim
 ·exact .inr h2
theorem TJ(h:mkQ sg y l i m)(hi:¬i<((BN l).length:Int)):m=DB sg l y:=by
 rcases h.2 with h2|h2
 ·rw[h2.2,List.drop_eq_nil_of_le (by omega),h2.1];rfl
 ·exact h2.2
theorem a5J{a:Int}(h:gsOk sg x)(hb:x.bad=true):Ah sg x f (a,x):=⟨QD (DA h) hb,fun hb2=>by simp only at hb2;rw[hb] at hb2;cases hb2⟩
theorem b8g{k':Int}(h:enI sg n x y k N)(h1:gsOk sg y')(h2:y'.deep=y.deep)(h3:y.pos≤y'.pos)(h4:pur y'=pur y)(h5:y'.bad=false→k'=k):enI sg n x y' k' N:=by
 obtain⟨a,b,c⟩:=h
 cases hb:y'.bad with
 |false=>
  have hy:y.bad=false:=by
   cases hy:y.bad with
   |false=>rfl
   |true=>rw[Ev hy,Dx hb] at h4;cases h4
  rw[h5 hb]
  exact⟨YL a h1 h2 h3 h4,fun _=>by have:=b hy;omega,fun _=>by have:=c hy;omega⟩
 |true=>
  have hy:y.bad=true:=by
   cases hy:y.bad with
   |true=>rfl
   |false=>rw[Ev hb,Dx hy] at h4;cases h4
  refine⟨Ey (YL a h1 h2 h3 h4) (fun s hs=>by rw[Ev hb] at hs;cases hs),fun e=>(Bool.noConfusion (hb.symm.trans e)),fun e=>(Bool.noConfusion (hb.symm.trans e))⟩
theorem b8h{a:Int}(h:Ah sg x (pE sg (n+1) .fin) (a,y))(hb:y.bad=true):enI sg n x y k N:=
 ⟨Ey (b5q h.1) (fun s hs=>by rw[Ev hb] at hs;cases hs),fun e=>(Bool.noConfusion (hb.symm.trans e)),fun e=>(Bool.noConfusion (hb.symm.trans e))⟩
theorem b8i(hs:sgB sg)(h:enI sg n x y k N)(hp:isG sg y 4 [40]=false)(hq:isG sg y 4 [46]=true):
 enI sg n x (Ax (Bh sg (Aw y) 1) ⟨6,Bz sg (Aw y) 1,[k],false⟩) (AY (Bh sg (Aw y) 1)) (N-1)∧N-1<N:=by
 have hl:=Dy hq (by omega)
 obtain⟨M,rfl⟩:=QF h hl.1
 refine⟨?_,by omega⟩
 have ho:=GF h.1.1 hl.2
 have hw:Dw ⟨6,(pkG sg (Aw y) 0).text,[k],false⟩:=⟨QB hs,by simp⟩
 cases hn:nmG sg (Aw y) 0 with
 |true=>
  obtain⟨M',e,h2⟩:=b5P hs h hp hq hn
  have:M'=M:=by omega
  subst this
  obtain⟨a1,a2,a3,a4,a5⟩:=YM ho (by have:=(Tk hn).2;omega) hw
  have e1:Bh sg (Aw y) 1=Aw (Aw y):=by rw[Bh,Jo,if_pos hn]
  have e2:Bz sg (Aw y) 1=(pkG sg (Aw y) 0).text:=by rw[Bz,Jo,if_pos hn]
  rw[e1,e2]
  exact b8g h2 a1 a2 a3 a4 (fun _=>a5)
 |false=>
  have h2:=b5Q (a:=0) h hp hq hn
  have e1:Bh sg (Aw y) 1=Bu (Aw y):=by rw[Bh,Jo,if_neg (by simp [hn])]
  have hf:Ef (Bu (Aw y))=true:=by simp [Ef,Bu]
  rw[e1]
  have e3:Ax (Bu (Aw y)) ⟨6,Bz sg (Aw y) 1,[k],false⟩=Bu (Bu (Aw y)):=if_pos hf
  rw[e3]
  exact b8h (a:=0) (Ov h2 ho rfl (Int.le_refl _) rfl (fun _=>rfl)) rfl
def vlQ(sg:List Sg)(one:Ps→PR)(m:List UInt8)(ks0:List Int)(x:Gs)(y:List Int×Gs):Prop:=∃l:List Int×Gs,(BF sg x (Bw sg one m (sg.length+1) []) l∧l.1.length≤3001)∧y=(ks0++l.1,AP sg l.2 m)
theorem YS{s:ST}{one:Ps→PR}{ks0:List Int}{y:List Int×Gs}(hs:sgB s.sg)(h:vlQ s.sg one m ks0 x y):rOk s y.2∧y.1.length≤ks0.length+3001∧y.2.deep=x.deep∧x.pos≤y.2.pos:=by
 obtain⟨l,⟨h1,h2⟩,rfl⟩:=h
 have t:=HT (m:=m) h1.1
 have:=h1.2.1;have:=h1.2.2.1
 exact⟨⟨hs,t.1⟩,by simp;omega,by simp only;omega,by simp only;omega⟩
theorem a5K{one:Ps→PR}{y:List Int×Gs}(hx:gsOk sg x)(h:vlQ sg one [41] [k] (AP sg x [40]) y):Ah sg x (Dq sg one k) (AY y.2,Ax y.2 ⟨5,[],y.1,false⟩):=by
 obtain⟨l,⟨h1,h2⟩,rfl⟩:=h
 exact IH h1.1 ⟨by simp,by simp;omega⟩ (b6d hx ⟨h1,h2⟩)
theorem b8j{c w:Int×Gs}(h:KX sg n x y ks N)(hq:isG sg y 4 [46,46]=true)(hc:Ah sg (Aw y) (BQ sg) c)
 (h2:Ah sg c.2 (Dq sg (pE sg n .value) c.1) w):∃M,N=M+1∧KX sg n x w.2 (ks++[w.1]) M:=by
 obtain⟨h1,hN,hk,hb⟩:=h
 obtain⟨hl1,hl⟩:=Dy hq (by omega)
 match N with
 |0=>omega
 |M+1=>
  refine⟨M,rfl,?_⟩
  have k1:=Hf (g':=fun s=>((BQ sg s).bind fun p=>(Dq sg (pE sg n .value) p.1 p.2).bind fun q=>FF sg (pE sg n .value) M (ks++[q.1]) q.2).bind fun q=>Bd ⟨10,[],q.1,false⟩ q.2)
   h1 (by omega) hq (fun s hs ht=>by rw[FF,if_pos (show isM sg s [46,46]=true from ht)])
  have k2:=BR (k:=fun k s=>((Dq sg (pE sg n .value) k s).bind fun q=>FF sg (pE sg n .value) M (ks++[q.1]) q.2).bind fun q=>Bd ⟨10,[],q.1,false⟩ q.2) k1 hc.1 (fun s _=>by simp only[Option.bind_assoc])
  have k3:=BR (k:=fun k s=>(FF sg (pE sg n .value) M (ks++[k]) s).bind fun q=>Bd ⟨10,[],q.1,false⟩ q.2) k2 h2.1 (fun s _=>by simp only[Option.bind_assoc])
  have e0:(Aw y).pos≤c.2.pos:=hc.1.2.2.1
  have e1:=Dh h2
  have ea:(Aw y).pos=y.pos+1:=rfl
  refine⟨k3,by omega,by simp;omega,fun hb2=> ?_⟩
  have:=h1.2.2.1
  omega
theorem b8k(hm:sgM sg)(h0:0≤s.pos)(h:KV sg s=true):KW sg s=true:=by
 have hp:∀(n:Nat) (i:Int),0≤i→0≤EH sg n i:=by
  intro n
  induction n with
  |zero=>intro i hi;simpa [EH] using hi
  |succ n ih=>
   intro i hi;rw[EH];split
   ·split
    ·exact ih _ (by omega)
    ·omega
   ·exact hi
 exact a4Q hm _ _ (by omega) (by rw[←YB hm (hp _ _ (by omega))];exact h)
theorem b8l(hm:sgM sg)(h0:0≤s.pos)(h1:KW sg s=true)(h2:KV sg s=false)(N:Nat):Bw sg (BQ sg) [41] N [] (adv s)=none:=by
 have hp:∀(n:Nat) (i:Int),0≤i→0≤EH sg n i:=by
  intro n
  induction n with
  |zero=>intro i hi;simpa [EH] using hi
  |succ n ih=>
   intro i hi;rw[EH];split
   ·split
    ·exact ih _ (by omega)
    ·omega
   ·exact hi
 exact a4R hm (sg.length+1) (s.pos+1) (by omega) h1 (by rw[←YB hm (hp _ _ (by omega))];exact h2) N [] (adv s) rfl
theorem b8m(hm:sgM sg)(hx:gsOk sg x)(h1:(pkG sg x 0).kind≠1)(h2:(pkG sg x 0).kind≠2)(h3:(pkG sg x 0).kind≠3)(hn:isG sg x 4 [91]=false)(hq:isG sg x 4 [40]=true)
 (ha:∀s,pur x=some s→KW sg s=true) (hz:Ah sg x (fnR sg n) z):Ah sg x (pE sg (n+1) .base) z:=by
 refine La hz (fun s hs=> ?_)
 have h0:0≤s.pos:=by obtain⟨_,rfl⟩:=Fm.1 hs;exact hx.1.1
 cases har:KV sg s with
 |true=>rw[QG hs h1 h2 h3,if_neg (by simp [Fo hs hn]),if_pos (by simp [JT hs hq,har]),fnR,BE,if_pos (JT hs hq)];rfl
 |false=>
  rw[QG hs h1 h2 h3,if_neg (by simp [Fo hs hn]),if_neg (by simp [har]),if_pos (JT hs hq),b5t (x:=⟨0,[],[],false⟩) hm h0 (ha s hs) har (fun k=>⟨11,[],[k],false⟩),fnR,BE,if_pos (JT hs hq)]
  simp only[Option.bind_some]
  rw[b8l hm h0 (ha s hs) har];rfl
theorem b8n(hm:sgM sg)(h:gsOk sg x)(h1:(pkG sg x 0).kind≠1)(h2:(pkG sg x 0).kind≠2)(h3:(pkG sg x 0).kind≠3)(hn:isG sg x 4 [91]=false)(hq:isG sg x 4 [40]=true)
 (ha:∀s,pur x=some s→KW sg s=false) (hz:Ah sg (Aw x) (pE sg n .value) z):
 Ah sg x (pE sg (n+1) .base) (AY (AP sg z.2 [41]),Ax (AP sg z.2 [41]) ⟨11,[],[z.1],false⟩):=by
 refine IH (Gt hz) ⟨by simp,by simp⟩ (b5U h h1 h2 h3 hn hq (fun s hs=> ?_) hz)
 have h0:0≤s.pos:=by obtain⟨_,rfl⟩:=Fm.1 hs;exact h.1.1
 cases har:KV sg s with
 |false=>rfl
 |true=>have:=b8k hm h0 har;rw[ha s hs] at this;cases this
end Go.My
end
section
namespace Go.My
open Go.Eng Go.Proofs
variable {G:GInv}
variable {N:Nat}{i p:Int}{ks ks0:List Int}{m:List UInt8}{one:Ps→PR}{s:ST}{sg:List Sg}{x y:Gs}
def vQ(r n:Nat)(s:ST)(g:Gs):Prop:=vP r n s g∧sgM s.sg
def wQ(r n:Nat)(s:ST)(g:Gs):Prop:=wP r n s g∧sgM s.sg
def MH(n:Nat):Sig:= {X:=ST×Int×Int×Bool×List Nd,args:=fun x=>[srd x.1 (xg x)],pre:=fun x=>vQ 11 n x.1 (xg x),Y:=Int×Int×Int×Bool×List Nd,post:=fun x y=>Ah x.1.sg (xg x) (pE x.1.sg n .value) (yS y),res:=fun x y=> .int .i64 y.1,outs:=fun x y=>[srd x.1 (yG y.2)],keep:=true}
def IJ(n:Nat):Sig:= {X:=ST×Int×Int×Bool×List Nd,args:=fun x=>[srd x.1 (xg x)],pre:=fun x=>vQ 10 n x.1 (xg x),Y:=Int×Int×Int×Bool×List Nd,post:=fun x y=>Ah x.1.sg (xg x) (pE x.1.sg n .pick) (yS y),res:=fun x y=> .int .i64 y.1,outs:=fun x y=>[srd x.1 (yG y.2)],keep:=true}
def IK(n:Nat):Sig:= {X:=ST×Int×Int×Bool×List Nd×Int,args:=fun x=>[srd x.1 (xh x),.int .i64 x.2.2.2.2.2],pre:=fun x=>wQ (9-x.2.2.2.2.2.toNat) n x.1 (xh x)∧0≤x.2.2.2.2.2∧x.2.2.2.2.2≤6,Y:=Int×Int×Int×Bool×List Nd,post:=fun x y=>Ah x.1.sg (xh x) (pE x.1.sg n (.chain x.2.2.2.2.2.toNat)) (yS y),res:=fun x y=> .int .i64 y.1,outs:=fun x y=>[srd x.1 (yG y.2),.top],keep:=true}
def TK(n:Nat):Sig:= {X:=ST×Int×Int×Bool×List Nd,args:=fun x=>[srd x.1 (xg x)],pre:=fun x=>wQ 2 n x.1 (xg x),Y:=Int×Int×Int×Bool×List Nd,post:=fun x y=>Ah x.1.sg (xg x) (pE x.1.sg n .fin) (yS y),res:=fun x y=> .int .i64 y.1,outs:=fun x y=>[srd x.1 (yG y.2)],keep:=true}
def TM(n:Nat):Sig:= {X:=ST×Int×Int×Bool×List Nd,args:=fun x=>[srd x.1 (xg x)],pre:=fun x=>wQ 1 n x.1 (xg x),Y:=Int×Int×Int×Bool×List Nd,post:=fun x y=>Ah x.1.sg (xg x) (pE x.1.sg n .base) (yS y),res:=fun x y=> .int .i64 y.1,outs:=fun x y=>[srd x.1 (yG y.2)],keep:=true}
structure qAll (G:GInv) (n:Nat):Prop where
 val:Ai G Go.Proofs.Tryz.prog 177 (MH n)
 pick:Ai G Go.Proofs.Tryz.prog 200 (IJ n)
 chain:Ai G Go.Proofs.Tryz.prog 222 (IK n)
 fin:Ai G Go.Proofs.Tryz.prog 233 (TK n)
 base:Ai G Go.Proofs.Tryz.prog 244 (TM n)
def saI(sg:List Sg)(p:Int)(i:Int)(N:Nat):Prop:=(p+1≤i∧i≤sg.length+1∧(sg.length:Int)-i<N)∧EU sg (sg.length+1) (p+1)=EU sg N i
def arG(sg:List Sg)(x:Gs):Bool:=isG sg x 4 [40]&&KW sg ⟨x.pos,x.deep,x.nodes⟩
theorem b8o(h:saI sg p i N):p+1≤i∧i≤sg.length+1:=⟨h.1.1,h.1.2.1⟩
theorem b8p(h0:0≤p)(h:p≤sg.length):saI sg p (p+1) (sg.length+1):=⟨by omega,rfl⟩
theorem a5L(h0:0≤p)(h:saI sg p i N)(h1:i+1<sg.length)(hk:(sgO sg i).kind=1)(ht:((sgO sg (i+1)).text==[44])=true):saI sg p (i+1+1) (N-1)∧N-1<N:=by
 obtain⟨⟨a1,a2,a3⟩,h4⟩:=h
 match N with
 |0=>omega
 |N+1=>
  refine⟨⟨⟨by omega,by omega,by simp;omega⟩,?_⟩,by omega⟩
  rw[h4,EU,if_pos ⟨h1,hk⟩,if_pos (by simpa using ht)]
  simp only[Nat.add_sub_cancel];congr 1;omega
theorem b8q(h:saI sg p i N)(h1:i+1<sg.length)(hk:(sgO sg i).kind=1)(ht:((sgO sg (i+1)).text==[44])=false):EU sg (sg.length+1) (p+1)=i+1:=by
 obtain⟨⟨a1,a2,a3⟩,h4⟩:=h
 match N with
 |0=>omega
 |N+1=>rw[h4,EU,if_pos ⟨h1,hk⟩,if_neg (by simpa using ht)]
theorem b8r(h:saI sg p i N)(h1:¬i+1<sg.length):EU sg (sg.length+1) (p+1)=i:=by
 rw[h.2]
 match N with
 |0=>rfl
 |N+1=>rw[EU,if_neg (fun hh=>h1 hh.1)]
theorem b8s(h:saI sg p i N)(hk:(sgO sg i).kind≠1):EU sg (sg.length+1) (p+1)=i:=by
 rw[h.2]
 match N with
 |0=>rfl
 |N+1=>rw[EU,if_neg (fun hh=>hk hh.2)]
theorem b8t(h:isG sg x 4 [40]=false):false=arG sg x:=by simp [arG,h]
theorem YT{b:Bool}(h:isG sg x 4 [40]=true)(hi:EU sg (sg.length+1) (x.pos+1)=i)(hb:b=FW sg i):b=arG sg x:=by
 rw[arG,h,Bool.true_and,KW];simp only[hi];exact hb
theorem a5M{k:Int}{e:Sg}(he:sg[i.toNat]? =some e)(hk:e.kind=k):(sgO sg i).kind=k:=by rw[JQ he];exact hk
theorem a5N{e:Sg}{b:Bool}(he:sg[i.toNat]? =some e)(hk:(e.text==m)=b):((sgO sg i).text==m)=b:=by rw[JQ he];exact hk
def lqJ(sg:List Sg)(one:Ps→PR)(m:List UInt8)(x y:Gs)(ks:List Int)(N:Nat):Prop:=Jn sg one m x y ks N∧(y.bad=false→x.bad=false)
theorem a5O(h:gsOk sg x):lqJ sg one m x x [] (sg.length+1):=⟨b5B h,fun h=>h⟩
theorem JZ(hs:sgB s.sg)(h:lqJ s.sg one m x y ks N):rOk s y:=b6c hs h
theorem QO(hs:sgB s.sg)(h:lqJ s.sg one m x y ks N):ks.length≤3000:=b6a hs h
theorem b8u{n:Nat}(hx:wQ 11 n s x)(h:lqJ s.sg one m x y ks N)(hb:y.bad=false)(hq:isG s.sg y 4 m=false):vQ 11 n s (AS s.sg y m):=by
 rw[Ea hq];exact⟨b6b hx.1.1.1.1 h hb hx.1.1.2 hx.1.2,hx.2⟩
theorem TN{z:Int×Gs}(h:lqJ sg one m x y ks N)(hq:isG sg y 4 m=false)(hz:Ah sg (AS sg y m) one z)(hc:isG sg z.2 4 [44]=true):
 lqJ sg one m x (AS sg z.2 [44]) (ks++[z.1]) (N-1)∧N-1<N:=by
 rw[Ea hq] at hz;exact b5Z h hz hq hc
theorem a5P{z:Int×Gs}(hs:sgB s.sg)(h:lqJ s.sg one m x y ks N)(hq:isG s.sg y 4 m=false)(hz:Ah s.sg (AS s.sg y m) one z)(hc:isG s.sg z.2 4 [44]=false):
 vlQ s.sg one m ks0 x (ks0++ks++[z.1],AP s.sg (AS s.sg z.2 [44]) m):=by
 rw[Ea hq] at hz
 have a:=b5Y h hz hq hc
 refine⟨_,⟨a,?_⟩,?_⟩
 ·have:=QO hs h;simp;omega
 ·simp only[List.append_assoc]
theorem a5Q(hs:sgB s.sg)(h:lqJ s.sg one m x y ks N)(hb:y.bad=true):vlQ s.sg one m ks0 x (ks0++ks,y):=by
 refine⟨_,⟨b5C h.1 hb,?_⟩,by simp only[TH hb]⟩
 have:=QO hs h;simp only;omega
theorem a5R(hs:sgB s.sg)(h:lqJ s.sg one m x y ks N)(hq:isG s.sg y 4 m=true):vlQ s.sg one m ks0 x (ks0++ks,AS s.sg y m):=by
 refine⟨_,⟨b5D h.1 hq,?_⟩,by simp only[EV hq,JY hq]⟩
 have:=QO hs h;simp only;omega
theorem FY(h:rOk s y):rOk s (AS s.sg y m):=by
 cases hq:isG s.sg y 4 m with
 |true=>rw[EV hq];exact⟨h.1,GF h.2 (Dy hq (by omega)).2⟩
 |false=>rw[Ea hq];exact h
theorem HW{k:Int}(h:rOk s y)(hk:k≠0):rOk s (Bh s.sg y k):=by
 unfold Bh;split
 ·rename_i hq;exact⟨h.1,GF h.2 (TD hk hq).2⟩
 ·exact h
theorem Ox(h:rOk s y):Ah s.sg (AS s.sg y m) (BQ s.sg) (AY (Bh s.sg (AS s.sg y m) 1),Ax (Bh s.sg (AS s.sg y m) 1) ⟨1,Bz s.sg (AS s.sg y m) 1,[],false⟩):=b7Z h.1 (FY h).2
theorem YU(h:rOk s y):rOk s (Ax (Bh s.sg (AS s.sg y m) 1) ⟨1,Bz s.sg (AS s.sg y m) 1,[],false⟩):=⟨h.1,Gt (Ox (m:=m) h)⟩
attribute [local irreducible] pE Bw Dq fnR Ah BF gsOk AP CZ Ax Dz ER AS Ew EI AY Da pkG isG nmG kdG Bh Bz BQ vlQ lqJ saI
def FZ:Sig:= {X:=ST×Int×Int×Bool×List Nd,args:=fun x=>[srd x.1 (xg x)],pre:=fun x=>rOk x.1 (xg x),Y:=Unit,post:=fun x y=>True,res:=fun x y=> .bool (arG x.1.sg (xg x)),outs:=fun x y=>[srd x.1 (xg x)],keep:=true}
def TO(x:ST×Int×Int×Bool×List Nd):LS:= {ι:=Int×Nat,inv:=fun i=>saI x.1.sg (xg x).pos i.1 i.2,regs:=fun i=>[(0,srd x.1 (xg x)),(3,.q i.1)],als:=[],meas:=fun i=>i.2}
def YV(x:ST×Int×Int×Bool×List Nd)(i:Int×Nat):Prop:=Aa (decide (i.1+1<(x.1.sg.length:Int))) ((0≤i.1∧i.1<(x.1.sg.length:Int))∧(∀(e:Sg),x.1.sg[Int.toNat i.1]? =some e→Aa (e.text== #[(41:UInt8)].toList) ((0≤i.1∧i.1<(x.1.sg.length:Int))∧(∀(e:Sg),x.1.sg[Int.toNat i.1]? =some e→Aa (e.kind==4) (inR .i64 (i.1+(1:Int))∧((0≤i.1+(1:Int)∧i.1+1<(x.1.sg.length:Int))∧(∀(e:Sg),x.1.sg[Int.toNat (i.1+(1:Int))]? =some e→Aa (e.text== #[(61:UInt8),62].toList) (inR .i64 (i.1+(1:Int))∧((0≤i.1+(1:Int)∧i.1+1<(x.1.sg.length:Int))∧(∀(e:Sg),x.1.sg[Int.toNat (i.1+(1:Int))]? =some e→rA FZ x [.bool (e.kind==4),srd x.1 (xg x)]))) (rA FZ x [.bool false,srd x.1 (xg x)])))) (rA FZ x [.bool false,srd x.1 (xg x)]))) (rA FZ x [.bool false,srd x.1 (xg x)]))) (rA FZ x [.bool false,srd x.1 (xg x)])
theorem b8v:Ai G Tryz.prog 251 FZ:=
 vcFun_okP [(176,0,Ez)] [] false (fun x=>[(5,TO x)]) Tryz.func251 rfl (by decide) ⟨QL,trivial⟩ (fun(x:ST×Int×Int×Bool×List Nd)=>True∧cA Ez [srd x.1 (xg x),.q 4,.str #[(40:UInt8)].toList] fun x_1 y=>Aa (!isG x_1.1.sg (xh x_1) x_1.2.2.2.2.2.1 x_1.2.2.2.2.2.2) (rA FZ x [.bool false,srd x_1.1 (xh x_1)]) (inR .i64 ((xg x).pos+1)∧eA (TO x) [srd x_1.1 (xh x_1),.q ((xg x).pos+1)]∧∀(i:Int×Nat),saI x.1.sg (xg x).pos i.1 i.2→inR .i64 (i.1+(1:Int))∧Aa (decide (i.1+1<(x.1.sg.length:Int))) ((0≤i.1∧i.1<(x.1.sg.length:Int))∧∀(e:Sg),x.1.sg[Int.toNat i.1]? =some e→Aa (e.kind==1) (inR .i64 (i.1+(1:Int))∧(0≤i.1+(1:Int)∧i.1+1<(x.1.sg.length:Int))∧∀(e:Sg),x.1.sg[Int.toNat (i.1+(1:Int))]? =some e→Aa (!e.text== #[(44:UInt8)].toList) (inR .i64 (i.1+(1:Int)+(1:Int))∧Aa (decide (i.1+(1:Int)+1<(x.1.sg.length:Int))) ((0≤i.1+(1:Int)∧i.1+1<(x.1.sg.length:Int))∧∀(e:Sg),x.1.sg[Int.toNat (i.1+(1:Int))]? =some e→Aa (e.text== #[(41:UInt8)].toList) ((0≤i.1+(1:Int)∧i.1+1<(x.1.sg.length:Int))∧∀(e:Sg),x.1.sg[Int.toNat (i.1+(1:Int))]? =some e→Aa (e.kind==4) (inR .i64 (i.1+(1:Int)+(1:Int))∧(0≤i.1+(1:Int)+(1:Int)∧i.1+(1:Int)+1<(x.1.sg.length:Int))∧∀(e:Sg),x.1.sg[Int.toNat (i.1+(1:Int)+(1:Int))]? =some e→Aa (e.text== #[(61:UInt8),62].toList) (inR .i64 (i.1+(1:Int)+(1:Int))∧(0≤i.1+(1:Int)+(1:Int)∧i.1+(1:Int)+1<(x.1.sg.length:Int))∧∀(e:Sg),x.1.sg[Int.toNat (i.1+(1:Int)+(1:Int))]? =some e→rA FZ x [.bool (e.kind==4),srd x.1 (xg x)]) (rA FZ x [.bool false,srd x.1 (xg x)])) (rA FZ x [.bool false,srd x.1 (xg x)])) (rA FZ x [.bool false,srd x.1 (xg x)])) (rA FZ x [.bool false,srd x.1 (xg x)])) (inR .i64 (i.1+(1:Int)+(1:Int))∧eN (TO x) i [srd x.1 (xg x),.q (i.1+(1:Int)+(1:Int))])) (inR .i64 (i.1+(1:Int))∧(YV x i))) (inR .i64 (i.1+(1:Int))∧(YV x i)))) (fun x=>by kernel_rfl) fun(x:ST×Int×Int×Bool×List Nd) (hx:rOk x.1 (xg x))=>(by
 dsimp only[YV,cA,eA,eN,TO,Br,Bj,rA,FZ,Ez,Du,sgs,srd,As,Az,mvL,lnL,mvE,lnE,Bl,AV.q]
 obtain⟨s,p,d,b,ns⟩:=x;dsimp only[xg,xh] at hx ⊢
 have hx:rOk s ⟨p,d,b,ns⟩:=hx;have hs:=Hd hx;dsimp only at hs
 (repeat' first|(with_reducible first|rfl|exact True.intro|apply AK|apply And.intro|((first|apply AA|apply AI|apply AB|apply AJ)<;>intro _))|(apply Av<;>intro _)|apply AH|refine Ae () ?_ ?_|((first|apply AO|apply AN|apply AM|apply AL|apply AG|apply AF|apply AE|apply AD|apply AC)<;>try dsimp only)|apply Ae|(refine Prod.forall.2 ?_;intro _;try dsimp only)|(intro _;try dsimp only))
 all_goals(try dsimp only[xg,xh,yG,yS,iG] at*)
 all_goals first
  |(show Nat;skip)
  |rfl
  |exact hx
  |exact b8p hs.1.1.1 hs.1.1.2
  |exact b8t (x:=⟨p,d,b,ns⟩) ‹_›
  |exact(a5L hs.1.1.1 ‹_› ‹_› (a5M ‹_› ‹_›) (a5N ‹_› ‹_›)).1
  |(have hq:=b8o ‹saI _ _ _ _›;(try simp only[An]);omega)
  |omega
  |skip
 all_goals first
  |exact(a5L hs.1.1.1 ‹_› ‹_› (a5M ‹_› ‹_›) (a5N ‹_› ‹_›)).2
  |skip
 all_goals(repeat(rename s.sg[_]? =some _=>hq;have hq2:=JQ hq;clear hq;subst hq2))
 all_goals first
  |(refine YT (x:=⟨p,d,b,ns⟩) ‹_› (b8q ‹_› ‹_› ‹_› ‹_›) ?_;rw[Bool.eq_iff_iff];simp [FW,JU, *];done)
  |(refine YT (x:=⟨p,d,b,ns⟩) ‹_› (b8r ‹_› ‹_›) ?_;rw[Bool.eq_iff_iff];simp [FW,JU, *];done)
  |(refine YT (x:=⟨p,d,b,ns⟩) ‹_› (b8s ‹_› ‹_›) ?_;rw[Bool.eq_iff_iff];simp [FW,JU, *];done)
  |skip)
def GJ(n:Nat):Sig:= {X:=ST×Int×Int×Bool×List Nd×List UInt8×List Int,args:=fun x=>[srd x.1 (xh x),.str x.2.2.2.2.2.1,Al x.2.2.2.2.2.2],pre:=fun x=>wQ 11 n x.1 (xh x)∧x.2.2.2.2.2.2.length≤1,Y:=List Int×Int×Int×Bool×List Nd,post:=fun x y=>vlQ x.1.sg (pE x.1.sg n .value) x.2.2.2.2.2.1 x.2.2.2.2.2.2 (xh x) (yS y),res:=fun x y=>Al y.1,outs:=fun x y=>[srd x.1 (yG y.2),.top,.top],keep:=true}
def TP(n:Nat)(x:ST×Int×Int×Bool×List Nd×List UInt8×List Int):LS:= {ι:=Int×Int×Bool×List Nd×List Int×Nat,inv:=fun i=>lqJ x.1.sg (pE x.1.sg n .value) x.2.2.2.2.2.1 (xh x) (iG i) i.2.2.2.2.1 i.2.2.2.2.2,regs:=fun i=>[(0,srd x.1 (iG i)),(1,.str x.2.2.2.2.2.1),(2,Al (x.2.2.2.2.2.2++i.2.2.2.2.1))],als:=[],meas:=fun i=>i.2.2.2.2.2}
theorem YW(n:Nat)(h:qAll G n):Ai G Tryz.prog 201 (GJ n):=
 vcFun_okP [(135,0,Cb),(177,0,(MH n)),(134,0,BZ)] [(38,⟨Int,Bx⟩)] false (fun x=>[(1,TP n x)]) Tryz.func201 rfl (by decide) ⟨HU,h.val,IG,trivial⟩ (fun(x:ST×Int×Int×Bool×List Nd×List UInt8×List Int)=>True∧eA (TP n x) [srd x.1 (xh x),.str x.2.2.2.2.2.1,Al x.2.2.2.2.2.2]∧∀(i:Int×Int×Bool×List Nd×List Int×Nat),lqJ x.1.sg (pE x.1.sg n NT.value) x.2.2.2.2.2.1 (xh x) (iG i) i.2.2.2.2.1 i.2.2.2.2.2→Aa (!(iG i).bad) (cA Cb [srd x.1 (iG i),.str x.2.2.2.2.2.1] fun x_1 y=>Aa (!isG x_1.1.sg (xh x_1) (4:Int) x_1.2.2.2.2.2) (cA (MH n) [srd x_1.1 (AS x_1.1.sg (xh x_1) x_1.2.2.2.2.2)] fun x_2 y=>∃(x_3:Int),y.1=x_3∧∃(zs:List Int),Al [x_3]=Al zs∧BI Bx∧Bb ((x.2.2.2.2.2.2++i.2.2.2.2.1).length+zs.length) (8:Nat)∧cA Cb [srd x_2.1 (yG y.2),.str #[(44:UInt8)].toList] fun x_4 y=>Aa (!isG x_4.1.sg (xh x_4) (4:Int) x_4.2.2.2.2.2) (cA BZ [srd x_4.1 (AS x_4.1.sg (xh x_4) x_4.2.2.2.2.2),.str x.2.2.2.2.2.1] fun x_5 y=>rA (GJ n) x [Al (x.2.2.2.2.2.2++i.2.2.2.2.1++zs),srd x_5.1 (AP x_5.1.sg (xh x_5) x_5.2.2.2.2.2),.top,.top]) (eN (TP n x) i [srd x_4.1 (AS x_4.1.sg (xh x_4) x_4.2.2.2.2.2),.str x.2.2.2.2.2.1,Al (x.2.2.2.2.2.2++i.2.2.2.2.1++zs)])) (rA (GJ n) x [Al (x.2.2.2.2.2.2++i.2.2.2.2.1),srd x_1.1 (AS x_1.1.sg (xh x_1) x_1.2.2.2.2.2),.top,.top])) (rA (GJ n) x [Al (x.2.2.2.2.2.2++i.2.2.2.2.1),srd x.1 (iG i),.top,.top])) (fun x=>by kernel_rfl) fun(x:ST×Int×Int×Bool×List Nd×List UInt8×List Int) (hx:wQ 11 n x.1 (xh x)∧x.2.2.2.2.2.2.length≤1)=>(by
 dsimp only[cA,eA,eN,TP,Br,Al,Bj,rA,Cb,MH,GJ,BZ,Du,sgs,srd,As,Az,mvL,lnL,mvE,lnE,Bl]
 obtain⟨s,p,d,b,ns,m,ks0⟩:=x;dsimp only[xg,xh] at hx ⊢
 obtain⟨hx,hk0⟩:=hx
 have hx:wQ 11 n s ⟨p,d,b,ns⟩:=hx
 have hs:=hx.1.1.1.1;have h1:=hx.1.1.1
 (repeat' first|(with_reducible first|rfl|exact True.intro|apply AK|apply And.intro|((first|apply AA|apply AI|apply AB|apply AJ)<;>intro _))|(apply Av<;>intro _)|apply AH|refine Ae () ?_ ?_|((first|apply AO|apply AN|apply AM|apply AL|apply AG|apply AF|apply AE|apply AD|apply AC)<;>try dsimp only)|apply Ae|(refine Prod.forall.2 ?_;intro _;try dsimp only)|(intro _;try dsimp only))
 all_goals(try dsimp only[xg,xh,yG,yS,iG] at*)
 all_goals(try simp only[GG] at*)
 all_goals first
  |(show Nat;skip)
  |rfl
  |exact h1
  |exact a5O h1.2
  |exact JZ hs ‹_›
  |exact b8u hx ‹_› ‹_› ‹_›
  |exact FG h1 ‹_›
  |exact FY (FG h1 ‹_›)
  |exact(TN ‹_› ‹_› ‹_› ‹_›).1
  |exact a5P hs ‹_› ‹_› ‹_› ‹_›
  |exact a5Q hs ‹_› ‹_›
  |exact a5R hs ‹_› ‹_›
  |(simp;done)
  |(have hq:=QO hs ‹lqJ _ _ _ _ _ _ _›;(try simp only[Bb,List.length_append,List.length_cons,List.length_nil]);omega)
  |skip
 all_goals first
  |exact(TN ‹_› ‹_› ‹_› ‹_›).2
  |(simp;done)
  |skip)
def GK:Sig:= {X:=ST×Int×Int×Bool×List Nd,args:=fun x=>[srd x.1 (xg x)],pre:=fun x=>rOk x.1 (xg x),Y:=List Int×Int×Int×Bool×List Nd,post:=fun x y=>vlQ x.1.sg (BQ x.1.sg) [41] [] (AP x.1.sg (xg x) [40]) (yS y),res:=fun x y=>Al y.1,outs:=fun x y=>[srd x.1 (yG y.2)],keep:=true}
def TQ(x:ST×Int×Int×Bool×List Nd):LS:= {ι:=Int×Int×Bool×List Nd×List Int×Nat,inv:=fun i=>lqJ x.1.sg (BQ x.1.sg) [41] (AP x.1.sg (xg x) [40]) (iG i) i.2.2.2.2.1 i.2.2.2.2.2,regs:=fun i=>[(0,srd x.1 (iG i)),(3,Al i.2.2.2.2.1)],als:=[],meas:=fun i=>i.2.2.2.2.2}
theorem YX:Ai G Tryz.prog 136 GK:=
 vcFun_okP [(135,0,Cb),(134,0,BZ),(108,0,Bv),(131,0,CL)] [(38,⟨Int,Bx⟩)] false (fun x=>[(3,TQ x)]) Tryz.func136 rfl (by decide) ⟨HU,IG,HV,Le,trivial⟩ (fun(x:ST×Int×Int×Bool×List Nd)=>True∧cA BZ [srd x.1 (xg x),.str #[(40:UInt8)].toList] fun x_1 y=>eA (TQ x) [srd x_1.1 (AP x_1.1.sg (xh x_1) x_1.2.2.2.2.2),Al []]∧∀(i:Int×Int×Bool×List Nd×List Int×Nat),lqJ x.1.sg (BQ x.1.sg) [(41:UInt8)] (AP x.1.sg (xg x) [(40:UInt8)]) (iG i) i.2.2.2.2.1 i.2.2.2.2.2→Aa (!(iG i).bad) (cA Cb [srd x.1 (iG i),.str #[(41:UInt8)].toList] fun x_2 y=>Aa (!isG x_2.1.sg (xh x_2) (4:Int) x_2.2.2.2.2.2) (cA CL [srd x_2.1 (AS x_2.1.sg (xh x_2) x_2.2.2.2.2.2),.q 1] fun x_3 y=>cA Bv [srd x_3.1 (Bh x_3.1.sg (xh x_3) x_3.2.2.2.2.2),.q 1,.str (Bz x_3.1.sg (xh x_3) x_3.2.2.2.2.2),Al []] fun x_4 y=>∃(x_5:Int),AY (xh x_4)=x_5∧∃(zs:List Int),Al [x_5]=Al zs∧BI Bx∧Bb (i.2.2.2.2.1.length+zs.length) (8:Nat)∧cA Cb [srd x_4.1 (Ax (xh x_4) {kind:=x_4.2.2.2.2.2.1,text:=x_4.2.2.2.2.2.2.1,kids:=x_4.2.2.2.2.2.2.2,blank:=false}),.str #[(44:UInt8)].toList] fun x_6 y=>Aa (!isG x_6.1.sg (xh x_6) (4:Int) x_6.2.2.2.2.2) (cA BZ [srd x_6.1 (AS x_6.1.sg (xh x_6) x_6.2.2.2.2.2),.str #[(41:UInt8)].toList] fun x_7 y=>rA GK x [Al (i.2.2.2.2.1++zs),srd x_7.1 (AP x_7.1.sg (xh x_7) x_7.2.2.2.2.2)]) (eN (TQ x) i [srd x_6.1 (AS x_6.1.sg (xh x_6) x_6.2.2.2.2.2),Al (i.2.2.2.2.1++zs)])) (rA GK x [Al i.2.2.2.2.1,srd x_2.1 (AS x_2.1.sg (xh x_2) x_2.2.2.2.2.2)])) (rA GK x [Al i.2.2.2.2.1,srd x.1 (iG i)])) (fun x=>by kernel_rfl) fun(x:ST×Int×Int×Bool×List Nd) (hx:rOk x.1 (xg x))=>(by
 dsimp only[cA,eA,eN,TQ,Br,Al,Bj,rA,Cb,GK,Bv,CL,BZ,Du,sgs,srd,As,Az,mvL,lnL,mvE,lnE,Bl,AV.q]
 obtain⟨s,p,d,b,ns⟩:=x;dsimp only[xg,xh] at hx ⊢
 have h1:rOk s ⟨p,d,b,ns⟩:=hx;have hs:=h1.1
 have t:=Hh (m:=[40]) h1
 (repeat' first|(with_reducible first|rfl|exact True.intro|apply AK|apply And.intro|((first|apply AA|apply AI|apply AB|apply AJ)<;>intro _))|(apply Av<;>intro _)|apply AH|refine Ae () ?_ ?_|((first|apply AO|apply AN|apply AM|apply AL|apply AG|apply AF|apply AE|apply AD|apply AC)<;>try dsimp only)|apply Ae|(refine Prod.forall.2 ?_;intro _;try dsimp only)|(intro _;try dsimp only))
 all_goals(try dsimp only[xg,xh,yG,yS,iG] at*)
 all_goals(try simp only[GG] at*)
 all_goals first
  |(show Nat;skip)
  |rfl
  |exact h1
  |omega
  |exact a5O t.1.2
  |exact JZ hs ‹_›
  |exact FY (JZ hs ‹_›)
  |exact HW (FY (JZ hs ‹_›)) (by omega)
  |exact YU (JZ hs ‹_›)
  |exact FY (YU (JZ hs ‹_›))
  |exact(TN ‹_› ‹_› (Ox (JZ hs ‹_›)) ‹_›).1
  |exact a5P (ks0:=[]) hs ‹_› ‹_› (Ox (JZ hs ‹_›)) ‹_›
  |exact a5Q (ks0:=[]) hs ‹_› ‹_›
  |exact a5R (ks0:=[]) hs ‹_› ‹_›
  |(have hq:=QO hs ‹lqJ _ _ _ _ _ _ _›;(try simp only[Bb,List.length_append,List.length_cons,List.length_nil]);omega)
  |skip
 all_goals first
  |exact(TN ‹_› ‹_› (Ox (JZ hs ‹_›)) ‹_›).2
  |skip)
end Go.My
end
section
namespace Go.My
open Go.Eng Go.Proofs
variable {G:GInv}
variable {N n:Nat}{k:Int}{m:List UInt8}{s:ST}{sg:List Sg}{v:List Int×Gs}{x y:Gs}{z:Int×Gs}
theorem Ka(h:kdG sg x k=false)(hk:k≠1):(pkG sg x 0).kind≠k:=by
 rw[QM hk] at h;simpa using h
theorem b8w(hs:sgB sg)(h:gsOk sg x)(h1:kdG sg x 1=false)(hk:(pkG sg x 0).kind=1)(hy:y=Bu x):Ah sg x (pE sg (n+1) .base) (k,y):=by
 have a:=a4X (n:=n) hs h hk
 rw[Jo] at h1
 rw[EI,Ew,if_neg (by simp [h1]),if_neg (by simp [h1])] at a
 subst hy
 exact Ov a h rfl (Int.le_refl _) rfl (fun hb=>by simp [Bu] at hb)
theorem b8x(hs:sgB sg)(h:gsOk sg x)(h1:kdG sg x 1=true):Ah sg x (pE sg (n+1) .base) (AY (Bh sg x 1),Ax (Bh sg x 1) ⟨1,Bz sg x 1,[],false⟩):=by
 have hn:=h1
 rw[Jo] at hn
 have a:=a4X (n:=n) hs h (by simp [nmG] at hn;exact hn.1)
 rw[EI,Ew,if_pos hn,if_pos hn] at a
 exact Ow hs h (by omega) h1 a
theorem a5S(hs:sgB sg)(h:gsOk sg x)(hk:k=2∨k=3)(h1:kdG sg x k=true):Ah sg x (pE sg (n+1) .base) (AY (Bh sg x k),Ax (Bh sg x k) ⟨k,Bz sg x k,[],false⟩):=by
 have hn:=h1
 rw[QM (by omega)] at hn
 exact Ow hs h (by omega) h1 (b5S hs h (by simpa using hn) hk)
theorem YY(hq:isG sg x 4 m=true):(pkG sg x 0).kind≠1:=by
 simp [isG] at hq;rw[hq.1];omega
theorem b8y(h:rOk s x)(h1:kdG s.sg x 1=false)(h2:kdG s.sg x 2=false)(h3:kdG s.sg x 3=false)(hq:isG s.sg x 4 [91]=true)(hv:vlQ s.sg (pE s.sg n .value) [93] [] (AS s.sg x [91]) v):
 Ah s.sg x (pE s.sg (n+1) .base) (AY v.2,Ax v.2 ⟨4,[],v.1,false⟩):=by
 rw[EV hq] at hv
 obtain⟨l,⟨a,b⟩,rfl⟩:=hv
 exact IH a.1 ⟨by simp,by simp;omega⟩ (b5T h.2 (YY hq) (Ka h2 (by omega)) (Ka h3 (by omega)) hq a b)
theorem b8z(hm:sgM s.sg)(h:rOk s x)(h1:kdG s.sg x 1=false)(h2:kdG s.sg x 2=false)(h3:kdG s.sg x 3=false)(hn:isG s.sg x 4 [91]=false)(ha:arG s.sg (AS s.sg x [91])=true)
 (hv:vlQ s.sg (BQ s.sg) [41] [] (AP s.sg (AS s.sg x [91]) [40]) v) (hz:Ah s.sg (AP s.sg v.2 [61,62]) (pE s.sg n .pick) z):Ah s.sg x (pE s.sg (n+1) .base) (AY z.2,Ax z.2 ⟨9,[],v.1++[z.1],false⟩):=by
 rw[Ea hn] at ha hv
 simp only[arG,Bool.and_eq_true] at ha
 obtain⟨l,⟨a,b⟩,rfl⟩:=hv
 refine b8m hm h.2 (YY ha.1) (Ka h2 (by omega)) (Ka h3 (by omega)) hn ha.1 (fun s0 hs=> ?_) (b5W (l:=l) h.2 a b hz)
 obtain⟨_,rfl⟩:=Fm.1 hs;exact ha.2
theorem b8A(hm:sgM s.sg)(h:rOk s x)(h1:kdG s.sg x 1=false)(h2:kdG s.sg x 2=false)(h3:kdG s.sg x 3=false)(hn:isG s.sg x 4 [91]=false)(ha:arG s.sg (AS s.sg x [91])=false)(hb:(AP s.sg (AS s.sg x [91]) [40]).bad=false)
 (hz:Ah s.sg (AP s.sg (AS s.sg x [91]) [40]) (pE s.sg n .value) z):Ah s.sg x (pE s.sg (n+1) .base) (AY (AP s.sg z.2 [41]),Ax (AP s.sg z.2 [41]) ⟨11,[],[z.1],false⟩):=by
 rw[Ea hn] at ha hb hz
 have hq:isG s.sg x 4 [40]=true:=by
  cases hq:isG s.sg x 4 [40] with
  |true=>rfl
  |false=>rw[QN hq] at hb;cases hb
 rw[JY hq] at hz
 simp only[arG,hq,Bool.true_and] at ha
 refine b8n hm h.2 (YY hq) (Ka h2 (by omega)) (Ka h3 (by omega)) hn hq (fun s0 hs=> ?_) hz
 obtain⟨_,rfl⟩:=Fm.1 hs;exact ha
theorem b8B(h:rOk s x)(h1:kdG s.sg x 1=false)(h2:kdG s.sg x 2=false)(h3:kdG s.sg x 3=false)(hn:isG s.sg x 4 [91]=false)(hx:x.bad=false)(hb:(AP s.sg (AS s.sg x [91]) [40]).bad=true):
 Ah s.sg x (pE s.sg (n+1) .base) (k,AP s.sg (AS s.sg x [91]) [40]):=by
 rw[Ea hn] at hb ⊢
 have hq:isG s.sg x 4 [40]=false:=by
  cases hq:isG s.sg x 4 [40] with
  |false=>rfl
  |true=>rw[JY hq] at hb;simp only[Aw] at hb;rw[hx] at hb;cases hb
 rw[QN hq]
 rcases Classical.em ((pkG s.sg x 0).kind=1) with e|e
 ·exact b8w h.1 h.2 h1 e rfl
 ·exact b5V h.2 e (Ka h2 (by omega)) (Ka h3 (by omega)) hn hq
theorem b8C(hx:wQ 1 (n+1) s x)(hq:isG s.sg x 4 [91]=true):wQ 11 n s (AS s.sg x [91]):=by
 rw[EV hq];exact⟨(a4Y hq (by omega) hx.1.1.1 hx.1.1.2 hx.1.2 (by omega)).1,hx.2⟩
theorem b8D(hx:wQ 1 (n+1) s x)(hn:isG s.sg x 4 [91]=false)(ha:arG s.sg (AS s.sg x [91])=true)(hv:vlQ s.sg (BQ s.sg) [41] [] (AP s.sg (AS s.sg x [91]) [40]) v):vQ 10 n s (AP s.sg v.2 [61,62]):=by
 rw[Ea hn] at ha hv
 simp only[arG,Bool.and_eq_true] at ha
 obtain⟨l,a,rfl⟩:=hv
 exact⟨b6e (x:=x) (n:=n) (l:=l) hx.1.1.1 (hx.1.1.2 (Dy ha.1 (by omega)).1) ha.1 (by have:=hx.1.2;omega) a,hx.2⟩
theorem b8E(hx:wQ 1 (n+1) s x)(hn:isG s.sg x 4 [91]=false)(hb:(AP s.sg (AS s.sg x [91]) [40]).bad=false):vQ 11 n s (AP s.sg (AS s.sg x [91]) [40]):=by
 rw[Ea hn] at hb ⊢
 have hq:isG s.sg x 4 [40]=true:=by
  cases hq:isG s.sg x 4 [40] with
  |true=>rfl
  |false=>rw[QN hq] at hb;cases hb
 rw[JY hq];exact⟨(a4Y hq (by omega) hx.1.1.1 hx.1.1.2 hx.1.2 (by omega)).2,hx.2⟩
theorem YZ{one:Ps→PR}{ks0:List Int}{y:List Int×Gs}(hs:sgB s.sg)(h:vlQ s.sg one m ks0 x y):rOk s y.2:=(YS hs h).1
theorem Za{one:Ps→PR}{ks0:List Int}{y:List Int×Gs}(hs:sgB s.sg)(h:vlQ s.sg one m ks0 x y):y.1.length≤ks0.length+3001:=(YS hs h).2.1
def eqJ(sg:List Sg)(n:Nat)(x y:Gs)(k:Int)(N:Nat):Prop:=enI sg n x y k N∧(y.bad=false→y.deep≤20)
theorem b8F(hx:wQ 2 (n+1) s x)(hz:Ah s.sg x (pE s.sg n .base) z):eqJ s.sg n x z.2 z.1 (s.sg.length+1):=b6g hx.1.1.1 hx.1.1.2 hz
theorem a5T(hx:wQ 2 (n+1) s x)(h:eqJ s.sg n x y k N):rOk s y:=⟨hx.1.1.1.1,h.1.1.1⟩
theorem b8G(hx:wQ 2 (n+1) s x)(h:eqJ s.sg n x y k N)(hq:isG s.sg y 4 [40]=true):wQ 11 n s (AS s.sg y [40]):=by
 have hb:=(Dy hq (by omega)).1
 have:=h.1.2.2 hb;have:=hx.1.2
 have hl:=Dy hq (by omega)
 rw[EV hq]
 have e1:(Aw y).pos=y.pos+1:=rfl
 have e2:(Aw y).deep=y.deep:=rfl
 exact⟨⟨⟨⟨hx.1.1.1.1,GF h.1.1.1 hl.2⟩,fun _=>by rw[e2];exact h.2 hb⟩,by omega⟩,hx.2⟩
theorem a5U(hx:wQ 2 (n+1) s x)(h:eqJ s.sg n x y k N)(hq:isG s.sg y 4 [40]=true)(hv:vlQ s.sg (pE s.sg n .value) [41] [k] (AS s.sg y [40]) v):
 eqJ s.sg n x (Ax v.2 ⟨5,[],v.1,false⟩) (AY v.2) (N-1)∧N-1<N:=by
 rw[EV hq,←JY hq] at hv
 have hw:=a5K h.1.1.1 hv
 exact b6h h hw hq
theorem a5V(hx:wQ 2 (n+1) s x)(h:eqJ s.sg n x y k N)(hp:isG s.sg y 4 [40]=false)(hq:isG s.sg (AS s.sg y [40]) 4 [46]=true):
 eqJ s.sg n x (Ax (Bh s.sg (AS s.sg (AS s.sg y [40]) [46]) 1) ⟨6,Bz s.sg (AS s.sg (AS s.sg y [40]) [46]) 1,[k],false⟩) (AY (Bh s.sg (AS s.sg (AS s.sg y [40]) [46]) 1)) (N-1)∧N-1<N:=by
 rw[Ea hp] at hq ⊢
 rw[EV hq]
 obtain⟨a,b⟩:=b8i hx.1.1.1.1 h.1 hp hq
 refine⟨⟨a,fun _=> ?_⟩,b⟩
 rw[YC]
 have:=h.2 (Dy hq (by omega)).1
 have e:(Bh s.sg (Aw y) 1).deep=y.deep:=by unfold Bh;split<;>rfl
 omega
theorem Zb(hx:wQ 2 (n+1) s x)(h:eqJ s.sg n x y k N):rOk s (AS s.sg y [40])∧rOk s (AS s.sg (AS s.sg y [40]) [46])∧rOk s (Bh s.sg (AS s.sg (AS s.sg y [40]) [46]) 1):=
 have a:=FY (m:=[40]) (a5T hx h)
 ⟨a,FY a,HW (FY a) (by omega)⟩
theorem b8H(h:eqJ s.sg n x y k N)(hb:y.bad=true):Ah s.sg x (pE s.sg (n+1) .fin) (k,y):=b5N h.1 hb
theorem b8I(h:eqJ s.sg n x y k N)(hb:y.bad=false)(hp:isG s.sg y 4 [40]=false)(hq:isG s.sg (AS s.sg y [40]) 4 [46]=false):Ah s.sg x (pE s.sg (n+1) .fin) (k,AS s.sg (AS s.sg y [40]) [46]):=by
 rw[Ea hp] at hq ⊢
 rw[Ea hq];exact b5R h.1 hb hp hq
attribute [local irreducible] pE Bw Dq fnR Ah BF gsOk AP CZ Ax Dz ER AS Ew EI AY Da pkG isG nmG kdG Bh Bz BQ vlQ lqJ saI arG eqJ
def Jp(n:Nat):Sig:= {X:=ST×Int×Int×Bool×List Nd,args:=fun x=>[srd x.1 (xg x)],pre:=fun x=>wQ 1 (n+1) x.1 (xg x),Y:=Int×Int×Int×Bool×List Nd,post:=fun x y=>Ah x.1.sg (xg x) (pE x.1.sg (n+1) .base) (yS y),res:=fun x y=> .q y.1,outs:=fun x y=>[srd x.1 (yG y.2)],keep:=true}
theorem b8J(n:Nat)(h:qAll G n):Ai G Tryz.prog 244 (Jp n):=
 vcFun_okP [(130,0,EA),(131,0,CL),(108,0,Bv),(135,0,Cb),(201,0,(GJ n)),(251,0,FZ),(136,0,GK),(134,0,BZ),(200,0,(IJ n)),(177,0,(MH n))] [(38,⟨Int,Bx⟩)] false (fun x=>[]) Tryz.func244 rfl (by decide) ⟨TE,Le,HV,HU,(YW n h),b8v,YX,IG,h.pick,h.val,trivial⟩ (fun(x:ST×Int×Int×Bool×List Nd)=>True∧Aa (xg x).bad (rA (Jp n) x [.q 0,srd x.1 (xg x)]) (cA EA [srd x.1 (xg x),.q 1] fun x_1 y=>Aa (kdG x_1.1.sg (xh x_1) x_1.2.2.2.2.2) (cA CL [srd x_1.1 (xh x_1),.q 1] fun x_2 y=>cA Bv [srd x_2.1 (Bh x_2.1.sg (xh x_2) x_2.2.2.2.2.2),.q 1,.str (Bz x_2.1.sg (xh x_2) x_2.2.2.2.2.2),Al []] fun x_3 y=>rA (Jp n) x [.q (AY (xh x_3)),srd x_3.1 (Ax (xh x_3) {kind:=x_3.2.2.2.2.2.1,text:=x_3.2.2.2.2.2.2.1,kids:=x_3.2.2.2.2.2.2.2,blank:=false})]) (cA EA [srd x_1.1 (xh x_1),.q 2] fun x_2 y=>Aa (kdG x_2.1.sg (xh x_2) x_2.2.2.2.2.2) (cA CL [srd x_2.1 (xh x_2),.q 2] fun x_3 y=>cA Bv [srd x_3.1 (Bh x_3.1.sg (xh x_3) x_3.2.2.2.2.2),.q 2,.str (Bz x_3.1.sg (xh x_3) x_3.2.2.2.2.2),Al []] fun x_4 y=>rA (Jp n) x [.q (AY (xh x_4)),srd x_4.1 (Ax (xh x_4) {kind:=x_4.2.2.2.2.2.1,text:=x_4.2.2.2.2.2.2.1,kids:=x_4.2.2.2.2.2.2.2,blank:=false})]) (cA EA [srd x_2.1 (xh x_2),.q 3] fun x_3 y=>Aa (kdG x_3.1.sg (xh x_3) x_3.2.2.2.2.2) (cA CL [srd x_3.1 (xh x_3),.q 3] fun x_4 y=>cA Bv [srd x_4.1 (Bh x_4.1.sg (xh x_4) x_4.2.2.2.2.2),.q 3,.str (Bz x_4.1.sg (xh x_4) x_4.2.2.2.2.2),Al []] fun x_5 y=>rA (Jp n) x [.q (AY (xh x_5)),srd x_5.1 (Ax (xh x_5) {kind:=x_5.2.2.2.2.2.1,text:=x_5.2.2.2.2.2.2.1,kids:=x_5.2.2.2.2.2.2.2,blank:=false})]) (cA Cb [srd x_3.1 (xh x_3),.str #[(91:UInt8)].toList] fun x_4 y=>Aa (isG x_4.1.sg (xh x_4) (4:Int) x_4.2.2.2.2.2) (cA (GJ n) [srd x_4.1 (AS x_4.1.sg (xh x_4) x_4.2.2.2.2.2),.str #[(93:UInt8)].toList,Al []] fun x_5 y=>cA Bv [srd x_5.1 (yG y.2),.q 4,.str #[].toList,Al y.1] fun x_6 y=>rA (Jp n) x [.q (AY (xh x_6)),srd x_6.1 (Ax (xh x_6) {kind:=x_6.2.2.2.2.2.1,text:=x_6.2.2.2.2.2.2.1,kids:=x_6.2.2.2.2.2.2.2,blank:=false})]) (cA FZ [srd x_4.1 (AS x_4.1.sg (xh x_4) x_4.2.2.2.2.2)] fun x_5 y=>Aa (arG x_5.1.sg (xg x_5)) (cA GK [srd x_5.1 (xg x_5)] fun x_6 y=>cA BZ [srd x_6.1 (yG y.2),.str #[(61:UInt8),62].toList] fun x_7 y_1=>cA (IJ n) [srd x_7.1 (AP x_7.1.sg (xh x_7) x_7.2.2.2.2.2)] fun x_8 y_2=>∃(x_9:Int),y_2.1=x_9∧∃(zs:List Int),Al [x_9]=Al zs∧BI Bx∧Bb (y.1.length+zs.length) (8:Nat)∧cA Bv [srd x_8.1 (yG y_2.2),.q 9,.str #[].toList,Al (y.1++zs)] fun x_10 y=>rA (Jp n) x [.q (AY (xh x_10)),srd x_10.1 (Ax (xh x_10) {kind:=x_10.2.2.2.2.2.1,text:=x_10.2.2.2.2.2.2.1,kids:=x_10.2.2.2.2.2.2.2,blank:=false})]) (cA BZ [srd x_5.1 (xg x_5),.str #[(40:UInt8)].toList] fun x_6 y=>Aa (AP x_6.1.sg (xh x_6) x_6.2.2.2.2.2).bad (rA (Jp n) x [.q 0,srd x_6.1 (AP x_6.1.sg (xh x_6) x_6.2.2.2.2.2)]) (cA (MH n) [srd x_6.1 (AP x_6.1.sg (xh x_6) x_6.2.2.2.2.2)] fun x_7 y=>cA BZ [srd x_7.1 (yG y.2),.str #[(41:UInt8)].toList] fun x_8 y_1=>∃(x_9:Int),y.1=x_9∧cA Bv [srd x_8.1 (AP x_8.1.sg (xh x_8) x_8.2.2.2.2.2),.q 11,.str #[].toList,Al [x_9]] fun x_10 y=>rA (Jp n) x [.q (AY (xh x_10)),srd x_10.1 (Ax (xh x_10) {kind:=x_10.2.2.2.2.2.1,text:=x_10.2.2.2.2.2.2.1,kids:=x_10.2.2.2.2.2.2.2,blank:=false})])))))))) (fun x=>by kernel_rfl) fun(x:ST×Int×Int×Bool×List Nd) (hx:wQ 1 (n+1) x.1 (xg x))=>(by
 dsimp only[cA,Br,Al,Bj,rA,FZ,Jp,EA,Cb,GK,IJ,Bv,CL,MH,GJ,BZ,Du,sgs,srd,As,Az,mvL,lnL,mvE,lnE,AV.q]
 obtain⟨s,p,d,b,ns⟩:=x;dsimp only[xg,xh] at hx ⊢
 have hx:wQ 1 (n+1) s ⟨p,d,b,ns⟩:=hx
 have h1:=hx.1.1.1;have hs:=h1.1
 (repeat' first|(with_reducible first|rfl|exact True.intro|apply AK|apply And.intro|((first|apply AA|apply AI|apply AB|apply AJ)<;>intro _))|(apply Av<;>intro _)|apply AH|refine Ae () ?_ ?_|((first|apply AO|apply AN|apply AM|apply AL|apply AG|apply AF|apply AE|apply AD|apply AC)<;>try dsimp only)|apply Ae|(refine Prod.forall.2 ?_;intro _;try dsimp only)|(intro _;try dsimp only))
 all_goals(try dsimp only[xg,xh,yG,yS,iG] at*)
 all_goals(try simp only[GG] at*)
 all_goals first
  |rfl
  |exact h1
  |omega
  |(simp;done)
  |exact a5J h1.2 ‹_›
  |exact b8x hs h1.2 ‹_›
  |exact a5S hs h1.2 (.inl rfl) ‹_›
  |exact a5S hs h1.2 (.inr rfl) ‹_›
  |exact HW h1 (by omega)
  |exact b8C hx ‹_›
  |exact b8y h1 ‹_› ‹_› ‹_› ‹_› ‹_›
  |exact YZ hs ‹_›
  |exact FY h1
  |exact b8D hx ‹_› ‹_› ‹_›
  |exact b8E hx ‹_› ‹_›
  |exact(Hh (FY h1)).1
  |exact FG h1 ‹_›
  |exact(Hh (FG h1 ‹_›)).1
  |exact b8z hx.2 h1 ‹_› ‹_› ‹_› ‹_› ‹_› ‹_› ‹_›
  |exact b8A hx.2 h1 ‹_› ‹_› ‹_› ‹_› ‹_› ‹_› ‹_›
  |exact b8B h1 ‹_› ‹_› ‹_› ‹_› ‹_› ‹_›
  |(have hq:=Za hs ‹vlQ _ _ _ [] _ _›;(try simp only[Bb,List.length_append,List.length_cons,List.length_nil] at*);omega)
  |skip)
def TR(n:Nat):Sig:= {X:=ST×Int×Int×Bool×List Nd,args:=fun x=>[srd x.1 (xg x)],pre:=fun x=>wQ 2 (n+1) x.1 (xg x),Y:=Int×Int×Int×Bool×List Nd,post:=fun x y=>Ah x.1.sg (xg x) (pE x.1.sg (n+1) .fin) (yS y),res:=fun x y=> .q y.1,outs:=fun x y=>[srd x.1 (yG y.2)],keep:=true}
def QP(n:Nat)(x:ST×Int×Int×Bool×List Nd):LS:= {ι:=Int×Int×Bool×List Nd×Int×Nat,inv:=fun i=>eqJ x.1.sg n (xg x) (iG i) i.2.2.2.2.1 i.2.2.2.2.2,regs:=fun i=>[(0,srd x.1 (iG i)),(3,.q i.2.2.2.2.1)],als:=[],meas:=fun i=>i.2.2.2.2.2}
theorem b8K(n:Nat)(h:qAll G n):Ai G Tryz.prog 233 (TR n):=
 vcFun_okP [(244,0,(TM n)),(135,0,Cb),(201,0,(GJ n)),(108,0,Bv),(131,0,CL)] [(38,⟨Int,Bx⟩)] false (fun x=>[(2,QP n x)]) Tryz.func233 rfl (by decide) ⟨h.base,HU,(YW n h),HV,Le,trivial⟩ (fun(x:ST×Int×Int×Bool×List Nd)=>True∧cA (TM n) [srd x.1 (xg x)] fun x_1 y=>eA (QP n x) [srd x_1.1 (yG y.2),.q y.1]∧∀(i:Int×Int×Bool×List Nd×Int×Nat),eqJ x.1.sg n (xg x) (iG i) i.2.2.2.2.1 i.2.2.2.2.2→Aa (!(iG i).bad) (cA Cb [srd x.1 (iG i),.str #[(40:UInt8)].toList] fun x_2 y=>Aa (isG x_2.1.sg (xh x_2) (4:Int) x_2.2.2.2.2.2) (∃(x_3:Int),i.2.2.2.2.1=x_3∧cA (GJ n) [srd x_2.1 (AS x_2.1.sg (xh x_2) x_2.2.2.2.2.2),.str #[(41:UInt8)].toList,Al [x_3]] fun x_4 y=>cA Bv [srd x_4.1 (yG y.2),.q 5,.str #[].toList,Al y.1] fun x_5 y=>eN (QP n x) i [srd x_5.1 (Ax (xh x_5) {kind:=x_5.2.2.2.2.2.1,text:=x_5.2.2.2.2.2.2.1,kids:=x_5.2.2.2.2.2.2.2,blank:=false}),.q (AY (xh x_5))]) (cA Cb [srd x_2.1 (AS x_2.1.sg (xh x_2) x_2.2.2.2.2.2),.str #[(46:UInt8)].toList] fun x_3 y=>Aa (isG x_3.1.sg (xh x_3) (4:Int) x_3.2.2.2.2.2) (cA CL [srd x_3.1 (AS x_3.1.sg (xh x_3) x_3.2.2.2.2.2),.q 1] fun x_4 y=>∃(x_5:Int),i.2.2.2.2.1=x_5∧cA Bv [srd x_4.1 (Bh x_4.1.sg (xh x_4) x_4.2.2.2.2.2),.q 6,.str (Bz x_4.1.sg (xh x_4) x_4.2.2.2.2.2),Al [x_5]] fun x_6 y=>eN (QP n x) i [srd x_6.1 (Ax (xh x_6) {kind:=x_6.2.2.2.2.2.1,text:=x_6.2.2.2.2.2.2.1,kids:=x_6.2.2.2.2.2.2.2,blank:=false}),.q (AY (xh x_6))]) (rA (TR n) x [.q i.2.2.2.2.1,srd x_3.1 (AS x_3.1.sg (xh x_3) x_3.2.2.2.2.2)]))) (rA (TR n) x [.q i.2.2.2.2.1,srd x.1 (iG i)])) (fun x=>by kernel_rfl) fun(x:ST×Int×Int×Bool×List Nd) (hx:wQ 2 (n+1) x.1 (xg x))=>(by
 dsimp only[cA,eA,eN,QP,Br,Al,Bj,rA,TM,TR,Cb,Bv,CL,GJ,Du,sgs,srd,As,Az,mvL,lnL,mvE,lnE,Bl,AV.q]
 obtain⟨s,p,d,b,ns⟩:=x;dsimp only[xg,xh] at hx ⊢
 have hx:wQ 2 (n+1) s ⟨p,d,b,ns⟩:=hx
 have h1:=hx.1.1.1;have hs:=h1.1
 (repeat' first|(with_reducible first|rfl|exact True.intro|apply AK|apply And.intro|((first|apply AA|apply AI|apply AB|apply AJ)<;>intro _))|(apply Av<;>intro _)|apply AH|refine Ae () ?_ ?_|((first|apply AO|apply AN|apply AM|apply AL|apply AG|apply AF|apply AE|apply AD|apply AC)<;>try dsimp only)|apply Ae|(refine Prod.forall.2 ?_;intro _;try dsimp only)|(intro _;try dsimp only))
 all_goals(try dsimp only[xg,xh,yG,yS,iG] at*)
 all_goals(try simp only[GG] at*)
 all_goals first
  |(show Nat;skip)
  |rfl
  |exact⟨b6i hx.1.1.1 hx.1.1.2 hx.1.2,hx.2⟩
  |exact b8F hx ‹_›
  |exact a5T hx ‹_›
  |exact b8G hx ‹_› ‹_›
  |exact(Zb hx ‹_›).1
  |exact(Zb hx ‹_›).2.1
  |exact(Zb hx ‹_›).2.2
  |exact YZ hs ‹_›
  |exact(a5U hx ‹_› ‹_› ‹_›).1
  |exact(a5V hx ‹_› ‹_› ‹_›).1
  |exact b8H ‹_› ‹_›
  |exact b8I ‹_› ‹_› ‹_› ‹_›
  |omega
  |(simp;done)
  |skip
 all_goals first
  |exact(a5U hx ‹_› ‹_› ‹_›).2
  |exact(a5V hx ‹_› ‹_› ‹_›).2
  |skip)
end Go.My
end
section
namespace Go.My
open Go.Eng Go.Proofs
variable {G:GInv}
variable {N l n:Nat}{b:Bool}{d i p:Int}{g x y:Gs}{ks:List Int}{m t:List UInt8}{ns:List Nd}{s:ST}{sg:List Sg}{z:Int×Gs}
theorem bt{a b:List UInt8}(h:(a==b)=true):a=b:=by simpa using h
theorem bf{a b:List UInt8}(h:(a==b)=false):a≠b:=by simpa using h
def csJ(sg:List Sg)(n l:Nat)(x y:Gs)(t:List UInt8)(ks:List Int)(N:Nat):Prop:=chS sg n l x y t ks N∧(y.bad=false→y.deep≤20)
theorem b8L{l:Int}(hx:wQ (9-l.toNat) (n+1) s x)(hl:l>5)(h6:l≤6):wQ 2 n s x:=by
 have e:l.toNat=6:=by omega
 have a:=hx.1.2
 rw[e] at a
 exact⟨⟨hx.1.1,by omega⟩,hx.2⟩
theorem b8M{l:Int}(hl:l>5)(h6:l≤6)(h:Ah s.sg x (pE s.sg n .fin) z):Ah s.sg x (pE s.sg (n+1) (.chain l.toNat)) z:=b6k (by omega) h
theorem b8N{l:Int}(hx:wQ (9-l.toNat) (n+1) s x)(h0:0≤l)(hl:¬l>5):wQ (9-(l+1).toNat) n s x:=⟨⟨hx.1.1,by have:=hx.1.2;omega⟩,hx.2⟩
theorem b8O{l:Int}(hx:wQ (9-l.toNat) (n+1) s x)(h0:0≤l)(hl:¬l>5)(hz:Ah s.sg x (pE s.sg n (.chain (l+1).toNat)) z):csJ s.sg n l.toNat x z.2 [] [z.1] (2*s.sg.length+4):=by
 rw[show(l+1).toNat=l.toNat+1 by omega] at hz
 exact⟨b8a hx.1.1.1.2 (by omega) hz,QH hz hx.1.1.2⟩
theorem a5W(hs:sgB s.sg)(h:csJ s.sg n l x y t ks N):rOk s y:=⟨hs,h.1.1.1⟩
theorem a5X(hs:sgB s.sg)(h:csJ s.sg n l x y t ks N)(hq:mkQ s.sg y l i m):rOk s (gM y m):=by
 unfold gM;split
 ·exact a5W hs h
 ·rename_i hm
  rcases hq.2 with h2|h2
  ·exact(hm h2.1).elim
  ·have hg:=(KZ (sg:=s.sg) (l:=l) (g:=y) (by rw[←h2.2];exact hm)).1
   exact⟨hs,GF h.1.1.1 (Dy hg (by omega)).2⟩
theorem a5Y{l:Int}(hx:wQ (9-l.toNat) (n+1) s x)(h0:0≤l)(hl:¬l>5)(h:csJ s.sg n l.toNat x y t ks N)(hq:mkQ s.sg y l.toNat i m)(hm:m≠[]):wQ (9-(l+1).toNat) n s (gM y m):=by
 have hr:=a5X hx.1.1.1.1 h hq
 rw[TI hm] at hr ⊢
 rcases hq.2 with h2|h2
 ·exact(hm h2.1).elim
 ·have hg:=(KZ (sg:=s.sg) (l:=l.toNat) (g:=y) (by rw[←h2.2];exact hm)).1
  have hb:=Dy hg (by omega)
  have e1:(Aw y).pos=y.pos+1:=rfl
  have e2:(Aw y).deep=y.deep:=rfl
  have:=h.1.1.2.2.1;have:=hx.1.2;have:=h.2 hb.1
  exact⟨⟨⟨hr,fun _=>by omega⟩,by omega⟩,hx.2⟩
theorem b8P{l:Int}(hx:wQ (9-l.toNat) (n+1) s x)(h0:0≤l)(hl:¬l>5)(h:csJ s.sg n l.toNat x y t ks N)(hq:mkQ s.sg y l.toNat i m)(hm:m≠[])(ht:t≠[]):wQ (9-(l+1).toNat) n s (Ax (gM y m) ⟨7,t,ks,false⟩):=by
 have a:=a5Y hx h0 hl h hq hm
 obtain⟨d1,d2,d3⟩:= @JV (gM y m) ⟨7,t,ks,false⟩
 have hw:=YP (ks:=ks) hx.1.1.1.1 (h.1.2.2.2.2.2 ht).2 (by have:=h.1.2.2.1;have:=h.1.1.1.1;omega)
 exact⟨⟨⟨⟨a.1.1.1.1,QA a.1.1.1.2 hw⟩,fun hb=>by rw[d1];exact a.1.1.2 (d3 hb)⟩,by rw[d2];exact a.1.2⟩,a.2⟩
theorem TS{l:Int}(h0:0≤l)(h:csJ s.sg n l.toNat x y t ks N)(hq:mkQ s.sg y l.toNat i m)(hi:¬i<((BN l.toNat).length:Int))(hm:m≠[])(ht:t=[]∨m=t)
 (hz:Ah s.sg (gM y m) (pE s.sg n (.chain (l+1).toNat)) z):csJ s.sg n l.toNat x z.2 m (ks++[z.1]) (N-1)∧N-1<N:=by
 have e:=TJ hq hi
 rw[TI hm,show(l+1).toNat=l.toNat+1 by omega] at hz
 obtain⟨a,b⟩:=b8b h.1 (by rw[←e];exact hm) (by rw[←e];exact ht) hz
 rw[←e] at a
 have hg:=(KZ (sg:=s.sg) (l:=l.toNat) (g:=y) (by rw[←e];exact hm)).1
 exact⟨⟨a,QH hz (fun _=>h.2 (Dy hg (by omega)).1)⟩,b⟩
theorem a5Z{l:Int}(hs:sgB s.sg)(h0:0≤l)(h:csJ s.sg n l.toNat x y t ks N)(hq:mkQ s.sg y l.toNat i m)(hi:¬i<((BN l.toNat).length:Int))(hm:m≠[])(ht:t≠[])(hne:m≠t)
 (hz:Ah s.sg (Ax (gM y m) ⟨7,t,ks,false⟩) (pE s.sg n (.chain (l+1).toNat)) z):csJ s.sg n l.toNat x z.2 m ([AY (gM y m)]++[z.1]) (N-2)∧N-2<N:=by
 have e:=TJ hq hi
 rw[TI hm] at hz ⊢
 rw[show(l+1).toNat=l.toNat+1 by omega] at hz
 obtain⟨a,b⟩:=b8c hs h.1 (by rw[←e];exact hm) ht (by rw[←e];exact hne) hz
 rw[←e] at a
 have hg:=(KZ (sg:=s.sg) (l:=l.toNat) (g:=y) (by rw[←e];exact hm)).1
 refine⟨⟨a,QH hz (fun hb=> ?_)⟩,b⟩
 rw[YC];exact h.2 (Dy hg (by omega)).1
theorem b8Q{k:Int}(h:csJ s.sg n l x y t ks N)(hq:mkQ s.sg y l i m)(hi:¬i<((BN l).length:Int))(hm:m=[])(hl:(ks.length:Int)=1)(hk:ks[(0:Int).toNat]? =some k):Ah s.sg x (pE s.sg (n+1) (.chain l)) (k,gM y m):=by
 have e:=TJ hq hi
 subst hm
 exact a5H h.1 (.inr e.symm) (by omega) hk
theorem b8R(hs:sgB s.sg)(h:csJ s.sg n l x y t ks N)(hq:mkQ s.sg y l i m)(hi:¬i<((BN l).length:Int))(hm:m=[])(hl:(ks.length:Int)≠1):Ah s.sg x (pE s.sg (n+1) (.chain l)) (AY (gM y m),Ax (gM y m) ⟨7,t,ks,false⟩):=by
 have e:=TJ hq hi
 subst hm
 exact a5I hs h.1 (.inr e.symm) (by omega)
theorem b8S{k:Int}(h:csJ s.sg n l x y t ks N)(hb:y.bad=true)(hl:(ks.length:Int)=1)(hk:ks[(0:Int).toNat]? =some k):Ah s.sg x (pE s.sg (n+1) (.chain l)) (k,y):=a5H h.1 (.inl hb) (by omega) hk
theorem b8T(hs:sgB s.sg)(h:csJ s.sg n l x y t ks N)(hb:y.bad=true)(hl:(ks.length:Int)≠1):Ah s.sg x (pE s.sg (n+1) (.chain l)) (AY y,Ax y ⟨7,t,ks,false⟩):=a5I hs h.1 (.inl hb) (by omega)
theorem b8U(hs:sgB s.sg)(h:csJ s.sg n l x y t ks N):ks.length≤3001∧1≤ks.length:=by
 have h1:=h.1.2.2.1;have h2:=h.1.1.1.1.2;have h3:=hs.1
 refine⟨by omega,?_⟩
 rcases Classical.em (t=[]) with e|e
 ·have:=h.1.2.2.2.2.1 e;omega
 ·have:=(h.1.2.2.2.2.2 e).1;omega
theorem b8V(h:mkQ sg y l i m):(0≤i∧i≤(BN l).length)∧(BN l).length≤2:=⟨h.1,b6f⟩
theorem Lf{v:List UInt8}(h:mkQ sg y l i m)(hm:m=[])(ha:(BN l)[i.toNat]? =some v)(hg:isG sg (gM y m) 4 v=true):
 (AS sg (gM y m) v).pos=(gM y v).pos∧(AS sg (gM y m) v).bad=(gM y v).bad∧(AS sg (gM y m) v).deep=(gM y v).deep∧(AS sg (gM y m) v).nodes=(gM y v).nodes:=by
 rw[(YR h hm ha hg).2];exact⟨rfl,rfl,rfl,rfl⟩
theorem b8W{f:Ps→PR}(hd:d≤20)(h:d+1>20)(hz:Ah sg ⟨p,d+1,true,ns⟩ f z):Ah sg (pkX ⟨p,d,b,ns⟩) f z:=by
 have e:pkX ⟨p,d,b,ns⟩=⟨p,d+1,true,ns⟩:=by simp only[pkX];rw[if_pos (show d=20 by omega)];rfl
 rw[e];exact hz
theorem b8X{f:Ps→PR}(h:¬d+1>20)(hz:Ah sg ⟨p,d+1,b,ns⟩ f z):Ah sg (pkX ⟨p,d,b,ns⟩) f z:=by
 have e:pkX ⟨p,d,b,ns⟩=⟨p,d+1,b,ns⟩:=by simp only[pkX];rw[if_neg (show¬d=20 by omega)];rfl
 rw[e];exact hz
theorem b8Y(hx:vQ 10 (n+1) s ⟨p,d,b,ns⟩)(h:d+1>20):wQ (9-(0:Int).toNat) n s ⟨p,d+1,true,ns⟩:=by
 have a:=(a4Z hx.1.1.1 hx.1.1.2 hx.1.2).1
 have hd:=hx.1.1.2;simp only at hd
 have e:pkX ⟨p,d,b,ns⟩=⟨p,d+1,true,ns⟩:=by simp only[pkX];rw[if_pos (show d=20 by omega)];rfl
 rw[e] at a;exact⟨a,hx.2⟩
theorem b8Z(hx:vQ 10 (n+1) s ⟨p,d,b,ns⟩)(h:¬d+1>20):wQ (9-(0:Int).toNat) n s ⟨p,d+1,b,ns⟩:=by
 have a:=(a4Z hx.1.1.1 hx.1.1.2 hx.1.2).1
 have e:pkX ⟨p,d,b,ns⟩=⟨p,d+1,b,ns⟩:=by simp only[pkX];rw[if_neg (show¬d=20 by omega)];rfl
 rw[e] at a;exact⟨a,hx.2⟩
theorem b9a(hx:vQ 11 (n+1) s x)(h:vaJ s.sg n x y ks N)(hq:isG s.sg y 4 [46,46]=true):
 wQ 11 n s (AP s.sg (Ax (Bh s.sg (AS s.sg y [46,46]) 1) ⟨1,Bz s.sg (AS s.sg y [46,46]) 1,[],false⟩) [40]):=by
 have hr:=YD hx.1.1.1 h
 have a:=Ox (m:=[46,46]) hr
 have e:=Dh a
 have t:=HT (m:=[40]) (Gt a)
 rw[EV hq] at a e t ⊢
 simp only at e t
 have e1:(Aw y).pos=y.pos+1:=rfl
 have e2:(Aw y).deep=y.deep:=rfl
 have:=h.1.1.2.2.1;have:=h.2;have:=hx.1.2
 exact⟨⟨⟨⟨hx.1.1.1.1,t.1⟩,fun _=>by omega⟩,by omega⟩,hx.2⟩
theorem a6a{v:List Int×Gs}(hs:sgB s.sg)(h:vaJ s.sg n x y ks N)(hq:isG s.sg y 4 [46,46]=true)
 (hv:vlQ s.sg (pE s.sg n .value) [41] [AY (Bh s.sg (AS s.sg y [46,46]) 1)] (AP s.sg (Ax (Bh s.sg (AS s.sg y [46,46]) 1) ⟨1,Bz s.sg (AS s.sg y [46,46]) 1,[],false⟩) [40]) v):
 vaJ s.sg n x (Ax v.2 ⟨5,[],v.1,false⟩) (ks++[AY v.2]) (N-1)∧N-1<N:=by
 have a:=Ox (m:=[46,46]) (show rOk s y from⟨hs,h.1.1.1⟩)
 have hw:=a5K (Gt a) hv
 have e:=(Dh a).1
 rw[EV hq] at a e
 obtain⟨c1,c2⟩:=Om (b8j h.1 hq a (by rw[EV hq] at hw;exact hw))
 have e2:(Aw y).deep=y.deep:=rfl
 have e3:=(Dh hw).1
 rw[EV hq] at e3
 have:=h.2
 exact⟨a5b ⟨c1,by simp only at*;omega⟩,c2⟩
theorem Zd(hs:sgB s.sg)(h:vaJ s.sg n x y ks N):rOk s (AS s.sg y [46,46])∧rOk s (Bh s.sg (AS s.sg y [46,46]) 1)∧rOk s (Ax (Bh s.sg (AS s.sg y [46,46]) 1) ⟨1,Bz s.sg (AS s.sg y [46,46]) 1,[],false⟩):=
 have hr:rOk s y:=⟨hs,h.1.1.1⟩
 ⟨FY hr,HW (FY hr) (by omega),YU hr⟩
def lqI(s:ST)(e:Int)(j:Int×Int×Bool×List Nd×List UInt8×List Int×Nat):LS:= {
 ι:=Int×List UInt8,inv:=fun i=>mkQ s.sg (iF j) e.toNat i.1 i.2,regs:=fun i=>[(0,srd s (gM (iF j) i.2)),(1,.int .i64 e),(5,Al j.2.2.2.2.2.1),(6,.str j.2.2.2.2.1),(7,.sl false 0 1 (List UInt8) Be (BN e.toNat)),(8,.str i.2),(9,.int .i64 i.1)],als:=[],meas:=fun i=>(BN e.toNat).length-i.1.toNat}
def lqO(n:Nat)(x:ST×Int×Int×Bool×List Nd×Int):LS:= {
 ι:=Int×Int×Bool×List Nd×List UInt8×List Int×Nat,inv:=fun i=>csJ x.1.sg n x.2.2.2.2.2.toNat (xh x) (iF i) i.2.2.2.2.1 i.2.2.2.2.2.1 i.2.2.2.2.2.2,regs:=fun i=>[(0,srd x.1 (iF i)),(1,.int .i64 x.2.2.2.2.2),(5,Al i.2.2.2.2.2.1),(6,.str i.2.2.2.2.1),(7,.sl false 0 1 (List UInt8) Be (BN x.2.2.2.2.2.toNat))],als:=[],meas:=fun i=>i.2.2.2.2.2.2,
 sub:=fun j=>[(9,lqI x.1 x.2.2.2.2.2 j)]}
attribute [local irreducible] pE Bw Dq fnR Ah BF gsOk AP CZ Ax Dz ER AS Ew EI AY Da pkG isG nmG kdG Bh Bz BQ vlQ lqJ saI arG eqJ csJ mkQ gM vaJ
def IL:Sig:= {X:=Int,args:=fun x=>[.q x],pre:=fun x=>0≤x∧x≤5,Y:=Unit,post:=fun x y=>True,res:=fun x y=> .sl false 0 1 (List UInt8) Be (BN x.toNat),outs:=fun x y=>[.top],keep:=true}
theorem b9b:Ai G Tryz.prog 234 IL:=
 vcFun_okP [] [(42,⟨List UInt8,Be⟩)] false (fun x=>[]) Tryz.func234 rfl (by decide) trivial (fun(x:Int)=>True∧Aa (x==0) (∃(x_1:List UInt8),#[(124:UInt8),124].toList=x_1∧rA IL x [AV.sl true 0 1 (List UInt8) Be [x_1],.top]) (Aa (x==1) (∃(x_1:List UInt8),#[(38:UInt8),38].toList=x_1∧rA IL x [AV.sl true 0 1 (List UInt8) Be [x_1],.top]) (Aa (x==2) (∃(x_1:List UInt8),#[(61:UInt8),61].toList=x_1∧rA IL x [AV.sl true 0 1 (List UInt8) Be [x_1],.top]) (Aa (x==3) (∃(x_1:List UInt8),#[(60:UInt8)].toList=x_1∧rA IL x [AV.sl true 0 1 (List UInt8) Be [x_1],.top]) (Aa (x==4) (∃(x_1:List UInt8),#[(43:UInt8)].toList=x_1∧∃(x_2:List UInt8),#[(45:UInt8)].toList=x_2∧rA IL x [AV.sl true 0 1 (List UInt8) Be [x_1,x_2],.top]) (∃(x_1:List UInt8),#[(42:UInt8)].toList=x_1∧rA IL x [AV.sl true 0 1 (List UInt8) Be [x_1],.top])))))) (fun x=>by kernel_rfl) fun(x:Int) (hx:0≤x∧x≤5)=>(by
 dsimp only[rA,IL,As,Az,AV.q]
 obtain⟨h1,h2⟩:=hx
 have hh:x=0∨x=1∨x=2∨x=3∨x=4∨x=5:=by omega
 rcases hh with rfl|rfl|rfl|rfl|rfl|rfl
 all_goals(repeat' first|(with_reducible first|rfl|exact True.intro|apply AK|apply And.intro|((first|apply AA|apply AI|apply AB|apply AJ)<;>intro _))|(apply Av<;>intro _)|apply AH|refine Ae () ?_ ?_|((first|apply AO|apply AN|apply AM|apply AL|apply AG|apply AF|apply AE|apply AD|apply AC)<;>try dsimp only)|apply Ae|(refine Prod.forall.2 ?_;intro _;try dsimp only)|(intro _;try dsimp only))
 all_goals first
  |rfl
  |omega
  |(simp [Bb];done)
  |skip)
def MI(n:Nat):Sig:= {X:=ST×Int×Int×Bool×List Nd×Int,args:=fun x=>[srd x.1 (xh x),.q x.2.2.2.2.2],pre:=fun x=>wQ (9-x.2.2.2.2.2.toNat) (n+1) x.1 (xh x)∧0≤x.2.2.2.2.2∧x.2.2.2.2.2≤6,Y:=Int×Int×Int×Bool×List Nd,post:=fun x y=>Ah x.1.sg (xh x) (pE x.1.sg (n+1) (.chain x.2.2.2.2.2.toNat)) (yS y),res:=fun x y=> .q y.1,outs:=fun x y=>[srd x.1 (yG y.2),.top],keep:=true}
def Ze(n:Nat)(x:ST×Int×Int×Bool×List Nd×Int)(i:Int×Int×Bool×List Nd×List UInt8×List Int×Nat)(i_1:Int×List UInt8):Prop:=cA (IK n) [srd x.1 (gM (iF i) i_1.2),.q (x.2.2.2.2.2+(1:Int))] fun x_4 y=>∃(x_5:Int),y.1=x_5∧(∃(zs:List Int),Al [x_5]=Al zs∧(BI Bx∧(Bb (i.2.2.2.2.2.1.length+zs.length) (8:Nat)∧(eN (lqO n x) i [srd x_4.1 (yG y.2),.q x.2.2.2.2.2,Al (i.2.2.2.2.2.1++zs),.str i_1.2,AV.sl false 0 1 (List UInt8) Be (BN (Int.toNat x.2.2.2.2.2))]))))
theorem b9c(n:Nat)(h:qAll G n):Ai G Tryz.prog 222 (MI n):=
 vcFun_okP [(233,0,(TK n)),(222,0,(IK n)),(234,0,IL),(135,0,Cb),(108,0,Bv)] [(38,⟨Int,Bx⟩),(42,⟨List UInt8,Be⟩)] false (fun x=>[(6,lqO n x)]) Tryz.func222 rfl (by decide) ⟨h.fin,h.chain,b9b,HU,HV,trivial⟩ (fun(x:ST×Int×Int×Bool×List Nd×Int)=>True∧Aa (decide (x.2.2.2.2.2>(5:Int))) (cA (TK n) [srd x.1 (xh x)] fun x_1 y=>rA (MI n) x [.q y.1,srd x_1.1 (yG y.2),.top]) (inR .i64 (x.2.2.2.2.2+(1:Int))∧cA (IK n) [srd x.1 (xh x),.q (x.2.2.2.2.2+(1:Int))] fun x_1 y=>∃(x_2:Int),y.1=x_2∧cA IL [.q x.2.2.2.2.2] fun x_3 y_1=>eA (lqO n x) [srd x_1.1 (yG y.2),.q x.2.2.2.2.2,Al [x_2],.str #[].toList,AV.sl false 0 1 (List UInt8) Be (BN (Int.toNat x_3))]∧∀(i:Int×Int×Bool×List Nd×List UInt8×List Int×Nat),csJ x.1.sg n (Int.toNat x.2.2.2.2.2) (xh x) (iF i) i.2.2.2.2.1 i.2.2.2.2.2.1 i.2.2.2.2.2.2→Aa (!(iF i).bad) (eA (lqI x.1 x.2.2.2.2.2 i) [srd x.1 (iF i),.q x.2.2.2.2.2,Al i.2.2.2.2.2.1,.str i.2.2.2.2.1,AV.sl false 0 1 (List UInt8) Be (BN (Int.toNat x.2.2.2.2.2)),.str #[].toList,.q 0]∧∀(i_1:Int×List UInt8),mkQ x.1.sg (iF i) (Int.toNat x.2.2.2.2.2) i_1.1 i_1.2→Aa (decide (i_1.1<(↑((BN (Int.toNat x.2.2.2.2.2)).length):Int))) (Aa (i_1.2== #[].toList) ((0≤i_1.1∧i_1.1<(↑((BN (Int.toNat x.2.2.2.2.2)).length):Int))∧∀(e:List UInt8),(BN (Int.toNat x.2.2.2.2.2))[Int.toNat i_1.1]? =some e→cA Cb [srd x.1 (gM (iF i) i_1.2),.str e] fun x_4 y=>Aa (isG x_4.1.sg (xh x_4) (4:Int) x_4.2.2.2.2.2) ((0≤i_1.1∧i_1.1<(↑((BN (Int.toNat x.2.2.2.2.2)).length):Int))∧∀(e:List UInt8),(BN (Int.toNat x.2.2.2.2.2))[Int.toNat i_1.1]? =some e→inR .i64 (i_1.1+(1:Int))∧eN (lqI x.1 x.2.2.2.2.2 i) i_1 [srd x_4.1 (AS x_4.1.sg (xh x_4) x_4.2.2.2.2.2),.q x.2.2.2.2.2,Al i.2.2.2.2.2.1,.str i.2.2.2.2.1,AV.sl false 0 1 (List UInt8) Be (BN (Int.toNat x.2.2.2.2.2)),.str e,.q (i_1.1+(1:Int))]) (inR .i64 (i_1.1+(1:Int))∧eN (lqI x.1 x.2.2.2.2.2 i) i_1 [srd x_4.1 (AS x_4.1.sg (xh x_4) x_4.2.2.2.2.2),.q x.2.2.2.2.2,Al i.2.2.2.2.2.1,.str i.2.2.2.2.1,AV.sl false 0 1 (List UInt8) Be (BN (Int.toNat x.2.2.2.2.2)),.str i_1.2,.q (i_1.1+(1:Int))])) (inR .i64 (i_1.1+(1:Int))∧eN (lqI x.1 x.2.2.2.2.2 i) i_1 [srd x.1 (gM (iF i) i_1.2),.q x.2.2.2.2.2,Al i.2.2.2.2.2.1,.str i.2.2.2.2.1,AV.sl false 0 1 (List UInt8) Be (BN (Int.toNat x.2.2.2.2.2)),.str i_1.2,.q (i_1.1+(1:Int))])) (Aa (i_1.2== #[].toList) (Aa ((i.2.2.2.2.2.1.length:Int)==(1:Int)) (((0:Int)≤(0:Int)∧0<(i.2.2.2.2.2.1.length:Int))∧(0:Nat)<i.2.2.2.2.2.1.length∧∀(x_4:Int),i.2.2.2.2.2.1[(0:Nat)]? =some x_4→rA (MI n) x [.q x_4,srd x.1 (gM (iF i) i_1.2),.top]) (cA Bv [srd x.1 (gM (iF i) i_1.2),.q 7,.str i.2.2.2.2.1,Al i.2.2.2.2.2.1] fun x_4 y=>rA (MI n) x [.q (AY (xh x_4)),srd x_4.1 (Ax (xh x_4) {kind:=x_4.2.2.2.2.2.1,text:=x_4.2.2.2.2.2.2.1,kids:=x_4.2.2.2.2.2.2.2,blank:=false}),.top])) (Aa (!i.2.2.2.2.1== #[].toList) (Aa (!i_1.2==i.2.2.2.2.1) (cA Bv [srd x.1 (gM (iF i) i_1.2),.q 7,.str i.2.2.2.2.1,Al i.2.2.2.2.2.1] fun x_4 y=>∃(x_5:Int),AY (xh x_4)=x_5∧inR .i64 (x.2.2.2.2.2+(1:Int))∧cA (IK n) [srd x_4.1 (Ax (xh x_4) {kind:=x_4.2.2.2.2.2.1,text:=x_4.2.2.2.2.2.2.1,kids:=x_4.2.2.2.2.2.2.2,blank:=false}),.q (x.2.2.2.2.2+(1:Int))] fun x_6 y=>∃(x_7:Int),y.1=x_7∧∃(zs:List Int),Al [x_7]=Al zs∧BI Bx∧Bb (List.length [x_5]+zs.length) (8:Nat)∧eN (lqO n x) i [srd x_6.1 (yG y.2),.q x.2.2.2.2.2,Al ([x_5]++zs),.str i_1.2,AV.sl false 0 1 (List UInt8) Be (BN (Int.toNat x.2.2.2.2.2))]) (inR .i64 (x.2.2.2.2.2+(1:Int))∧(Ze n x i i_1))) (inR .i64 (x.2.2.2.2.2+(1:Int))∧(Ze n x i i_1))))) (Aa ((i.2.2.2.2.2.1.length:Int)==(1:Int)) (((0:Int)≤(0:Int)∧0<(i.2.2.2.2.2.1.length:Int))∧(0:Nat)<i.2.2.2.2.2.1.length∧∀(x_4:Int),i.2.2.2.2.2.1[(0:Nat)]? =some x_4→rA (MI n) x [.q x_4,srd x.1 (iF i),.top]) (cA Bv [srd x.1 (iF i),.q 7,.str i.2.2.2.2.1,Al i.2.2.2.2.2.1] fun x_4 y=>rA (MI n) x [.q (AY (xh x_4)),srd x_4.1 (Ax (xh x_4) {kind:=x_4.2.2.2.2.2.1,text:=x_4.2.2.2.2.2.2.1,kids:=x_4.2.2.2.2.2.2.2,blank:=false}),.top])))) (fun x=>by kernel_rfl) fun(x:ST×Int×Int×Bool×List Nd×Int) (hx:wQ (9-x.2.2.2.2.2.toNat) (n+1) x.1 (xh x)∧0≤x.2.2.2.2.2∧x.2.2.2.2.2≤6)=>(by
 dsimp only[Ze,cA,eA,eN,lqI,lqO,Br,Al,Bj,rA,IK,MI,TK,IL,Cb,Bv,Du,sgs,srd,As,Az,mvL,lnL,mvE,lnE,Bl,AV.q]
 obtain⟨s,p,d,b,ns,e⟩:=x;dsimp only[xg,xh] at hx ⊢
 obtain⟨hx,h4,h5⟩:=hx
 have hx:wQ (9-e.toNat) (n+1) s ⟨p,d,b,ns⟩:=hx
 have h1:=hx.1.1.1;have hs:=h1.1
 (repeat' first|(with_reducible first|rfl|exact True.intro|apply AK|apply And.intro|((first|apply AA|apply AI|apply AB|apply AJ)<;>intro _))|(apply Av<;>intro _)|apply AH|refine Ae () ?_ ?_|((first|apply AO|apply AN|apply AM|apply AL|apply AG|apply AF|apply AE|apply AD|apply AC)<;>try dsimp only)|apply Ae|(refine Prod.forall.2 ?_;intro _;try dsimp only)|(intro _;try dsimp only))
 all_goals(try dsimp only[xg,xh,yG,yS,iG,iF] at*)
 all_goals(try simp only[GG] at*)
 all_goals first
  |(show Nat;skip)
  |rfl
  |assumption
  |exact h1
  |exact b8L hx ‹_› h5
  |exact b8M ‹_› h5 ‹_›
  |exact b8N hx h4 ‹_›
  |exact b8O hx h4 ‹_› ‹_›
  |exact a5W hs ‹_›
  |exact a5X hs ‹_› ‹_›
  |exact b8d
  |(simp only[YQ];done)
  |exact(Lf ‹_› ‹_› ‹_› ‹_›).1
  |exact(Lf ‹_› ‹_› ‹_› ‹_›).2.1
  |exact(Lf ‹_› ‹_› ‹_› ‹_›).2.2.1
  |exact(Lf ‹_› ‹_› ‹_› ‹_›).2.2.2
  |exact b8e ‹_› ‹_› ‹_› ‹_›
  |exact(YR ‹_› ‹_› ‹_› ‹_›).1
  |exact b8f ‹_› ‹_› ‹_›
  |exact a5Y hx h4 ‹_› ‹_› ‹_› ‹_›
  |exact b8P hx h4 ‹_› ‹_› ‹_› ‹_› (bf ‹_›)
  |exact(a5Z hs h4 ‹_› ‹_› ‹_› ‹_› (bf ‹_›) (bf ‹_›) ‹_›).1
  |exact(TS h4 ‹_› ‹_› ‹_› ‹_› (.inl (bt ‹_›)) ‹_›).1
  |exact(TS h4 ‹_› ‹_› ‹_› ‹_› (.inr (bt ‹_›)) ‹_›).1
  |exact b8Q ‹_› ‹_› ‹_› ‹_› ‹_› ‹_›
  |exact b8R hs ‹_› ‹_› ‹_› ‹_› ‹_›
  |exact b8S ‹_› ‹_› ‹_› ‹_›
  |exact b8T hs ‹_› ‹_› ‹_›
  |((try simp only[An]);omega)
  |(have hq:=b8V ‹mkQ _ _ _ _ _›;(try simp only[An]);omega)
  |(have hq:=b8U hs ‹csJ _ _ _ _ _ _ _ _›;(try simp only[Bb,List.length_append,List.length_cons,List.length_nil]);omega)
  |skip
 all_goals first
  |exact(a5Z hs h4 ‹_› ‹_› ‹_› ‹_› (bf ‹_›) (bf ‹_›) ‹_›).2
  |exact(TS h4 ‹_› ‹_› ‹_› ‹_› (.inl (bt ‹_›)) ‹_›).2
  |exact(TS h4 ‹_› ‹_› ‹_› ‹_› (.inr (bt ‹_›)) ‹_›).2
  |(simp only[YQ];done)
  |skip
 all_goals(try(repeat(rename(BN _)[_]? =some _=>hq;revert hq;rename(BN _)[_]? =some _=>hr;intro hq;rw[hr] at hq;cases hq)))
 all_goals first
  |exact(YR ‹_› ‹_› ‹_› ‹_›).1
  |exact(Lf ‹_› ‹_› ‹_› ‹_›).1
  |exact(Lf ‹_› ‹_› ‹_› ‹_›).2.1
  |exact(Lf ‹_› ‹_› ‹_› ‹_›).2.2.1
  |exact(Lf ‹_› ‹_› ‹_› ‹_›).2.2.2
  |(rw[Ea ‹_›];done)
  |skip)
def Oy(n:Nat):Sig:= {X:=ST×Int×Int×Bool×List Nd,args:=fun x=>[srd x.1 (xg x)],pre:=fun x=>vQ 10 (n+1) x.1 (xg x),Y:=Int×Int×Int×Bool×List Nd,post:=fun x y=>Ah x.1.sg (xg x) (pE x.1.sg (n+1) .pick) (yS y),res:=fun x y=> .q y.1,outs:=fun x y=>[srd x.1 (yG y.2)],keep:=true}
def Zf(n:Nat)(x:ST×Int×Int×Bool×List Nd)(x_2:Cb.X)(y:(IK n).Y):Prop:=cA (IJ n) [srd x_2.1 (AS x_2.1.sg (xh x_2) x_2.2.2.2.2.2)] fun x_3 y_2=>cA BZ [srd x_3.1 (yG y_2.2),.str #[(58:UInt8)].toList] fun x_4 y_3=>cA (IJ n) [srd x_4.1 (AP x_4.1.sg (xh x_4) x_4.2.2.2.2.2)] fun x_5 y_4=>∃(x_6:Int),y.1=x_6∧(∃(x_7:Int),y_2.1=x_7∧(∃(x_8:Int),y_4.1=x_8∧(cA Bv [srd x_5.1 (yG y_4.2),.q 8,.str #[].toList,Al [x_6,x_7,x_8]] fun x_9 y=>inR .i64 ((Ax (xh x_9) {kind:=x_9.2.2.2.2.2.1,text:=x_9.2.2.2.2.2.2.1,kids:=x_9.2.2.2.2.2.2.2,blank:=false}).deep-1)∧(rA (Oy n) x [.q (AY (xh x_9)),.box 0 [sgs x_9.1.sg,.q (Ax (xh x_9) {kind:=x_9.2.2.2.2.2.1,text:=x_9.2.2.2.2.2.2.1,kids:=x_9.2.2.2.2.2.2.2,blank:=false}).pos,.bool (Ax (xh x_9) {kind:=x_9.2.2.2.2.2.1,text:=x_9.2.2.2.2.2.2.1,kids:=x_9.2.2.2.2.2.2.2,blank:=false}).bad,.q ((Ax (xh x_9) {kind:=x_9.2.2.2.2.2.1,text:=x_9.2.2.2.2.2.2.1,kids:=x_9.2.2.2.2.2.2.2,blank:=false}).deep-1),Bj (Ax (xh x_9) {kind:=x_9.2.2.2.2.2.1,text:=x_9.2.2.2.2.2.2.1,kids:=x_9.2.2.2.2.2.2.2,blank:=false}).nodes]]))))
theorem b9d(n:Nat)(h:qAll G n):Ai G Tryz.prog 200 (Oy n):=
 vcFun_okP [(222,0,(IK n)),(135,0,Cb),(200,0,(IJ n)),(134,0,BZ),(108,0,Bv)] [(38,⟨Int,Bx⟩)] false (fun x=>[]) Tryz.func200 rfl (by decide) ⟨h.chain,HU,h.pick,IG,HV,trivial⟩ (fun(x:ST×Int×Int×Bool×List Nd)=>True∧Aa (xg x).bad (rA (Oy n) x [.q 0,srd x.1 (xg x)]) (inR .i64 ((xg x).deep+1)∧Aa (decide ((xg x).deep+1>(20:Int))) (cA (IK n) [.box 0 [sgs x.1.sg,.q (xg x).pos,.bool true,.q ((xg x).deep+1),Bj (xg x).nodes],.q 0] fun x_1 y=>cA Cb [srd x_1.1 (yG y.2),.str #[(63:UInt8)].toList] fun x_2 y_1=>Aa (isG x_2.1.sg (xh x_2) (4:Int) x_2.2.2.2.2.2) (Zf n x x_2 y) (inR .i64 ((AS x_2.1.sg (xh x_2) x_2.2.2.2.2.2).deep-1)∧(rA (Oy n) x [.q y.1,.box 0 [sgs x_2.1.sg,.q (AS x_2.1.sg (xh x_2) x_2.2.2.2.2.2).pos,.bool (AS x_2.1.sg (xh x_2) x_2.2.2.2.2.2).bad,.q ((AS x_2.1.sg (xh x_2) x_2.2.2.2.2.2).deep-1),Bj (AS x_2.1.sg (xh x_2) x_2.2.2.2.2.2).nodes]]))) (cA (IK n) [.box 0 [sgs x.1.sg,.q (xg x).pos,.bool (xg x).bad,.q ((xg x).deep+1),Bj (xg x).nodes],.q 0] fun x_1 y=>cA Cb [srd x_1.1 (yG y.2),.str #[(63:UInt8)].toList] fun x_2 y_1=>Aa (isG x_2.1.sg (xh x_2) (4:Int) x_2.2.2.2.2.2) (Zf n x x_2 y) (inR .i64 ((AS x_2.1.sg (xh x_2) x_2.2.2.2.2.2).deep-1)∧(rA (Oy n) x [.q y.1,.box 0 [sgs x_2.1.sg,.q (AS x_2.1.sg (xh x_2) x_2.2.2.2.2.2).pos,.bool (AS x_2.1.sg (xh x_2) x_2.2.2.2.2.2).bad,.q ((AS x_2.1.sg (xh x_2) x_2.2.2.2.2.2).deep-1),Bj (AS x_2.1.sg (xh x_2) x_2.2.2.2.2.2).nodes]]))))) (fun x=>by kernel_rfl) fun(x:ST×Int×Int×Bool×List Nd) (hx:vQ 10 (n+1) x.1 (xg x))=>(by
 dsimp only[Zf,cA,Br,Al,Bj,rA,IK,Cb,IJ,Oy,Bv,BZ,Du,sgs,srd,As,Az,mvL,lnL,mvE,lnE,AV.q]
 obtain⟨s,p,d,b,ns⟩:=x;dsimp only[xg,xh] at hx ⊢
 have hx:vQ 10 (n+1) s ⟨p,d,b,ns⟩:=hx
 have h1:=hx.1.1.1;have h2:=hx.1.1.2;have h3:=hx.1.2;have hs:=h1.1;dsimp only at h2 h3
 (repeat' first|(with_reducible first|rfl|exact True.intro|apply AK|apply And.intro|((first|apply AA|apply AI|apply AB|apply AJ)<;>intro _))|(apply Av<;>intro _)|apply AH|refine Ae () ?_ ?_|((first|apply AO|apply AN|apply AM|apply AL|apply AG|apply AF|apply AE|apply AD|apply AC)<;>try dsimp only)|apply Ae|(refine Prod.forall.2 ?_;intro _;try dsimp only)|(intro _;try dsimp only))
 all_goals(try dsimp only[xg,xh,yG,yS,iG,iF] at*)
 all_goals(try simp only[GG] at*)
 all_goals(try(first|(have hz:=b8W (b:=b) h2 ‹_› (show Ah s.sg ⟨p,d+1,true,ns⟩ (pE s.sg n (.chain _)) _ by assumption))|(have hz:=b8X ‹_› (show Ah s.sg ⟨p,d+1,b,ns⟩ (pE s.sg n (.chain _)) _ by assumption))))
 all_goals first
  |rfl
  |assumption
  |exact a5J h1.2 ‹_›
  |exact b8Y hx ‹_›
  |exact b8Z hx ‹_›
  |exact FG h1 hz
  |(clear hz;exact FG h1 ‹_›)
  |exact⟨a5a h1 h2 h3 hz ‹_›,hx.2⟩
  |exact⟨b6l h1 h2 h3 hz ‹_› ‹_›,hx.2⟩
  |exact b6m h1 h2 hz ‹_› ‹_› ‹_›
  |exact b6n h1 h2 hz ‹_›
  |(have hq:=b6o h1 hz ‹_›;(try dsimp only at hq);(try simp only[An]);omega)
  |(have hq:=b6p ‹Ah s.sg (AP s.sg _ _) _ _›;(try dsimp only at hq);(try simp only[An,YC]);omega)
  |(have hq:=(Hd h1).1.2;dsimp only at hq;(try simp only[An]);omega)
  |skip)
def TT(n:Nat):Sig:= {X:=ST×Int×Int×Bool×List Nd,args:=fun x=>[srd x.1 (xg x)],pre:=fun x=>vQ 11 (n+1) x.1 (xg x),Y:=Int×Int×Int×Bool×List Nd,post:=fun x y=>Ah x.1.sg (xg x) (pE x.1.sg (n+1) .value) (yS y),res:=fun x y=> .q y.1,outs:=fun x y=>[srd x.1 (yG y.2)],keep:=true}
def TU(n:Nat)(x:ST×Int×Int×Bool×List Nd):LS:= {ι:=Int×Int×Bool×List Nd×List Int×Nat,inv:=fun i=>vaJ x.1.sg n (xg x) (iG i) i.2.2.2.2.1 i.2.2.2.2.2,regs:=fun i=>[(0,srd x.1 (iG i)),(4,Al i.2.2.2.2.1)],als:=[],meas:=fun i=>i.2.2.2.2.2}
theorem b9e(n:Nat)(h:qAll G n):Ai G Tryz.prog 177 (TT n):=
 vcFun_okP [(200,0,(IJ n)),(176,0,Ez),(135,0,Cb),(131,0,CL),(108,0,Bv),(134,0,BZ),(201,0,(GJ n))] [(38,⟨Int,Bx⟩)] false (fun x=>[(5,TU n x)]) Tryz.func177 rfl (by decide) ⟨h.pick,QL,HU,Le,HV,IG,(YW n h),trivial⟩ (fun(x:ST×Int×Int×Bool×List Nd)=>True∧cA (IJ n) [srd x.1 (xg x)] fun x_1 y=>cA Ez [srd x_1.1 (yG y.2),.q 4,.str #[(46:UInt8),46].toList] fun x_2 y_1=>Aa (!isG x_2.1.sg (xh x_2) x_2.2.2.2.2.2.1 x_2.2.2.2.2.2.2) (rA (TT n) x [.q y.1,srd x_2.1 (xh x_2)]) (∃(x_3:Int),y.1=x_3∧eA (TU n x) [srd x_2.1 (xh x_2),Al [x_3]]∧∀(i:Int×Int×Bool×List Nd×List Int×Nat),vaJ x.1.sg n (xg x) (iG i) i.2.2.2.2.1 i.2.2.2.2.2→cA Cb [srd x.1 (iG i),.str #[(46:UInt8),46].toList] fun x_4 y=>Aa (isG x_4.1.sg (xh x_4) (4:Int) x_4.2.2.2.2.2) (cA CL [srd x_4.1 (AS x_4.1.sg (xh x_4) x_4.2.2.2.2.2),.q 1] fun x_5 y=>cA Bv [srd x_5.1 (Bh x_5.1.sg (xh x_5) x_5.2.2.2.2.2),.q 1,.str (Bz x_5.1.sg (xh x_5) x_5.2.2.2.2.2),Al []] fun x_6 y=>cA BZ [srd x_6.1 (Ax (xh x_6) {kind:=x_6.2.2.2.2.2.1,text:=x_6.2.2.2.2.2.2.1,kids:=x_6.2.2.2.2.2.2.2,blank:=false}),.str #[(40:UInt8)].toList] fun x_7 y=>∃(x_8:Int),AY (xh x_6)=x_8∧cA (GJ n) [srd x_7.1 (AP x_7.1.sg (xh x_7) x_7.2.2.2.2.2),.str #[(41:UInt8)].toList,Al [x_8]] fun x_9 y=>cA Bv [srd x_9.1 (yG y.2),.q 5,.str #[].toList,Al y.1] fun x_10 y=>∃(x_11:Int),AY (xh x_10)=x_11∧∃(zs:List Int),Al [x_11]=Al zs∧BI Bx∧Bb (i.2.2.2.2.1.length+zs.length) (8:Nat)∧eN (TU n x) i [srd x_10.1 (Ax (xh x_10) {kind:=x_10.2.2.2.2.2.1,text:=x_10.2.2.2.2.2.2.1,kids:=x_10.2.2.2.2.2.2.2,blank:=false}),Al (i.2.2.2.2.1++zs)]) (cA Bv [srd x_4.1 (AS x_4.1.sg (xh x_4) x_4.2.2.2.2.2),.q 10,.str #[].toList,Al i.2.2.2.2.1] fun x_5 y=>rA (TT n) x [.q (AY (xh x_5)),srd x_5.1 (Ax (xh x_5) {kind:=x_5.2.2.2.2.2.1,text:=x_5.2.2.2.2.2.2.1,kids:=x_5.2.2.2.2.2.2.2,blank:=false})]))) (fun x=>by kernel_rfl) fun(x:ST×Int×Int×Bool×List Nd) (hx:vQ 11 (n+1) x.1 (xg x))=>(by
 dsimp only[cA,eA,eN,TU,Br,Al,Bj,rA,Ez,Cb,IJ,Bv,CL,TT,GJ,BZ,Du,sgs,srd,As,Az,mvL,lnL,mvE,lnE,Bl,AV.q]
 obtain⟨s,p,d,b,ns⟩:=x;dsimp only[xg,xh] at hx ⊢
 have hx:vQ 11 (n+1) s ⟨p,d,b,ns⟩:=hx
 have h1:=hx.1.1.1;have h2:=hx.1.1.2;have h3:=hx.1.2;have hs:=h1.1;dsimp only at h2 h3
 (repeat' first|(with_reducible first|rfl|exact True.intro|apply AK|apply And.intro|((first|apply AA|apply AI|apply AB|apply AJ)<;>intro _))|(apply Av<;>intro _)|apply AH|refine Ae () ?_ ?_|((first|apply AO|apply AN|apply AM|apply AL|apply AG|apply AF|apply AE|apply AD|apply AC)<;>try dsimp only)|apply Ae|(refine Prod.forall.2 ?_;intro _;try dsimp only)|(intro _;try dsimp only))
 all_goals(try dsimp only[xg,xh,yG,yS,iG] at*)
 all_goals(try simp only[GG] at*)
 all_goals first
  |(show Nat;skip)
  |rfl
  |assumption
  |exact⟨b6q h1 h2 h3,hx.2⟩
  |exact FG h1 ‹_›
  |exact b6r h1 ‹_› ‹_›
  |exact b6s h1 h2 ‹_› ‹_›
  |exact YD h1 ‹_›
  |exact(Zd hs ‹_›).1
  |exact(Zd hs ‹_›).2.1
  |exact(Zd hs ‹_›).2.2
  |exact b9a hx ‹_› ‹_›
  |exact YZ hs ‹_›
  |exact(a6a hs ‹_› ‹_› ‹_›).1
  |exact b6u h1 ‹_› ‹_›
  |exact b6v h1 ‹_› ‹_›
  |omega
  |(simp;done)
  |(have hq:=b6t hs ‹vaJ _ _ _ _ _ _›;(try simp only[Bb,List.length_append,List.length_cons,List.length_nil]);omega)
  |skip
 all_goals first
  |exact(a6a hs ‹_› ‹_› ‹_›).2
  |skip)
theorem Zg{r:Nat}(hr:1≤r)(h:wQ r 0 s g):False:=b7c hr h.1
theorem a6b{r:Nat}(hr:1≤r)(h:vQ r 0 s g):False:=b7d hr h.1
theorem b9f:qAll G 0:=
 ⟨ME Tryz.func177 rfl (by decide) (fun x h=>a6b (by omega) h),ME Tryz.func200 rfl (by decide) (fun x h=>a6b (by omega) h),
  ME Tryz.func222 rfl (by decide) (fun x h=>Zg (by have:=h.2;omega) h.1),ME Tryz.func233 rfl (by decide) (fun x h=>Zg (by omega) h),ME Tryz.func244 rfl (by decide) (fun x h=>Zg (by omega) h)⟩
theorem b9g(n:Nat):qAll G n:=by
 induction n with
 |zero=>exact b9f
 |succ n ih=>exact⟨b9e n ih,b9d n ih,b9c n ih,b8K n ih,b8J n ih⟩
def HX:Sig:= {X:=ST×Int×Int×Bool×List Nd,args:=fun x=>[srd x.1 (xg x)],pre:=fun x=>okD x.1 (xg x)∧sgM x.1.sg,Y:=Int×Int×Int×Bool×List Nd,post:=fun x y=>Ah x.1.sg (xg x) (Cl x.1.sg) (yS y),res:=fun x y=> .int .i64 y.1,outs:=fun x y=>[srd x.1 (yG y.2)],keep:=true}
theorem a6c(h:okD s g∧sgM s.sg):vQ 11 peN s g:=⟨b7e h.1,h.2⟩
theorem Zh:Ai G Go.Proofs.Tryz.prog 177 HX:=
 have c:=(b9g (G:=G) peN).val
 ⟨⟨c.1.1,fun x y hx hy=>c.1.2 x y (a6c hx) hy⟩,fun x hx=>c.2 x (a6c hx)⟩
end Go.My
end
section
namespace Go.My
open Go.Eng
variable {f:Bool→Ps→PR}{k:Int}{sg:List Sg}{x y:Gs}
def Zi(e:Nd)(b:Bool):Nd:=⟨e.kind,e.text,e.kids,b⟩
def TV(b:Bool)(p:Int×Ps):Int×Ps:=(p.1,⟨p.2.pos,p.2.deep,p.2.nodes.set p.1.toNat (Zi (Ab p.2.nodes p.1) b)⟩)
def BL(f:Bool→Ps→PR):Prop:=∀b s,f b s=(f false s).map (TV b)∧∀p,f b s=some p→1≤p.2.nodes.length∧p.1=(p.2.nodes.length:Int)-1
theorem Oz{t:List UInt8}{ks:List Int}:BL (fun b=>Bd ⟨k,t,ks,b⟩):=by
 intro b s
 by_cases h:300≤s.nodes.length
 ·simp only[YO h];exact⟨rfl,fun p hp=>by cases hp⟩
 ·simp only[YN h]
  refine⟨?_,fun p hp=>by simp only[Option.some.injEq] at hp;subst hp;simp⟩
  simp only[Option.map_some,TV,Int.toNat_natCast]
  congr 3
  have e:Ab (s.nodes++[⟨k,t,ks,false⟩]) (s.nodes.length:Int)=⟨k,t,ks,false⟩:=BA (by simp)
  rw[e]
  simp [Zi]
theorem a6d(h:BL f):BL (fun b s=>Gq (f b s)):=by
 intro b s
 obtain⟨h1,h2⟩:=h b s
 refine⟨?_,fun p hp=> ?_⟩
 ·simp only[Gq];rw[h1]
  cases f false s with
  |none=>rfl
  |some p=>rfl
 ·simp only[Gq,Option.map_eq_some_iff] at hp
  obtain⟨q,hq,rfl⟩:=hp
  exact h2 q hq
theorem Gv{α:Type}{h:Ps→Option (α×Ps)}{g:Bool→α→Ps→PR}(hg:∀a,BL (fun b=>g b a)):BL (fun b s=>(h s).bind fun p=>g b p.1 p.2):=by
 intro b s
 simp only
 cases h s with
 |none=>exact⟨rfl,fun p hp=>by cases hp⟩
 |some p=>exact hg p.1 b p.2
theorem Zj{h:Ps→Option Ps}{g:Bool→Ps→PR}(hg:BL g):BL (fun b s=>(h s).bind fun p=>g b p):=by
 intro b s
 simp only
 cases h s with
 |none=>exact⟨rfl,fun p hp=>by cases hp⟩
 |some p=>exact hg b p
theorem Gw{c:Ps→Prop}[inst:∀s,Decidable (c s)]{g:Bool→Ps→PR}(hf:BL f)(hg:BL g):BL (fun b s=>if c s then f b s else g b s):=by
 intro b s
 by_cases h:c s
 ·simp only[if_pos h];exact hf b s
 ·simp only[if_neg h];exact hg b s
theorem a6e:BL (fun _ _=>none):=fun b s=>⟨rfl,fun p hp=>by cases hp⟩
theorem MJ{a:Ps→Ps}(h:BL f):BL (fun b s=>f b (a s)):=fun b s=>h b (a s)
theorem b9h{f:Ps→Bool→Ps→PR}(h:∀q,BL (f q)):BL (fun b s=>f s b s):=fun b s=>h s b s
theorem Zk:BL (FT sg k):=fun b s=>a6d (Oz (k:=k) (t:=(sgO sg s.pos).text) (ks:=[])) b s
theorem MK{m:List UInt8}{t:List UInt8}{ks:List Int}:BL (fun b=>Bq sg m ⟨k,t,ks,b⟩):=Gw (c:=fun s=>isM sg s m=true) (a6d Oz) a6e
theorem Zl:BL (DN sg):=
 Gv (h:=FE sg) (g:=fun b t s=>if isM sg s [61] then(Cl sg (adv s)).bind fun q=>Bq sg [59] ⟨12,t,[q.1],b⟩ q.2 else Bq sg [59] ⟨12,t,[],b⟩ s) (fun t=>
  Gw (c:=fun s=>isM sg s [61]=true) (Gv (h:=fun s=>Cl sg (adv s)) (g:=fun b k s=>Bq sg [59] ⟨12,t,[k],b⟩ s) (fun _=>MK)) MK)
theorem b9i:BL (Hg sg):=
 Gw (c:=fun s=>isM sg s [59]=true) MK (Gv (h:=Cl sg) (g:=fun b k s=>Bq sg [59] ⟨15,[],[k],b⟩ s) (fun _=>MK))
theorem b9j{n:Nat}:BL (ifR sg n):=
 Gv (h:=DZ sg) (g:=fun b c s=>(BO sg (stR sg n) s).bind fun q=>if isW sg q.2 [101,108,115,101] then(BO sg (stR sg n) (adv q.2)).bind fun r=>Bd ⟨16,[],[c,q.1,r.1],b⟩ r.2 else Bd ⟨16,[],[c,q.1],b⟩ q.2) (fun c=>
  Gv (h:=BO sg (stR sg n)) (g:=fun b k s=>if isW sg s [101,108,115,101] then(BO sg (stR sg n) (adv s)).bind fun r=>Bd ⟨16,[],[c,k,r.1],b⟩ r.2 else Bd ⟨16,[],[c,k],b⟩ s) (fun k=>
   Gw (c:=fun s=>isW sg s [101,108,115,101]=true) (Gv (h:=fun s=>BO sg (stR sg n) (adv s)) (g:=fun b r s=>Bd ⟨16,[],[c,k,r],b⟩ s) (fun _=>Oz)) Oz))
theorem b9k{n:Nat}:BL (whR sg n):=
 Gv (h:=DZ sg) (g:=fun b c s=>(BO sg (stR sg n) s).bind fun q=>Bd ⟨17,[],[c,q.1],b⟩ q.2) (fun c=>Gv (h:=BO sg (stR sg n)) (g:=fun b k s=>Bd ⟨17,[],[c,k],b⟩ s) (fun _=>Oz))
theorem b9l:BL (doR sg):=Gv (h:=Cl sg) (g:=fun b k s=>Bq sg [59] ⟨14,[],[k],b⟩ s) (fun _=>MK)
theorem Zm:∀ {n:Nat},BL (stR sg n)
 |0=>a6e
 |n+1=>by
  intro b s
  rw[JX,JX]
  exact Gw (c:=fun s=>(sgO sg s.pos).kind=5) Zk (Gw (c:=fun s=>isW sg s [118,97,114]=true) (MJ (a:=adv) Zl) (Gw (c:=fun s=>isW sg s [114,101,116,117,114,110]=true) (MJ (a:=adv) b9i)
   (Gw (c:=fun s=>isW sg s [105,102]=true) (MJ (a:=adv) b9j) (Gw (c:=fun s=>isW sg s [119,104,105,108,101]=true) (MJ (a:=adv) b9k)
     (Gw (c:=fun s=>(DY sg s.pos&&isM sg (adv s) [61])=true) (b9h (f:=fun q b s=>(Cl sg (adv (adv s))).bind fun p=>Bq sg [59] ⟨13,(sgO sg q.pos).text,[p.1],b⟩ p.2) (fun q=>Gv (h:=fun s=>Cl sg (adv (adv s))) (g:=fun b k s=>Bq sg [59] ⟨13,(sgO sg q.pos).text,[k],b⟩ s) (fun _=>MK))) b9l))))) b s
theorem a6f:BL (GE sg):=
 Gv (h:=FE sg) (g:=fun b t s=>(BE sg [40] s).bind fun s1=>(Bw sg (BQ sg) [41] (sg.length+1) [] s1).bind fun q=>(BE sg [41] q.2).bind fun s2=>(FV sg s2).bind fun r=>Bd ⟨20,t,q.1++[r.1],b⟩ r.2) (fun t=>
  Zj (h:=BE sg [40]) (g:=fun b s1=>(Bw sg (BQ sg) [41] (sg.length+1) [] s1).bind fun q=>(BE sg [41] q.2).bind fun s2=>(FV sg s2).bind fun r=>Bd ⟨20,t,q.1++[r.1],b⟩ r.2)
   (Gv (h:=Bw sg (BQ sg) [41] (sg.length+1) []) (g:=fun b ks s=>(BE sg [41] s).bind fun s2=>(FV sg s2).bind fun r=>Bd ⟨20,t,ks++[r.1],b⟩ r.2) (fun ks=>
     Zj (h:=BE sg [41]) (g:=fun b s2=>(FV sg s2).bind fun r=>Bd ⟨20,t,ks++[r.1],b⟩ r.2) (Gv (h:=FV sg) (g:=fun b k s=>Bd ⟨20,t,ks++[k],b⟩ s) (fun _=>Oz)))))
theorem Zn:BL (Dv sg):=Gw (c:=fun s=>(sgO sg s.pos).kind=5) Zk (Gw (c:=fun s=>isW sg s [118,97,114]=true) (MJ (a:=adv) Zl) a6f)
theorem b9m:BL (Hc sg):=
 Gv (h:=FE sg) (g:=fun b t s=>(BE sg [123] s).bind fun s1=>(CY sg (Dv sg) [125] (sg.length+1) [] s1).bind fun q=>Bq sg [125] ⟨21,t,q.1,b⟩ q.2) (fun t=>
  Zj (h:=BE sg [123]) (g:=fun b s1=>(CY sg (Dv sg) [125] (sg.length+1) [] s1).bind fun q=>Bq sg [125] ⟨21,t,q.1,b⟩ q.2)
   (Gv (h:=CY sg (Dv sg) [125] (sg.length+1) []) (g:=fun b ks s=>Bq sg [125] ⟨21,t,ks,b⟩ s) (fun _=>MK)))
theorem Zo:BL (DG sg):=Gw (c:=fun s=>(sgO sg s.pos).kind=5) Zk (Gw (c:=fun s=>isW sg s [118,97,114]=true) (MJ (a:=adv) Zl) (Gw (c:=fun s=>isW sg s [99,108,97,115,115]=true) (MJ (a:=adv) b9m) a6f))
theorem a6g(hf:BL f)(h:Ah sg x (f false) (k,y))(hb:y.bad=false):1≤y.nodes.length∧k=(y.nodes.length:Int)-1:=by
 obtain⟨⟨a1,a2,a3,a4,a5⟩,_⟩:=h
 simp only at a4 a5
 rw[Dx hb] at a4
 cases hp:(pur x).bind (f false) with
 |none=>rw[hp] at a4;cases a4
 |some p=>
  rw[hp] at a4
  simp only[Option.map_some,Option.some.injEq] at a4
  have e:=a5 p hp
  cases hs:pur x with
  |none=>rw[hs] at hp;cases hp
  |some s=>
   rw[hs] at hp;simp only[Option.bind_some] at hp
   have:=(hf false s).2 p hp
   rw[←a4] at this;simp only at this;rw[e];exact this
theorem Zp{b:Bool}(hf:BL f)(h:Ah sg x (f false) (k,y)):Ah sg x (f b) (k,gBl y k b):=by
 have hk:=a6g hf h
 obtain⟨⟨a1,a2,a3,a4,a5⟩,c⟩:=h
 simp only at a1 a2 a3 a4 a5 c
 have eb:(pur x).bind (f b)=((pur x).bind (f false)).map (TV b):=by
  cases pur x with
  |none=>rfl
  |some s=>exact(hf b s).1
 cases hb:y.bad with
 |true=>
  have e:gBl y k b=y:=by rw[gBl,if_neg (by simp [hb])]
  rw[e]
  rw[Ev hb] at a4
  have hn:(pur x).bind (f false)=none:=by
   cases hp:(pur x).bind (f false) with
   |none=>rfl
   |some p=>rw[hp] at a4;cases a4
  refine⟨⟨a1,a2,a3,?_,fun p hp=> ?_⟩,c⟩
  ·rw[eb,hn,Ev hb];rfl
  ·rw[eb,hn] at hp;cases hp
 |false=>
  obtain⟨k1,k2⟩:=hk hb
  have hlt:k<(y.nodes.length:Int):=by omega
  have e:gBl y k b=⟨y.pos,y.deep,y.bad,y.nodes.set k.toNat (Zi (Ab y.nodes k) b)⟩:=by rw[gBl,if_pos ⟨hb,hlt⟩];rfl
  rw[e]
  have hat:Dw (Ab y.nodes k):=by
   have hkl:k.toNat<y.nodes.length:=by omega
   have:=a1.2.2.2 (y.nodes[k.toNat]) (List.getElem_mem hkl)
   rw[BA (List.getElem?_eq_getElem hkl)];exact this
  refine⟨⟨⟨a1.1,a1.2.1,by simpa using a1.2.2.1,fun w hw=> ?_⟩,a2,a3,?_,fun p hp=> ?_⟩,c⟩
  ·rcases List.mem_or_eq_of_mem_set hw with hw|hw
   ·exact a1.2.2.2 w hw
   ·subst hw;exact hat
  ·rw[eb]
   rw[Dx hb] at a4
   cases hp:(pur x).bind (f false) with
   |none=>rw[hp] at a4;cases a4
   |some p=>
    rw[hp] at a4
    simp only[Option.map_some,Option.some.injEq] at a4 ⊢
    have:=a5 p hp
    rw[Dx (by exact hb)]
    simp only[TV,←a4,this]
  ·rw[eb,Option.map_eq_some_iff] at hp
   obtain⟨q,hq,rfl⟩:=hp
   exact a5 q hq
theorem OA(hf:BL f)(h:Ah sg x (f false) (k,y)):y.bad=false→0≤k:=fun hb=>by have:=a6g hf h hb;omega
theorem Zq(hb:y.bad=false):blG sg y=(pkG sg y 0).blank:=by
 rw[blG,pkG]
 by_cases h:y.pos<sg.length
 ·rw[if_neg (by simp [hb];omega)];simp [h]
 ·rw[if_pos (.inr (by omega))];simp [h,EQ]
theorem b9n{one:Bool→Ps→PR}(h:gsOk sg x)(hd:x.deep≤20):restP sg x (BO sg one) (pkX (AP sg x [123]))
 (fun s1=>(CY sg one [125] (sg.length+1) [] s1).bind fun p=>(Bq sg [125] ⟨18,[],p.1,false⟩ p.2).map fun q=>(q.1,dp q.2 (-1))) 1:=by
 have t:=HT (m:=[123]) h
 have a:=b6D (one:=one) h hd
 have t1:=t.1;have t2:=t.2.1
 by_cases h20:x.deep=20
 ·rw[if_pos h20] at a
  have e:pkX (AP sg x [123])=gDp (Bu (AP sg x [123])) 1:=by rw[pkX,if_pos (by omega)]
  have e2:AP sg (gDp (Bu x) 1) [123]=gDp (Bu x) 1:=TH rfl
  rw[e2] at a
  rw[e]
  refine YL a ⟨t1.1,by simp only[gDp,Bu];omega,t1.2.2⟩ (by simp only[gDp,Bu];omega) (by simp only[gDp,Bu];omega) rfl
 ·rw[if_neg h20] at a
  have e:pkX (AP sg x [123])=gDp (AP sg x [123]) 1:=by rw[pkX,if_neg (by omega)]
  rw[e]
  have e2:AP sg (gDp x 1) [123]=gDp (AP sg x [123]) 1:=by
   have:isG sg (gDp x 1) 4 [123]=isG sg x 4 [123]:=rfl
   cases hq:isG sg x 4 [123] with
   |true=>rw[JY hq,JY (by rw[this];exact hq)];rfl
   |false=>rw[QN hq,QN (by rw[this];exact hq)];rfl
  rw[e2] at a;exact a
theorem a6h{g:Gs}{d:Int}{w:Nd}:Ax (gDp g d) w=gDp (Ax g w) d∧AY (gDp g d)=AY g:=by
 have hf:Ef (gDp g d)=Ef g:=rfl
 unfold Ax AY
 rw[hf]
 cases Ef g<;>exact⟨rfl,rfl⟩
theorem a6i{one:Bool→Ps→PR}{l:List Int×Gs}(h:gsOk sg x)(hd:x.deep≤20)(hl:BF sg (pkX (AP sg x [123])) (CY sg one [125] (sg.length+1) []) l)(hll:l.1.length≤3001):
 Ah sg x (BO sg one) (AY (gDp (AP sg l.2 [125]) (-1)),Ax (gDp (AP sg l.2 [125]) (-1)) ⟨18,[],l.1,false⟩):=by
 have k1:=BR (k:=fun ks s=>(Bq sg [125] ⟨18,[],ks,false⟩ s).map fun q=>(q.1,dp q.2 (-1))) (b9n h hd) hl (fun _ _=>rfl)
 have hw:Dw ⟨18,[],l.1,false⟩:=⟨by simp,by simp only;omega⟩
 have hc:=IH k1.1 hw (Oi (m:=[125]) k1.1 hw)
 have k2:=BR (k:=fun k s=>some (k,dp s (-1))) k1 hc.1 (fun s _=>by cases Bq sg [125] ⟨18,[],l.1,false⟩ s<;>rfl)
 simp only at k2
 rw[(a6h (w:=⟨18,[],l.1,false⟩)).1,(a6h (w:=⟨18,[],l.1,false⟩)).2]
 refine⟨He (MB (e:= -1) k2 ?_ (fun s hs=>rfl)),fun hb=> ?_⟩
 ·have:=k2.2.1;have:=h.2.1;omega
 ·have:=hc.2 hb
  have:=k1.2.2.1
  simp only[gDp] at*;omega
end Go.My
end
