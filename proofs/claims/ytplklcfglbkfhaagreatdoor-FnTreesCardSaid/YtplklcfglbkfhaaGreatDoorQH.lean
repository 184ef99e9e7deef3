/- A part of the proof: the engine and the contracts, joined. -/
import Derived.Test.YtplklcfglbkfhaaGreatDoorQG
section
set_option linter.unusedVariables false
set_option linter.unusedSimpArgs false
namespace Go.My
open Go.Eng
def An(g:Gs):Gs:=⟨g.pos+1,g.deep,g.bad,g.nodes⟩
def Bn(g:Gs):Gs:=⟨g.pos,g.deep,true,g.nodes⟩
def gDp(g:Gs)(d:Int):Gs:=⟨g.pos,g.deep+d,g.bad,g.nodes⟩
def Au(sg:List Sg)(g:Gs)(m:List UInt8):Gs:=if isG sg g 4 m then An g else g
def Aq(sg:List Sg)(g:Gs)(m:List UInt8):Gs:=if isG sg g 4 m then An g else Bn g
def CJ(g:Gs):Gs:=if g.bad then g else An g
def Dd(g:Gs):Bool:=g.bad||decide (g.nodes.length=300)
def Al(g:Gs)(x:Nd):Gs:=if Dd g then Bn g else⟨g.pos,g.deep,g.bad,g.nodes++[x]⟩
def AB(g:Gs):Int:=if Dd g then 0 else g.nodes.length
def Co(sg:List Sg)(g:Gs)(m:List UInt8)(x:Nd):Gs:=if isG sg g 4 m then CJ (Al g x) else Bn g
def Cp(sg:List Sg)(g:Gs)(m:List UInt8):Int:=if isG sg g 4 m then AB g else 0
def DJ(sg:List Sg)(g:Gs)(k:Int)(b:Bool):Gs:=CJ (Al g ⟨k,(pkG sg g 0).text,[],b⟩)
def Dr(sg:List Sg)(g:Gs):Gs:=if nmG sg g 0 then DJ sg g 1 false else Bn g
def DA(sg:List Sg)(g:Gs):Int:=if nmG sg g 0 then AB g else 0
def Cr(sg:List Sg)(g:Gs):Gs:=if nmG sg g 0 then An g else Bn g
def CC(sg:List Sg)(g:Gs):List UInt8:=if nmG sg g 0 then(pkG sg g 0).text else []
theorem Fi{sg:List Sg}{g:Gs}(h:gsOk sg g)(hl:g.pos<sg.length):gsOk sg (An g):=by
 obtain⟨h1,h2⟩:=h
 exact⟨by simp only[An];omega,h2⟩
theorem JI{sg:List Sg}{g:Gs}(h:gsOk sg g):gsOk sg (Bn g):=h
theorem RQ{g:Gs}:pur (An g)=(pur g).map adv:=by
 cases h:g.bad<;>simp [pur,An,h,adv]
theorem HC{g:Gs}:pur (Bn g)=none:=by simp [pur,Bn]
theorem Wk{sg:List Sg}{g:Gs}{k:Int}{m:List UInt8}(h:gsOk sg g)(hk:k≠0)(hm:isG sg g k m=true):RP sg g (fun s=>if isT sg s k m then some (adv s) else none) (An g)∧(An g).bad=false∧g.pos<(An g).pos:=by
 obtain⟨h1,h2⟩:=CI hm hk
 refine⟨⟨Fi h h2,rfl,by simp only[An];omega,?_⟩,h1,by simp only[An];omega⟩
 rw[RQ,CH h1]
 have:isT sg ⟨g.pos,g.deep,g.nodes⟩ k m=true:=by rw[←On (CH h1)];exact hm
 simp [this]
theorem Oq{sg:List Sg}{g:Gs}{s:Ps}{k:Int}{m:List UInt8}(hm:isG sg g k m=false)(hs:pur g=some s):isT sg s k m=false:=by rw[←On hs];exact hm
theorem RR{sg:List Sg}{g:Gs}{s:Ps}{k:Int}{m:List UInt8}(hm:isG sg g k m=true)(hs:pur g=some s):isT sg s k m=true:=by rw[←On hs];exact hm
theorem MA{sg:List Sg}{g:Gs}{m:List UInt8}(h:gsOk sg g):RP sg g (Bv sg m) (Aq sg g m)∧((Aq sg g m).bad=false→g.pos<(Aq sg g m).pos):=by
 unfold Aq
 cases hm:isG sg g 4 m with
 |true=>
  obtain⟨h1,h2,h3⟩:=Wk h (by omega) hm
  simp only[if_true]
  exact⟨h1,fun _=>h3⟩
 |false=>
  simp only[Bool.false_eq_true,if_false]
  refine⟨⟨JI h,rfl,Int.le_refl _,?_⟩,fun hb=>by simp [Bn] at hb⟩
  rw[HC]
  cases hs:pur g with
  |none=>rfl
  |some s=>
   simp only[Option.bind_some,Bv,isM,Oq hm hs];rfl
theorem Ot{g:Gs}(h:Dd g=false):g.bad=false∧g.nodes.length≠300:=by
 simpa [Dd] using h
theorem MB{sg:List Sg}{g:Gs}{x:Nd}(h:gsOk sg g)(hx:CG x):gsOk sg (Al g x):=by
 unfold Al
 cases hf:Dd g with
 |true=>exact JI h
 |false=>
  obtain⟨h1,h2⟩:=Ot hf
  obtain⟨a,b,c,d⟩:=h
  refine⟨a,b,?_,?_⟩
  ·simp;omega
  ·simp only[Bool.false_eq_true,if_false]
   intro y hy
   rcases List.mem_append.1 hy with hy|hy
   ·exact d y hy
   ·simp at hy;subst hy;exact hx
theorem Wl{sg:List Sg}{g:Gs}{x:Nd}(h:gsOk sg g):pur (Al g x)=((pur g).bind (AZ x)).map (·.2)∧∀p,(pur g).bind (AZ x)=some p→AB g=p.1:=by
 unfold Al AB
 cases hf:Dd g with
 |true=>
  simp only[if_true,HC]
  have:(pur g).bind (AZ x)=none:=by
   cases hs:pur g with
   |none=>rfl
   |some s=>
    obtain⟨h1,rfl⟩:=DX.1 hs
    have h3:g.nodes.length=300:=by simpa [Dd,h1] using hf
    simp [AZ,h3]
  rw[this];exact⟨rfl,fun p hp=>by cases hp⟩
 |false=>
  obtain⟨h1,h2⟩:=Ot hf
  have h3:g.nodes.length≤300:=h.2.2.1
  have h4:¬300≤g.nodes.length:=by omega
  simp [pur,h1,AZ,h4]
theorem Ou{sg:List Sg}{g:Gs}{x:Nd}(h:gsOk sg g)(hx:CG x):Bu sg g (AZ x) (AB g,Al g x):=by
 refine⟨MB h hx,?_,?_,(Wl h).1,(Wl h).2⟩
 ·simp only[Al];split<;>rfl
 ·simp only[Al];split<;>exact Int.le_refl _
theorem RS{sg:List Sg}{g:Gs}{x:Nd}(h:gsOk sg g)(hx:CG x)(hl:g.bad=false→g.pos<sg.length):Af sg g (fun s=>Fg (AZ x s)) (AB g,CJ (Al g x)):=by
 obtain⟨h1,h2,h3,h4,h5⟩:=Ou h hx
 simp only at h1 h2 h3 h4 h5
 have hp:pur (CJ (Al g x))=(pur (Al g x)).map adv:=by
  unfold CJ
  cases hb:(Al g x).bad with
  |true=>rw[Dq hb];simp [Dq hb]
  |false=>simp only[Bool.false_eq_true,if_false];exact RQ
 have hpos:(Al g x).pos=g.pos:=by simp only[Al];split<;>rfl
 have hbad:(Al g x).bad=false→g.bad=false:=by
  intro hb;simp only[Al] at hb;split at hb
  ·simp [Bn] at hb
  ·exact hb
 refine⟨⟨?_,?_,?_,?_,?_⟩,?_⟩
 ·simp only[CJ];split
  ·exact h1
  ·rename_i hb
   exact Fi h1 (by rw[hpos];exact hl (hbad (by simpa using hb)))
 ·simp only[CJ];split<;>simpa [An] using h2
 ·simp only[CJ];split
  ·exact h3
  ·simp only[An];omega
 ·simp only;rw[hp,h4]
  cases hs:pur g with
  |none=>rfl
  |some s=>simp only[Option.bind_some,Fg];cases AZ x s<;>rfl
 ·intro p hp2
  simp only
  cases hs:pur g with
  |none=>rw[hs] at hp2;cases hp2
  |some s=>
   rw[hs] at hp2 h5
   simp only[Option.bind_some,Fg,Option.map_eq_some_iff] at hp2
   obtain⟨q,hq,rfl⟩:=hp2
   exact h5 q (by simpa using hq)
 ·simp only[CJ]
  split
  ·rename_i hb;intro hh;rw[hb] at hh;cases hh
  ·intro _;simp only[An];omega
theorem La{sg:List Sg}{g:Gs}{m:List UInt8}{x:Nd}(h:gsOk sg g)(hx:CG x):Af sg g (Bm sg m x) (Cp sg g m,Co sg g m x):=by
 unfold Co Cp
 cases hm:isG sg g 4 m with
 |true=>
  obtain⟨hb,hl⟩:=CI hm (by omega)
  have:=RS h hx (fun _=>hl)
  simp only[if_true]
  have e:(pur g).bind (Bm sg m x)=(pur g).bind fun s=>Fg (AZ x s):=by
   rw[CH hb]
   have:isM sg ⟨g.pos,g.deep,g.nodes⟩ m=true:=RR hm (CH hb)
   simp [Bm,this]
  obtain⟨⟨a1,a2,a3,a4,a5⟩,a6⟩:=this
  exact⟨⟨a1,a2,a3,by rw[e];exact a4,by rw[e];exact a5⟩,a6⟩
 |false=>
  simp only[Bool.false_eq_true,if_false]
  have e:(pur g).bind (Bm sg m x)=none:=by
   cases hs:pur g with
   |none=>rfl
   |some s=>
    have:isM sg s m=false:=Oq hm hs
    simp [Bm,this]
  refine⟨⟨JI h,rfl,Int.le_refl _,by rw[e];exact HC,fun p hp=>by rw[e] at hp;cases hp⟩,fun hb=>by simp [Bn] at hb⟩
theorem a3t{sg:List Sg}(h:sgB sg){i:Int}:(sgO sg i).text.length≤3000:=by
 unfold sgO;rw[List.getD]
 cases hx:sg[i.toNat]? with
 |none=>simp [DW]
 |some e=>exact h.2 e (Cv hx)
theorem MC{sg:List Sg}(h:sgB sg){g:Gs}{n:Int}:(pkG sg g n).text.length≤3000:=by
 unfold pkG;split
 ·simp [DW]
 ·exact a3t h
theorem MD{sg:List Sg}{g:Gs}{k:Int}{b:Bool}(hs:sgB sg)(h:gsOk sg g)(hl:g.bad=false→g.pos<sg.length):Af sg g (EK sg k b) (AB g,DJ sg g k b):=by
 have hx:CG ⟨k,(pkG sg g 0).text,[],b⟩:=⟨MC hs,by simp⟩
 have:=RS (x:=⟨k,(pkG sg g 0).text,[],b⟩) h hx hl
 have e:(pur g).bind (EK sg k b)=(pur g).bind fun s=>Fg (AZ ⟨k,(pkG sg g 0).text,[],b⟩ s):=by
  cases hs:pur g with
  |none=>rfl
  |some s=>
   obtain⟨h1,rfl⟩:=DX.1 hs
   simp [EK,HB h1]
 obtain⟨⟨a1,a2,a3,a4,a5⟩,a6⟩:=this
 exact⟨⟨a1,a2,a3,by rw[e];exact a4,by rw[e];exact a5⟩,a6⟩
theorem Ov{sg:List Sg}{g:Gs}(hs:sgB sg)(h:gsOk sg g):Af sg g (BM sg) (DA sg g,Dr sg g):=by
 unfold Dr DA
 cases hm:nmG sg g 0 with
 |true=>
  obtain⟨hb,hl⟩:=Oo hm
  simp only[if_true]
  obtain⟨⟨a1,a2,a3,a4,a5⟩,a6⟩:=MD (k:=1) (b:=false) hs h (fun _=>by omega)
  have e:(pur g).bind (BM sg)=(pur g).bind (EK sg 1 false):=by
   rw[CH hb]
   have:CV sg g.pos=true:=by have:=JH (sg:=sg) (n:=0) (CH hb);rw[hm] at this;simpa using this.symm
   simp [BM,this]
  exact⟨⟨a1,a2,a3,by rw[e];exact a4,by rw[e];exact a5⟩,a6⟩
 |false=>
  simp only[Bool.false_eq_true,if_false]
  have e:(pur g).bind (BM sg)=none:=by
   cases hs:pur g with
   |none=>rfl
   |some s=>
    have:CV sg s.pos=false:=by have:=JH (sg:=sg) (n:=0) hs;rw[hm] at this;simpa using this.symm
    simp [BM,this]
  refine⟨⟨JI h,rfl,Int.le_refl _,by rw[e];exact HC,fun p hp=>by rw[e] at hp;cases hp⟩,fun hb=>by simp [Bn] at hb⟩
theorem Lb{sg:List Sg}{g:Gs}(h:gsOk sg g):Af sg g (FD sg) (CC sg g,Cr sg g):=by
 unfold Cr CC
 cases hm:nmG sg g 0 with
 |true=>
  obtain⟨hb,hl⟩:=Oo hm
  simp only[if_true]
  have hn:CV sg g.pos=true:=by have:=JH (sg:=sg) (n:=0) (CH hb);rw[hm] at this;simpa using this.symm
  refine⟨⟨Fi h (by omega),rfl,by simp only[An];omega,?_,?_⟩,fun _=>by simp only[An];omega⟩
  ·simp only;rw[RQ,CH hb];simp [FD,hn]
  ·intro p hp;rw[CH hb] at hp
   simp [FD,hn] at hp
   rw[←hp,HB hb];simp
 |false=>
  simp only[Bool.false_eq_true,if_false]
  have e:(pur g).bind (FD sg)=none:=by
   cases hs:pur g with
   |none=>rfl
   |some s=>
    have:CV sg s.pos=false:=by have:=JH (sg:=sg) (n:=0) hs;rw[hm] at this;simpa using this.symm
    simp [FD,this]
  refine⟨⟨JI h,rfl,Int.le_refl _,by rw[e];exact HC,fun p hp=>by rw[e] at hp;cases hp⟩,fun hb=>by simp [Bn] at hb⟩
end Go.My
end
section
set_option linter.unusedVariables false
set_option linter.unusedSimpArgs false
namespace Go.My
open Go.Eng Go.Proofs
variable {G:GInv}
theorem a3u{a:Int}{b:List UInt8}{c:List Int}{d:Bool}{o:Bool}{i:Nat}{q:Nd→Prop}(h:q ⟨a,b,c,d⟩):∃x:Nd,a=x.kind∧b=x.text∧AV.sl o i 1 Int Bi c=AV.sl o i 1 Int Bi x.kids∧d=x.blank∧q x:=⟨⟨a,b,c,d⟩,rfl,rfl,rfl,rfl,h⟩
theorem AO{α β γ δ ε ζ η:Type}{p q:α×β×γ×δ×ε×ζ×η→Prop}(a:α)(b:β)(c:γ)(d:δ)(e:ε)(f:ζ)(g:η)(h2:q (a,b,c,d,e,f,g))(h1:p (a,b,c,d,e,f,g)):∃x,p x∧q x:=⟨_,h1,h2⟩
theorem AP{α β γ δ ε ζ η θ:Type}{p q:α×β×γ×δ×ε×ζ×η×θ→Prop}(a:α)(b:β)(c:γ)(d:δ)(e:ε)(f:ζ)(g:η)(h:θ)(h2:q (a,b,c,d,e,f,g,h))(h1:p (a,b,c,d,e,f,g,h)):∃x,p x∧q x:=⟨_,h1,h2⟩
theorem AQ{α β γ δ ε ζ η θ ι:Type}{p q:α×β×γ×δ×ε×ζ×η×θ×ι→Prop}(a:α)(b:β)(c:γ)(d:δ)(e:ε)(f:ζ)(g:η)(h:θ)(i:ι)(h2:q (a,b,c,d,e,f,g,h,i))(h1:p (a,b,c,d,e,f,g,h,i)):∃x,p x∧q x:=⟨_,h1,h2⟩
theorem AR{α β γ δ ε ζ η θ ι κ:Type}{p q:α×β×γ×δ×ε×ζ×η×θ×ι×κ→Prop}(a:α)(b:β)(c:γ)(d:δ)(e:ε)(f:ζ)(g:η)(h:θ)(i:ι)(j:κ)(h2:q (a,b,c,d,e,f,g,h,i,j))(h1:p (a,b,c,d,e,f,g,h,i,j)):∃x,p x∧q x:=⟨_,h1,h2⟩
structure ST where
 sg:List Sg
 z:Int
 ms:List (Int×Int)
abbrev xg (x:ST×Int×Int×Bool×List Nd):Gs:=⟨x.2.1,x.2.2.1,x.2.2.2.1,x.2.2.2.2⟩
abbrev xh {α:Type} (x:ST×Int×Int×Bool×List Nd×α):Gs:=⟨x.2.1,x.2.2.1,x.2.2.2.1,x.2.2.2.2.1⟩
abbrev yG (y:Int×Int×Bool×List Nd):Gs:=⟨y.1,y.2.1,y.2.2.1,y.2.2.2⟩
abbrev yS {α:Type} (y:α×Int×Int×Bool×List Nd):α×Gs:=(y.1,⟨y.2.1,y.2.2.1,y.2.2.2.1,y.2.2.2.2⟩)
def rOk(s:ST)(g:Gs):Prop:=sgB s.sg∧gsOk s.sg g
theorem FG{s:ST}{g:Gs}(h:rOk s g):((0≤g.pos∧g.pos≤s.sg.length)∧(0≤g.deep∧g.deep≤21))∧g.nodes.length≤300∧s.sg.length≤3000:=⟨⟨h.2.1,h.2.2.1⟩,h.2.2.2.1,h.1.1⟩
theorem a3v{sg:List Sg}{g:Gs}{n:Int}(h:g.bad=true∨(sg.length:Int)≤g.pos+n):pkG sg g n=DW:=if_pos h
theorem a3w{sg:List Sg}{g:Gs}{n:Int}{e:Sg}(he:sg[(g.pos+n).toNat]? =some e)(hb:g.bad=false)(hl:¬(sg.length:Int)≤g.pos+n):pkG sg g n=e:=by
 rw[pkG,if_neg (by simp [hb];omega),HA he]
end Go.My
end
section
set_option linter.unusedVariables false
set_option linter.unusedSimpArgs false
namespace Go.My
open Go.Eng
def restP{α:Type}(sg:List Sg)(x:Gs)(f:Ps→Option (α×Ps))(y:Gs)(g:Ps→Option (α×Ps))(d:Int):Prop:=
 gsOk sg y∧y.deep=x.deep+d∧x.pos≤y.pos∧(pur y).bind g=(pur x).bind f
theorem CK{α:Type}{sg:List Sg}{x:Gs}{f:Ps→Option (α×Ps)}(h:gsOk sg x):restP sg x f x f 0:=⟨h,by omega,Int.le_refl _,rfl⟩
theorem Ds{α:Type}{sg:List Sg}{x y:Gs}{f g g':Ps→Option (α×Ps)}{d:Int}(h:restP sg x f y g d)(e:∀s,pur y=some s→g s=g' s):restP sg x f y g' d:=by
 refine⟨h.1,h.2.1,h.2.2.1,?_⟩
 rw[←h.2.2.2]
 cases hs:pur y with
 |none=>rfl
 |some s=>exact(e s hs).symm
theorem Wm{α:Type}{sg:List Sg}{x y z:Gs}{f g g':Ps→Option (α×Ps)}{h:Ps→Option Ps}{d:Int}(h1:restP sg x f y g d)(h2:RP sg y h z)(e:∀s,pur y=some s→g s=(h s).bind g'):restP sg x f z g' d:=by
 obtain⟨a1,a2,a3,a4⟩:=h1;obtain⟨b1,b2,b3,b4⟩:=h2
 refine⟨b1,by omega,by omega,?_⟩
 rw[b4,←a4]
 cases hs:pur y with
 |none=>rfl
 |some s=>simp only[Option.bind_some];rw[e s hs]
theorem BH{α β:Type}{sg:List Sg}{x y:Gs}{z:β×Gs}{f g:Ps→Option (α×Ps)}{k:β→Ps→Option (α×Ps)}{h:Ps→Option (β×Ps)}{d:Int}(h1:restP sg x f y g d)(h2:Bu sg y h z)
 (e:∀s,pur y=some s→g s=(h s).bind fun p=>k p.1 p.2):restP sg x f z.2 (k z.1) d:=by
 obtain⟨a1,a2,a3,a4⟩:=h1;obtain⟨b1,b2,b3,b4,b5⟩:=h2
 refine⟨b1,by omega,by omega,?_⟩
 rw[b4,←a4]
 cases hs:pur y with
 |none=>rfl
 |some s=>
  simp only[Option.bind_some];rw[e s hs]
  rw[hs] at b5
  simp only[Option.bind_some] at b5
  cases hp:h s with
  |none=>rfl
  |some p=>simp only[Option.map_some,Option.bind_some];rw[b5 p hp]
theorem FH{α:Type}{sg:List Sg}{x y:Gs}{f:Ps→Option (α×Ps)}{a:α}(h:restP sg x f y (fun s=>some (a,s)) 0):Bu sg x f (a,y):=by
 obtain⟨a1,a2,a3,a4⟩:=h
 refine⟨a1,by simp only;omega,a3,?_,?_⟩
 ·rw[←a4];cases pur y<;>rfl
 ·intro p hp;rw[←a4] at hp
  cases hs:pur y with
  |none=>rw[hs] at hp;cases hp
  |some s=>rw[hs] at hp;simp only[Option.bind_some,Option.some.injEq] at hp;rw[←hp]
theorem ME{α:Type}{sg:List Sg}{x y:Gs}{f g:Ps→Option (α×Ps)}{a:α}(h:restP sg x f y g 0)(hb:y.bad=true):Bu sg x f (a,y):=by
 obtain⟨a1,a2,a3,a4⟩:=h
 rw[Dq hb] at a4
 have hn:(pur x).bind f=none:=a4.symm
 refine⟨a1,by simp only;omega,a3,?_,fun p hp=>by rw[hn] at hp;cases hp⟩
 rw[hn,Dq hb];rfl
theorem Wn{α:Type}{sg:List Sg}{x y:Gs}{f g:Ps→Option (α×Ps)}{d:Int}(h:restP sg x f y g d)(e:∀s,pur y=some s→g s=none):(pur x).bind f=none:=by
 rw[←h.2.2.2]
 cases hs:pur y with
 |none=>rfl
 |some s=>exact e s hs
theorem Wo{α:Type}{sg:List Sg}{x y:Gs}{f g:Ps→Option (α×Ps)}{a:α}(h:restP sg x f y g 0)(e:∀s,pur y=some s→g s=none):Bu sg x f (a,Bn y):=by
 have hn:=Wn h e
 refine⟨JI h.1,by simp only[Bn];have:=h.2.1;omega,h.2.2.1,?_,fun p hp=>by rw[hn] at hp;cases hp⟩
 rw[hn,HC];rfl
theorem JJ{α:Type}{sg:List Sg}{x y:Gs}{f g g':Ps→Option (α×Ps)}{d e:Int}(h:restP sg x f y g d)(hd:0≤y.deep+e∧y.deep+e≤21)(hg:∀s,pur y=some s→g s=g' (dp s e)):restP sg x f (gDp y e) g' (d+e):=by
 obtain⟨a1,a2,a3,a4⟩:=h
 refine⟨⟨a1.1,hd,a1.2.2⟩,by simp only[gDp];omega,a3,?_⟩
 rw[←a4]
 cases hb:y.bad with
 |true=>rw[Dq hb,Dq (by simpa [gDp] using hb)];rfl
 |false=>
  rw[CH hb,CH (g:=gDp y e) (by simpa [gDp] using hb)]
  simp only[Option.bind_some]
  rw[hg _ (CH hb)];rfl
theorem Wp{α:Type}{sg:List Sg}{x y:Gs}{f g g':Ps→Option (α×Ps)}{d:Int}(h:restP sg x f y g d)(hg:∀s,pur y=some s→g s=none):restP sg x f (Bn y) g' d:=by
 have hn:=Wn h hg
 refine⟨JI h.1,h.2.1,h.2.2.1,?_⟩
 rw[HC,hn];rfl
theorem HD{sg:List Sg}{g:Gs}{s:Ps}{m:List UInt8}(hs:pur g=some s)(hm:isG sg g 4 m=true):isM sg s m=true:=RR hm hs
theorem DY{sg:List Sg}{g:Gs}{s:Ps}{m:List UInt8}(hs:pur g=some s)(hm:isG sg g 4 m=false):isM sg s m=false:=Oq hm hs
theorem DK{sg:List Sg}{g:Gs}{s:Ps}{m:List UInt8}(hs:pur g=some s)(hm:isG sg g 1 m=false):isW sg s m=false:=Oq hm hs
theorem FI{α:Type}{sg:List Sg}{x y:Gs}{f g g':Ps→Option (α×Ps)}{d:Int}{m:List UInt8}{k:Int}(h:restP sg x f y g d)(hk:k≠0)(hm:isG sg y k m=true)(hg:∀s,pur y=some s→isT sg s k m=true→g s=g' (adv s)):
 restP sg x f (An y) g' d:=by
 obtain⟨h1,h2,h3⟩:=Wk h.1 hk hm
 refine Wm h h1 fun s hs=> ?_
 have ht:=RR hm hs
 rw[hg s hs ht,ht];rfl
theorem Gk{α:Type}{sg:List Sg}{x y:Gs}{f g g':Ps→Option (α×Ps)}{d:Int}{m:List UInt8}(h:restP sg x f y g d)(hg:∀s,pur y=some s→g s=(Bv sg m s).bind g'):restP sg x f (Aq sg y m) g' d:=
 Wm h (MA h.1).1 hg
theorem a3x{α:Type}{sg:List Sg}{x:Gs}{y:α×Gs}{f:Ps→Option (α×Ps)}(h:Bu sg x f y):restP sg x f y.2 (fun s=>some (y.1,s)) 0:=by
 obtain⟨a1,a2,a3,a4,a5⟩:=h
 refine⟨a1,by omega,a3,?_⟩
 cases hp:(pur x).bind f with
 |none=>rw[a4,hp];rfl
 |some p=>rw[a4,hp,a5 p hp];rfl
theorem a3y{sg:List Sg}{one:Ps→PR}{m:List UInt8}{n:Nat}{ks:List Int}{s:Ps}(h:isM sg s m=true):Bo sg one m (n+1) ks s=some (ks,s):=by rw[Bo,if_pos h]
theorem a3z{sg:List Sg}{one:Ps→PR}{m:List UInt8}{n:Nat}{ks:List Int}{s:Ps}(h:isM sg s m=false):Bo sg one m (n+1) ks s=(one s).bind fun p=>if isM sg p.2 [44] then Bo sg one m n (ks++[p.1]) (adv p.2) else some (ks++[p.1],p.2):=by
 rw[Bo,if_neg (by simp [h])]
end Go.My
end
section
set_option linter.unusedVariables false
set_option linter.unusedSimpArgs false
namespace Go.My
open Go.Eng
def DL(sg:List Sg):Nat→Int→Int
 |0,i=>i
 |n+1,i=>if i+1<sg.length∧(sgO sg i).kind=1 then(if(sgO sg (i+1)).text=[44] then DL sg n (i+2) else i+1) else i
def HE(sg:List Sg)(i k:Int)(t:List UInt8):Bool:=decide ((sgO sg i).kind=k)&&((sgO sg i).text==t)
def Ew(sg:List Sg)(i:Int):Bool:=decide (i+1<sg.length)&&(HE sg i 4 [41]&&HE sg (i+1) 4 [61,62])
def Iw(sg:List Sg)(s:Ps):Bool:=Ew sg (DL sg (sg.length+1) (s.pos+1))
def sgM(sg:List Sg):Prop:=∀e∈sg,(e.text=[41]∨e.text=[61,62]∨e.text=[44])→e.kind=4
theorem RT{sg:List Sg}{i:Int}(h:(sgO sg i).text≠[]∨(sgO sg i).kind≠0):i.toNat<sg.length∧sgO sg i∈sg:=by
 unfold sgO at h ⊢
 rw[List.getD_eq_getElem?_getD] at h ⊢
 cases hx:sg[i.toNat]? with
 |none=>rw[hx] at h;simp [DW] at h
 |some e=>exact⟨(List.getElem?_eq_some_iff.1 hx).1,by simpa using List.mem_of_getElem? hx⟩
theorem Ow{sg:List Sg}(hm:sgM sg){i:Int}(h:(sgO sg i).text=[41]∨(sgO sg i).text=[61,62]∨(sgO sg i).text=[44]):(sgO sg i).kind=4:=by
 refine hm _ (RT (.inl ?_)).2 h
 rcases h with h|h|h<;>rw[h]<;>simp
def Wq(sg:List Sg)(i:Int):Bool:=((sgO sg i).text==[41])&&((sgO sg (i+1)).text==[61,62])
theorem RU{sg:List Sg}(hm:sgM sg){i:Int}(h0:0≤i):Wq sg i=Ew sg i:=by
 unfold Wq Ew HE
 cases h1:((sgO sg i).text==[41]) with
 |false=>simp
 |true=>
  have k1:=Ow hm (.inl (by simpa using h1))
  cases h2:((sgO sg (i+1)).text==[61,62]) with
  |false=>simp
  |true=>
   have k2:=Ow hm (.inr (.inl (by simpa using h2)))
   have:=(RT (sg:=sg) (i:=i+1) (.inl (by simp at h2;rw[h2];simp))).1
   simp [k1,k2];omega
theorem Ox{sg:List Sg}{i:Int}(h:CV sg i=true):(sgO sg i).kind=1:=by
 simp [CV] at h;exact h.1
theorem Wr{sg:List Sg}(hm:sgM sg):∀(n:Nat) (i:Int),0≤i→Ew sg (Dz sg n i)=true→Ew sg (DL sg n i)=true
 |0,i,h0,h=>by simpa [Dz,DL] using h
 |n+1,i,h0,h=>by
  rw[Dz] at h;rw[DL]
  cases hn:CV sg i with
  |false=>
   rw[hn] at h;simp only[Bool.false_eq_true,if_false] at h
   have h4:(sgO sg i).kind=4:=by
    simp only[Ew,HE,Bool.and_eq_true,decide_eq_true_eq] at h;exact h.2.1.1
   rw[if_neg (by rw[h4];omega)];exact h
  |true=>
   rw[hn,if_pos rfl] at h
   have hk:=Ox hn
   have hlt:i+1<sg.length:=by
    split at h
    ·rename_i ht
     have:=(RT (sg:=sg) (i:=i+1) (.inl (by rw[ht];simp))).1;omega
    ·simp only[Ew,Bool.and_eq_true,decide_eq_true_eq] at h;omega
   rw[if_pos ⟨hlt,hk⟩]
   split at h
   ·rename_i ht;rw[if_pos ht];exact Wr hm n (i+2) (by omega) h
   ·rename_i ht;rw[if_neg ht];exact h
theorem Ws{sg:List Sg}(hm:sgM sg):∀(n:Nat) (i:Int),0≤i→Ew sg (DL sg n i)=true→Ew sg (Dz sg n i)=false→∀(N:Nat) (ks:List Int) (s:Ps),s.pos=i→Bo sg (BM sg) [41] N ks s=none
 |0,i,h0,h1,h2=>by simp [Dz,DL] at h1 h2;rw[h1] at h2;cases h2
 |n+1,i,h0,h1,h2=>by
  intro N ks s hs
  match N with
  |0=>rfl
  |N+1=>
  rw[DL] at h1;rw[Dz] at h2
  cases hn:CV sg i with
  |false=>
   rw[hn] at h2;simp only[Bool.false_eq_true,if_false] at h2
   split at h1
   ·rename_i hh
    have hm4:isM sg s [41]=false:=by simp [isM,isT,hs,hh.2]
    rw[Bo,if_neg (by simp [hm4]),BM,hs,if_neg (by simp [hn])];rfl
   ·rw[h1] at h2;cases h2
  |true=>
   rw[hn,if_pos rfl] at h2
   have hk:=Ox hn
   have hm4:isM sg s [41]=false:=by simp [isM,isT,hs,hk]
   split at h1
   ·split at h1
    ·rename_i ht;rw[if_pos ht] at h2
     have hk2:=Ow hm (.inr (.inr ht))
     rw[Bo,if_neg (by simp [hm4]),BM,hs,if_pos hn,EK,Fg,AZ]
     split
     ·rfl
     ·simp only[Option.map_some,Option.bind_some,adv]
      have hc:isM sg ⟨s.pos+1,s.deep,s.nodes++[⟨1,(sgO sg s.pos).text,[],false⟩]⟩ [44]=true:=by simp [isM,isT,hs,ht,hk2]
      rw[if_pos hc]
      exact Ws hm n (i+2) (by omega) h1 h2 N _ _ (by simp only;omega)
    ·rename_i ht;rw[if_neg ht] at h2;rw[h1] at h2;cases h2
   ·exfalso
    have:(sgO sg i).kind=4:=by simp only[Ew,HE,Bool.and_eq_true,decide_eq_true_eq] at h1;exact h1.2.1.1
    omega
theorem Lc{sg:List Sg}(hm:sgM sg):∀(n:Nat) (t:NT) (s:Ps),CV sg s.pos=true→(sgO sg (s.pos+1)).text=[44]→0≤s.pos→(pE sg n t s=none∨∃p,pE sg n t s=some p∧p.2.pos=s.pos+1)
 |0,t,s,h1,h2,h0=> .inl (by cases t<;>rfl)
 |n+1,t,s,h1,h2,h0=>by
  have hk:=Ow hm (.inr (.inr h2))
  have tst:∀(q:Ps) (m:List UInt8),q.pos=s.pos+1→m≠[44]→isM sg q m=false:=by
   intro q m hq hne;simp only[isM,isT,hq,h2]
   simp;intro _;exact fun e=>hne e.symm
  cases t with
  |value=>
   rw[pE]
   rcases Lc hm n .pick s h1 h2 h0 with h|⟨p,h,hp⟩
   ·left;rw[h];rfl
   ·right;refine⟨p,?_,hp⟩
    rw[h,Option.bind_some,if_neg (by simp [tst p.2 [46,46] hp (by simp)])]
  |pick=>
   rw[pE]
   split
   ·exact .inl rfl
   ·rcases Lc hm n (.chain 0) (dp s 1) h1 h2 h0 with h|⟨p,h,hp⟩
    ·left;rw[h];rfl
    ·right;refine⟨(p.1,dp p.2 (-1)),?_,hp⟩
     rw[h,Option.bind_some,if_neg (by simp [tst p.2 [63] hp (by simp)])]
  |chain l=>
   rw[pE]
   split
   ·exact Lc hm n .fin s h1 h2 h0
   ·rcases Lc hm n (.chain (l+1)) s h1 h2 h0 with h|⟨p,h,hp⟩
    ·left;rw[h];rfl
    ·right
     have hc:Hz sg l p.2=[]:=by
      have:∀m∈BE l,isM sg p.2 m=false:=by
       intro m hmm
       refine tst p.2 m hp ?_
       intro e;subst e
       unfold BE at hmm
       split at hmm<;>simp at hmm
      rw[Hz,List.find?_eq_none.2 (by intro m hmm;simp [this m hmm])];rfl
     refine⟨(p.1,p.2),?_,hp⟩
     rw[h,Option.bind_some,FE,if_neg (by simp),if_pos hc];rfl
  |fin=>
   rw[pE]
   rcases Lc hm n .base s h1 h2 h0 with h|⟨p,h,hp⟩
   ·left;rw[h];rfl
   ·right;refine⟨p,?_,hp⟩
    rw[h,Option.bind_some,Fh,if_neg (by simp [tst p.2 [40] hp (by simp)]),if_neg (by simp [tst p.2 [46] hp (by simp)])]
  |base=>
   rw[pE,if_pos (Ox h1),BM,if_pos h1,EK,Fg,AZ]
   split
   ·exact .inl rfl
   ·exact .inr ⟨_,rfl,rfl⟩
theorem Ld{sg:List Sg}:∀(n:Nat) (t:NT) (s:Ps),CV sg s.pos=false→(sgO sg s.pos).kind=1→pE sg n t s=none
 |0,t,s,h1,h2=>by cases t<;>rfl
 |n+1,t,s,h1,h2=>by
  cases t with
  |value=>rw[pE,Ld n .pick s h1 h2];rfl
  |pick=>rw[pE];split
         ·rfl
         ·rw[Ld n (.chain 0) (dp s 1) h1 h2];rfl
  |chain l=>rw[pE];split
            ·exact Ld n .fin s h1 h2
            ·rw[Ld n (.chain (l+1)) s h1 h2];rfl
  |fin=>rw[pE,Ld n .base s h1 h2];rfl
  |base=>rw[pE,if_pos h2,BM,if_neg (by simp [h1])]
theorem a3A{sg:List Sg}(hm:sgM sg){s:Ps}{n:Nat}{x:Nd}(h0:0≤s.pos)(h1:Iw sg s=true)(h2:Iu sg s=false)(k:Int→Nd):
 ((pE sg n .value (adv s)).bind fun p=>Bm sg [41] (k p.1) p.2)=none:=by
 have h2':Ew sg (Dz sg (sg.length+1) (s.pos+1))=false:=by
  have hp:∀(n:Nat) (i:Int),0≤i→0≤Dz sg n i:=by
   intro n
   induction n with
   |zero=>intro i hi;simpa [Dz] using hi
   |succ n ih=>intro i hi;rw[Dz];split
               ·split
                ·exact ih _ (by omega)
                ·omega
               ·exact hi
  rw[←RU hm (hp _ _ (by omega))];exact h2
 unfold Iw at h1
 rw[DL] at h1;rw[Dz] at h2'
 cases hn:CV sg (s.pos+1) with
 |false=>
  rw[hn] at h2';simp only[Bool.false_eq_true,if_false] at h2'
  split at h1
  ·rename_i hh
   rw[Ld n .value (adv s) hn hh.2];rfl
  ·rw[h1] at h2';cases h2'
 |true=>
  rw[hn,if_pos rfl] at h2'
  split at h1
  ·split at h1
   ·rename_i ht
    rcases Lc hm n .value (adv s) hn (by simpa [adv] using ht) (by simp only[adv];omega) with h|⟨p,h,hp⟩
    ·rw[h];rfl
    ·rw[h,Option.bind_some,Bm]
     have:isM sg p.2 [41]=false:=by
      simp only[isM,isT,hp,adv]
      rw[show s.pos+1+1=s.pos+1+1 from rfl,ht];simp
     rw[if_neg (by simp [this])]
   ·rename_i ht;rw[if_neg ht] at h2';rw[h1] at h2';cases h2'
  ·exfalso
   have:(sgO sg (s.pos+1)).kind=4:=by simp only[Ew,HE,Bool.and_eq_true,decide_eq_true_eq] at h1;exact h1.2.1.1
   have:=Ox hn
   omega
end Go.My
end
section
set_option linter.unusedVariables false
set_option linter.unusedSimpArgs false
namespace Go.My
open Go.Eng
theorem Wt{sg:List Sg}{n:Nat}{s:Ps}:pE sg (n+1) .pick s=if 20≤s.deep then none else(pE sg n (.chain 0) (dp s 1)).bind fun p=>
 if isM sg p.2 [63] then(pE sg n .pick (adv p.2)).bind fun a=>(Bv sg [58] a.2).bind fun s1=>(pE sg n .pick s1).bind fun b=>(AZ ⟨8,[],[p.1,a.1,b.1],false⟩ b.2).map fun q=>(q.1,dp q.2 (-1))
 else some (p.1,dp p.2 (-1)):=rfl
theorem a3B{sg:List Sg}{n l:Nat}{s:Ps}:pE sg (n+1) (.chain l) s=if l=6 then pE sg n .fin s else(pE sg n (.chain (l+1)) s).bind fun p=>FE sg l (pE sg n (.chain (l+1))) (2*sg.length+4) [] [p.1] p.2:=rfl
theorem EM{α:Type}{sg:List Sg}{x:Gs}{f:Ps→Option (α×Ps)}{y:α×Gs}(h:Af sg x f y):gsOk sg y.2:=h.1.1
theorem Ct{α:Type}{sg:List Sg}{x:Gs}{f:Ps→Option (α×Ps)}{y:α×Gs}(h:Af sg x f y):y.2.deep=x.deep∧x.pos≤y.2.pos∧y.2.pos≤sg.length∧(y.2.bad=false→x.bad=false∧x.pos<y.2.pos):=by
 refine⟨h.1.2.1,h.1.2.2.1,h.1.1.1.2,fun hb=>⟨?_,h.2 hb⟩⟩
 cases hx:x.bad with
 |false=>rfl
 |true=>
  have:=h.1.2.2.2.1
  rw[Dq hx,CH hb] at this;cases this
theorem HF{g:Gs}{x:Nd}:(Al g x).deep=g.deep∧(Al g x).pos=g.pos∧((Al g x).bad=false→g.bad=false):=by
 unfold Al;split
 ·rename_i h;exact⟨rfl,rfl,fun hb=>by simp [Bn] at hb⟩
 ·exact⟨rfl,rfl,fun hb=>hb⟩
theorem Oy{sg:List Sg}{x y:Gs}{f:Ps→PR}{w:Nd}(h:restP sg x f y (AZ w) 0)(hw:CG w):Bu sg x f (AB y,Al y w):=by
 have h2:=BH (k:=fun a s=>some (a,s)) h (Ou h.1 hw) (fun s _=>by cases AZ w s<;>rfl)
 exact FH h2
theorem Oz{sg:List Sg}{x y:Gs}{f:Ps→PR}{w:Nd}{m:List UInt8}(h:restP sg x f y (Bm sg m w) 0)(hw:CG w):Bu sg x f (Cp sg y m,Co sg y m w):=by
 have h2:=BH (k:=fun a s=>some (a,s)) h (La h.1 hw).1 (fun s _=>by cases Bm sg m w s<;>rfl)
 exact FH h2
theorem a3C{sg:List Sg}{x:Gs}{n:Nat}(h:gsOk sg x)(hd:x.deep≤20):restP sg x (pE sg (n+1) .pick) (gDp (if x.deep=20 then Bn x else x) 1)
 (fun s=>(pE sg n (.chain 0) s).bind fun p=>if isM sg p.2 [63] then(pE sg n .pick (adv p.2)).bind fun a=>(Bv sg [58] a.2).bind fun s1=>(pE sg n .pick s1).bind fun b=>(AZ ⟨8,[],[p.1,a.1,b.1],false⟩ b.2).map fun q=>(q.1,dp q.2 (-1)) else some (p.1,dp p.2 (-1))) 1:=by
 split
 ·rename_i h20
  have h2:=Wp (d:=0) (g':=pE sg (n+1) .pick) (CK (f:=pE sg (n+1) .pick) h) (fun s hs=>by
   obtain⟨_,rfl⟩:=DX.1 hs
   rw[Wt,if_pos (by simp only;omega)])
  refine JJ (d:=0) h2 ⟨by simp only[Bn];omega,by simp only[Bn];omega⟩ (fun s hs=> ?_)
  rw[HC] at hs;cases hs
 ·rename_i h20
  refine JJ (d:=0) (CK h) ⟨by have:=h.2.1.1;omega,by omega⟩ (fun s hs=> ?_)
  obtain⟨_,rfl⟩:=DX.1 hs
  rw[Wt,if_neg (by simp only;omega)]
theorem Wu{sg:List Sg}{x:Gs}{n:Nat}{z:Int×Gs}(h:gsOk sg x)(hd:x.deep≤20)(h1:Af sg (gDp (if x.deep=20 then Bn x else x) 1) (pE sg n (.chain 0)) z):
 restP sg x (pE sg (n+1) .pick) z.2 (fun s=>if isM sg s [63] then(pE sg n .pick (adv s)).bind fun a=>(Bv sg [58] a.2).bind fun s1=>(pE sg n .pick s1).bind fun b=>(AZ ⟨8,[],[z.1,a.1,b.1],false⟩ b.2).map fun q=>(q.1,dp q.2 (-1)) else some (z.1,dp s (-1))) 1:=
 BH (k:=fun k s=>if isM sg s [63] then(pE sg n .pick (adv s)).bind fun a=>(Bv sg [58] a.2).bind fun s1=>(pE sg n .pick s1).bind fun b=>(AZ ⟨8,[],[k,a.1,b.1],false⟩ b.2).map fun q=>(q.1,dp q.2 (-1)) else some (k,dp s (-1))) (a3C h hd) h1.1 (fun _ _=>rfl)
theorem MF{x:Gs}:(gDp (if x.deep=20 then Bn x else x) 1).pos=x.pos∧(gDp (if x.deep=20 then Bn x else x) 1).deep=x.deep+1∧((gDp (if x.deep=20 then Bn x else x) 1).bad=false→x.bad=false∧x.deep≠20):=by
 split
 ·exact⟨rfl,rfl,fun h=>by simp [gDp,Bn] at h⟩
 ·rename_i h;exact⟨rfl,rfl,fun h2=>⟨h2,h⟩⟩
theorem a3D{sg:List Sg}{x:Gs}{n:Nat}{z:Int×Gs}(h:gsOk sg x)(hd:x.deep≤20)(h1:Af sg (gDp (if x.deep=20 then Bn x else x) 1) (pE sg n (.chain 0)) z)(hq:isG sg z.2 4 [63]=false):
 Af sg x (pE sg (n+1) .pick) (z.1,gDp z.2 (-1)):=by
 have h2:=Ds (Wu h hd h1) (g':=fun s=>some (z.1,dp s (-1))) (fun s hs=>by rw[if_neg (by simp [DY hs hq])])
 obtain⟨e1,e2,e3,e4⟩:=Ct h1
 obtain⟨p1,p2,p3⟩:= @MF x
 refine⟨FH (JJ (e:= -1) h2 ?_ (fun s hs=>rfl)),fun hb=> ?_⟩
 ·have:=h.2.1;omega
 ·have:=e4 hb;show x.pos<z.2.pos;omega
theorem a3E{sg:List Sg}{x:Gs}{n:Nat}{z a b:Int×Gs}(h:gsOk sg x)(hd:x.deep≤20)(h1:Af sg (gDp (if x.deep=20 then Bn x else x) 1) (pE sg n (.chain 0)) z)(hq:isG sg z.2 4 [63]=true)
 (h2:Af sg (An z.2) (pE sg n .pick) a) (h3:Af sg (Aq sg a.2 [58]) (pE sg n .pick) b):
 Af sg x (pE sg (n+1) .pick) (AB b.2,gDp (Al b.2 ⟨8,[],[z.1,a.1,b.1],false⟩) (-1)):=by
 have k1:=FI (g':=fun s=>(pE sg n .pick s).bind fun a=>(Bv sg [58] a.2).bind fun s1=>(pE sg n .pick s1).bind fun b=>(AZ ⟨8,[],[z.1,a.1,b.1],false⟩ b.2).map fun q=>(q.1,dp q.2 (-1)))
  (Wu h hd h1) (by omega) hq (fun s hs ht=>by rw[if_pos (show isM sg s [63]=true from ht)])
 have k2:=BH (k:=fun a s=>(Bv sg [58] s).bind fun s1=>(pE sg n .pick s1).bind fun b=>(AZ ⟨8,[],[z.1,a,b.1],false⟩ b.2).map fun q=>(q.1,dp q.2 (-1))) k1 h2.1 (fun _ _=>rfl)
 have k3:=Gk (g':=fun s1=>(pE sg n .pick s1).bind fun b=>(AZ ⟨8,[],[z.1,a.1,b.1],false⟩ b.2).map fun q=>(q.1,dp q.2 (-1))) k2 (fun _ _=>rfl)
 have k4:=BH (k:=fun b s=>(AZ ⟨8,[],[z.1,a.1,b],false⟩ s).map fun q=>(q.1,dp q.2 (-1))) k3 h3.1 (fun _ _=>rfl)
 have hw:CG ⟨8,[],[z.1,a.1,b.1],false⟩:=⟨by simp,by simp⟩
 have k5:=BH (k:=fun k s=>some (k,dp s (-1))) k4 (Ou k4.1 hw) (fun s _=>by cases AZ ⟨8,[],[z.1,a.1,b.1],false⟩ s<;>rfl)
 simp only at k5
 obtain⟨d1,d2,d3⟩:= @HF b.2 ⟨8,[],[z.1,a.1,b.1],false⟩
 refine⟨FH (JJ (e:= -1) k5 ?_ (fun s hs=>rfl)),fun hb=> ?_⟩
 ·have:=k5.2.1;have:=h.2.1;omega
 ·have hb2:=d3 hb
  obtain⟨p1,p2,p3⟩:= @MF x
  have e1:=Ct h1;have e2:=Ct h2;have e3:=Ct h3
  have e4:=MA (m:=[58]) (EM h2)
  have e5:=(MA (m:=[58]) (EM h2)).1.2.2.1
  show x.pos<(Al b.2 ⟨8,[],[z.1,a.1,b.1],false⟩).pos
  have ea:(An z.2).pos=z.2.pos+1:=rfl
  have:=e3.2.1
  omega
def Ix(sg:List Sg)(n:Nat)(x y:Gs)(ks:List Int)(N:Nat):Prop:=
 restP sg x (pE sg (n+1) .value) y (fun s=>(EL sg (pE sg n .value) N ks s).bind fun q=>AZ ⟨10,[],q.1,false⟩ q.2) 0∧(sg.length:Int)-y.pos<N∧(ks.length:Int)≤y.pos+1∧(y.bad=false→x.pos<y.pos)
theorem a3F{sg:List Sg}{x:Gs}{n:Nat}{z:Int×Gs}(h:gsOk sg x)(h1:Af sg x (pE sg n .pick) z)(hq:isG sg z.2 4 [46,46]=false):Af sg x (pE sg (n+1) .value) z:=by
 have k1:=BH (k:=fun k s=>if isM sg s [46,46] then(EL sg (pE sg n .value) (sg.length+1) [k] s).bind fun q=>AZ ⟨10,[],q.1,false⟩ q.2 else some (k,s)) (CK (f:=pE sg (n+1) .value) h) h1.1 (fun _ _=>rfl)
 have k2:=Ds k1 (g':=fun s=>some (z.1,s)) (fun s hs=>by rw[if_neg (by simp [DY hs hq])])
 exact⟨FH k2,h1.2⟩
theorem a3G{sg:List Sg}{x:Gs}{n:Nat}{z:Int×Gs}(h:gsOk sg x)(h1:Af sg x (pE sg n .pick) z)(hq:isG sg z.2 4 [46,46]=true):Ix sg n x z.2 [z.1] (sg.length+1):=by
 have k1:=BH (k:=fun k s=>if isM sg s [46,46] then(EL sg (pE sg n .value) (sg.length+1) [k] s).bind fun q=>AZ ⟨10,[],q.1,false⟩ q.2 else some (k,s)) (CK (f:=pE sg (n+1) .value) h) h1.1 (fun _ _=>rfl)
 have k2:=Ds k1 (g':=fun s=>(EL sg (pE sg n .value) (sg.length+1) [z.1] s).bind fun q=>AZ ⟨10,[],q.1,false⟩ q.2) (fun s hs=>by rw[if_pos (HD hs hq)])
 have:=k2.1.1
 exact⟨k2,by omega,by simp;omega,h1.2⟩
theorem val_go{sg:List Sg}{x y:Gs}{n N:Nat}{ks:List Int}{w:Int×Gs}(hs:sgB sg)(h:Ix sg n x y ks N)(hq:isG sg y 4 [46,46]=true)
 (h2:Af sg (Dr sg (An y)) (CF sg (pE sg n .value) (DA sg (An y))) w):∃M,N=M+1∧Ix sg n x w.2 (ks++[w.1]) M:=by
 obtain⟨h1,hN,hk,hb⟩:=h
 obtain⟨hl1,hl⟩:=CI hq (by omega)
 match N with
 |0=>omega
 |M+1=>
  refine⟨M,rfl,?_⟩
  have k1:=FI (g':=fun s=>((BM sg s).bind fun p=>(CF sg (pE sg n .value) p.1 p.2).bind fun q=>EL sg (pE sg n .value) M (ks++[q.1]) q.2).bind fun q=>AZ ⟨10,[],q.1,false⟩ q.2)
   h1 (by omega) hq (fun s hs ht=>by rw[EL,if_pos (show isM sg s [46,46]=true from ht)])
  have k2:=BH (k:=fun k s=>((CF sg (pE sg n .value) k s).bind fun q=>EL sg (pE sg n .value) M (ks++[q.1]) q.2).bind fun q=>AZ ⟨10,[],q.1,false⟩ q.2) k1 (Ov hs k1.1).1 (fun s _=>by simp only[Option.bind_assoc])
  have k3:=BH (k:=fun k s=>(EL sg (pE sg n .value) M (ks++[k]) s).bind fun q=>AZ ⟨10,[],q.1,false⟩ q.2) k2 h2.1 (fun s _=>by simp only[Option.bind_assoc])
  have e0:(An y).pos≤(Dr sg (An y)).pos:=(Ov hs k1.1).1.2.2.1
  have e1:=Ct h2
  have ea:(An y).pos=y.pos+1:=rfl
  refine⟨k3,by omega,by simp;omega,fun hb2=> ?_⟩
  have:=h1.2.2.1
  omega
theorem a3H{sg:List Sg}{x y:Gs}{n N:Nat}{ks:List Int}(h:Ix sg n x y ks N)(hq:isG sg y 4 [46,46]=false)(hs:sgB sg):Af sg x (pE sg (n+1) .value) (AB y,Al y ⟨10,[],ks,false⟩):=by
 obtain⟨h1,hN,hk,hb⟩:=h
 have hp:=h1.1.1
 match N with
 |0=>omega
 |M+1=>
  have k1:=Ds h1 (g':=AZ ⟨10,[],ks,false⟩) (fun s hs=>by rw[EL,if_neg (by simp [DY hs hq])];rfl)
  have:=hs.1
  refine⟨Oy k1 ⟨by simp,by simp only;omega⟩,fun hb2=> ?_⟩
  obtain⟨d1,d2,d3⟩:= @HF y ⟨10,[],ks,false⟩
  simp only[d2];exact hb (d3 hb2)
theorem Wv{sg:List Sg}{one:Ps→PR}{m:List UInt8}{a:List Int}:∀(n:Nat) (ks:List Int) (s:Ps),Bo sg one m n (a++ks) s=(Bo sg one m n ks s).map fun p=>(a++p.1,p.2)
 |0,ks,s=>rfl
 |n+1,ks,s=>by
  rw[Bo,Bo]
  split
  ·rfl
  ·cases one s with
   |none=>rfl
   |some p=>
    simp only[Option.bind_some]
    split
    ·rw[List.append_assoc,Wv n (ks++[p.1])]
    ·simp
def Hi(sg:List Sg)(one:Ps→PR)(m:List UInt8)(x y:Gs)(ks:List Int)(N:Nat):Prop:=
 restP sg x (Bo sg one m (sg.length+1) []) y (Bo sg one m N ks) 0∧(sg.length:Int)-y.pos<N∧(ks.length:Int)≤y.pos
theorem a3I{sg:List Sg}{one:Ps→PR}{m:List UInt8}{x:Gs}(h:gsOk sg x):Hi sg one m x x [] (sg.length+1):=by
 have:=h.1
 exact⟨CK h,by omega,by simp;omega⟩
theorem a3J{sg:List Sg}{one:Ps→PR}{m:List UInt8}{x y:Gs}{ks:List Int}{N:Nat}(h:Hi sg one m x y ks N)(hb:y.bad=true):Bu sg x (Bo sg one m (sg.length+1) []) (ks,y):=ME h.1 hb
theorem a3K{sg:List Sg}{one:Ps→PR}{m:List UInt8}{x y:Gs}{ks:List Int}{N:Nat}(h:Hi sg one m x y ks N)(hq:isG sg y 4 m=true):Bu sg x (Bo sg one m (sg.length+1) []) (ks,y):=by
 obtain⟨h1,hN,hk⟩:=h
 have:=h1.1.1
 match N with
 |0=>omega
 |M+1=>exact FH (Ds h1 (g':=fun s=>some (ks,s)) (fun s hs=>a3y (HD hs hq)))
theorem Ww{sg:List Sg}{one:Ps→PR}{m:List UInt8}{x y:Gs}{ks:List Int}{M:Nat}{z:Int×Gs}(h:Hi sg one m x y ks (M+1))(hq:isG sg y 4 m=false)(hz:Af sg y one z):
 restP sg x (Bo sg one m (sg.length+1) []) z.2 (fun s=>if isM sg s [44] then Bo sg one m M (ks++[z.1]) (adv s) else some (ks++[z.1],s)) 0:=by
 have k1:=Ds h.1 (g':=fun s=>(one s).bind fun p=>if isM sg p.2 [44] then Bo sg one m M (ks++[p.1]) (adv p.2) else some (ks++[p.1],p.2)) (fun s hs=>a3z (DY hs hq))
 exact BH (k:=fun k s=>if isM sg s [44] then Bo sg one m M (ks++[k]) (adv s) else some (ks++[k],s)) k1 hz.1 (fun _ _=>rfl)
theorem Wx{sg:List Sg}{one:Ps→PR}{m:List UInt8}{x y:Gs}{ks:List Int}{N:Nat}(h:Hi sg one m x y ks N):∃M,N=M+1:=by
 obtain⟨h1,hN,hk⟩:=h
 have:=h1.1.1
 match N with
 |0=>omega
 |M+1=>exact⟨M,rfl⟩
theorem a3L{sg:List Sg}{one:Ps→PR}{m:List UInt8}{x y:Gs}{ks:List Int}{N:Nat}{z:Int×Gs}(h:Hi sg one m x y ks N)(hq:isG sg y 4 m=false)(hz:Af sg y one z)(hc:isG sg z.2 4 [44]=false):
 Bu sg x (Bo sg one m (sg.length+1) []) (ks++[z.1],z.2):=by
 obtain⟨M,rfl⟩:=Wx h
 exact FH (Ds (Ww h hq hz) (g':=fun s=>some (ks++[z.1],s)) (fun s hs=>by rw[if_neg (by simp [DY hs hc])]))
theorem a3M{sg:List Sg}{one:Ps→PR}{m:List UInt8}{x y:Gs}{ks:List Int}{N:Nat}{z:Int×Gs}(h:Hi sg one m x y ks N)(hq:isG sg y 4 m=false)(hz:Af sg y one z)(hc:isG sg z.2 4 [44]=true):
 ∃M,N=M+1∧Hi sg one m x (An z.2) (ks++[z.1]) M:=by
 obtain⟨M,rfl⟩:=Wx h
 have k1:=FI (g':=Bo sg one m M (ks++[z.1])) (Ww h hq hz) (by omega) hc (fun s hs ht=>by rw[if_pos (show isM sg s [44]=true from ht)])
 have e:=Ct hz
 obtain⟨h1,hN,hk⟩:=h
 refine⟨M,rfl,k1,?_,?_⟩
 ·simp only[An];omega
 ·simp only[An,List.length_append,List.length_cons,List.length_nil];omega
theorem a3N{sg:List Sg}{val:Ps→PR}{x:Gs}{k:Int}{l:List Int×Gs}(hx:gsOk sg x)(hl:Bu sg (Aq sg x [40]) (Bo sg val [41] (sg.length+1) []) l)(hll:l.1.length≤3001):
 Af sg x (CF sg val k) (Cp sg l.2 [41],Co sg l.2 [41] ⟨5,[],k::l.1,false⟩):=by
 have k1:=Gk (g':=fun s=>(Bo sg val [41] (sg.length+1) [k] s).bind fun p=>Bm sg [41] ⟨5,[],p.1,false⟩ p.2) (CK (f:=CF sg val k) hx) (fun _ _=>rfl)
 have k2:=BH (k:=fun ks s=>Bm sg [41] ⟨5,[],k::ks,false⟩ s) k1 hl (fun s _=>by
  rw[show([k]:List Int)=[k]++[] from rfl,Wv]
  cases Bo sg val [41] (sg.length+1) [] s<;>rfl)
 have hw:CG ⟨5,[],k::l.1,false⟩:=⟨by simp,by simp;omega⟩
 refine⟨Oz k2 hw,fun hb=> ?_⟩
 have:=(La (m:=[41]) hl.1 hw).2 hb
 have e1:=hl.2.2.1
 have e2:=(MA (m:=[40]) hx).1.2.2.1
 simp only at this ⊢
 omega
end Go.My
end
section
set_option linter.unusedVariables false
set_option linter.unusedSimpArgs false
namespace Go.My
open Go.Eng
def chF(sg:List Sg)(n l N:Nat)(t:List UInt8)(ks:List Int):Ps→PR:=FE sg l (pE sg n (.chain (l+1))) N t ks
def chO(sg:List Sg)(n l:Nat)(x y:Gs)(k:Int)(N:Nat):Prop:=
 restP sg x (pE sg (n+1) (.chain l)) y (chF sg n l N [] [k]) 0∧2*((sg.length:Int)-y.pos)+3≤N∧(y.bad=false→x.pos<y.pos)
def chN(sg:List Sg)(n l:Nat)(m:List UInt8)(x y:Gs)(ks:List Int)(N:Nat):Prop:=
 restP sg x (pE sg (n+1) (.chain l)) y (chF sg n l N m ks) 0∧(2*((sg.length:Int)-y.pos)+4≤N∨(isG sg y 4 m=true∧2*((sg.length:Int)-y.pos)+3≤N))∧(ks.length:Int)≤y.pos+1∧(y.bad=false→x.pos<y.pos)
theorem a3O{sg:List Sg}{x:Gs}{n:Nat}{z:Int×Gs}(h1:Af sg x (pE sg n .fin) z):Af sg x (pE sg (n+1) (.chain 6)) z:=h1
theorem a3P{sg:List Sg}{x:Gs}{n l:Nat}{z:Int×Gs}(h:gsOk sg x)(hl:l≠6)(h1:Af sg x (pE sg n (.chain (l+1))) z):chO sg n l x z.2 z.1 (2*sg.length+4):=by
 have k1:=Ds (CK (f:=pE sg (n+1) (.chain l)) h) (g':=fun s=>(pE sg n (.chain (l+1)) s).bind fun p=>FE sg l (pE sg n (.chain (l+1))) (2*sg.length+4) [] [p.1] p.2) (fun s _=>by rw[a3B,if_neg hl])
 have k2:=BH (k:=fun k s=>chF sg n l (2*sg.length+4) [] [k] s) k1 h1.1 (fun _ _=>rfl)
 have:=k2.1.1
 exact⟨k2,by omega,h1.2⟩
def CL(sg:List Sg)(l:Nat)(g:Gs):List UInt8:=((BE l).find? fun m=>isG sg g 4 m).getD []
theorem Iy{sg:List Sg}{l:Nat}{g:Gs}{s:Ps}(hs:pur g=some s):Hz sg l s=CL sg l g:=by
 unfold Hz CL
 congr 2
 funext m
 exact(On hs).symm
theorem chMG_t{sg:List Sg}{l:Nat}{g:Gs}(hb:g.bad=true):CL sg l g=[]:=by
 unfold CL
 rw[List.find?_eq_none.2 (by intro m _;rw[Wj (Dq hb) (by omega)];simp)];rfl
theorem a3Q{l:Nat}{m:List UInt8}(h:m∈BE l):m≠[]:=by
 unfold BE at h
 split at h<;>simp at h<;>(first|(subst h;simp)|(rcases h with rfl|rfl<;>simp))
theorem Iz{sg:List Sg}{l:Nat}{g:Gs}(h:CL sg l g≠[]):isG sg g 4 (CL sg l g)=true∧CL sg l g∈BE l:=by
 unfold CL at h ⊢
 cases hf:(BE l).find? fun m=>isG sg g 4 m with
 |none=>rw[hf] at h;exact(h rfl).elim
 |some m=>exact⟨by simpa using List.find?_some hf,by simpa using List.mem_of_find?_eq_some hf⟩
theorem a3R{sg:List Sg}{g:Gs}{m m':List UInt8}(h:isG sg g 4 m=true)(h':isG sg g 4 m'=true):m=m':=by
 simp [isG] at h h';rw[←h.2,h'.2]
theorem a3S{sg:List Sg}{l:Nat}{g:Gs}{m:List UInt8}(hm:m∈BE l)(h:isG sg g 4 m=true):CL sg l g=m:=by
 unfold CL
 cases hf:(BE l).find? fun m=>isG sg g 4 m with
 |none=>exact(List.find?_eq_none.1 hf m hm (by simpa using h)).elim
 |some m'=>exact(a3R (by simpa using List.find?_some hf) h)
def enI(sg:List Sg)(n:Nat)(x y:Gs)(k:Int)(N:Nat):Prop:=
 restP sg x (pE sg (n+1) .fin) y (Fh sg (pE sg n .value) N k) 0∧(y.bad=false→(sg.length:Int)-y.pos<N)∧(y.bad=false→x.pos<y.pos)
theorem a3T{sg:List Sg}{x:Gs}{n:Nat}{z:Int×Gs}(h:gsOk sg x)(h1:Af sg x (pE sg n .base) z):enI sg n x z.2 z.1 (sg.length+1):=by
 have k1:=BH (k:=fun k s=>Fh sg (pE sg n .value) (sg.length+1) k s) (CK (f:=pE sg (n+1) .fin) h) h1.1 (fun _ _=>rfl)
 have:=k1.1.1
 exact⟨k1,fun _=>by omega,h1.2⟩
theorem MG{sg:List Sg}{n:Nat}{x y:Gs}{k:Int}{N:Nat}(h:enI sg n x y k N)(hb:y.bad=false):∃M,N=M+1:=by
 have h1:=h.1.1.1;have h2:=h.2.1 hb
 match N with
 |0=>omega
 |M+1=>exact⟨M,rfl⟩
theorem a3U{sg:List Sg}{n:Nat}{x y:Gs}{k a:Int}{N:Nat}(h:enI sg n x y k N)(hb:y.bad=true):Af sg x (pE sg (n+1) .fin) (a,y):=
 ⟨ME h.1 hb,fun hb2=>by simp only at hb2;rw[hb] at hb2;cases hb2⟩
theorem a3V{sg:List Sg}{n:Nat}{x y:Gs}{k:Int}{N:Nat}{w:Int×Gs}(h:enI sg n x y k N)(hq:isG sg y 4 [40]=true)(hw:Af sg y (CF sg (pE sg n .value) k) w):
 ∃M,N=M+1∧enI sg n x w.2 w.1 M:=by
 have hl:=CI hq (by omega)
 obtain⟨M,rfl⟩:=MG h hl.1
 obtain⟨h1,hN,hb⟩:=h
 have k1:=Ds h1 (g':=fun s=>(CF sg (pE sg n .value) k s).bind fun p=>Fh sg (pE sg n .value) M p.1 p.2) (fun s hs=>by rw[Fh,if_pos (HD hs hq)])
 have k2:=BH (k:=fun k s=>Fh sg (pE sg n .value) M k s) k1 hw.1 (fun _ _=>rfl)
 have e:=Ct hw
 have hN2:=hN hl.1;have hb2:=hb hl.1
 exact⟨M,rfl,k2,fun hwb=>by have:=e.2.2.2 hwb;omega,fun hwb=>by have:=e.2.2.2 hwb;omega⟩
theorem a3W{sg:List Sg}{n:Nat}{x y:Gs}{k:Int}{N:Nat}(hs:sgB sg)(h:enI sg n x y k N)(hp:isG sg y 4 [40]=false)(hq:isG sg y 4 [46]=true)(hn:nmG sg (An y) 0=true):
 ∃M,N=M+1∧enI sg n x (CJ (Al (An y) ⟨6,(pkG sg (An y) 0).text,[k],false⟩)) (AB (An y)) M:=by
 have hl:=CI hq (by omega)
 obtain⟨M,rfl⟩:=MG h hl.1
 obtain⟨h1,hN,hb⟩:=h
 have hw:CG ⟨6,(pkG sg (An y) 0).text,[k],false⟩:=⟨MC hs,by simp⟩
 have hn2:=Oo hn
 have k1:=FI (g':=fun s=>(Fg (AZ ⟨6,(pkG sg (An y) 0).text,[k],false⟩ s)).bind fun p=>Fh sg (pE sg n .value) M p.1 p.2) h1 (by omega) hq (fun s hs ht=>by
  obtain⟨hb0,rfl⟩:=DX.1 hs
  rw[Fh,if_neg (by simp [DY hs hp]),if_pos (show isM sg _ [46]=true from ht)]
  have e1:CV sg (y.pos+1)=true:=by
   have:=JH (sg:=sg) (n:=0) (g:=An y) (CH hn2.1)
   rw[hn] at this;simpa [An] using this.symm
  have e2:(pkG sg (An y) 0)=sgO sg (y.pos+1):=by rw[HB hn2.1];simp [An]
  rw[if_pos e1,e2])
 have hg:=RS k1.1 hw (fun _=>by omega)
 have k2:=BH (k:=fun k s=>Fh sg (pE sg n .value) M k s) k1 hg.1 (fun _ _=>rfl)
 have e:=Ct hg
 have hN2:=hN hl.1;have hb2:=hb hl.1
 simp only[An] at e
 exact⟨M,rfl,k2,fun hwb=>by have:=e.2.2.2 hwb;simp only[An] at*;omega,fun hwb=>by have:=e.2.2.2 hwb;simp only[An] at*;omega⟩
theorem a3X{sg:List Sg}{n:Nat}{x y:Gs}{k a:Int}{N:Nat}(h:enI sg n x y k N)(hp:isG sg y 4 [40]=false)(hq:isG sg y 4 [46]=true)(hn:nmG sg (An y) 0=false):
 Af sg x (pE sg (n+1) .fin) (a,Bn (An y)):=by
 have hl:=CI hq (by omega)
 obtain⟨M,rfl⟩:=MG h hl.1
 obtain⟨h1,hN,hb⟩:=h
 have k1:=FI (g':=fun _=>none) h1 (by omega) hq (fun s hs ht=>by
  obtain⟨hb0,rfl⟩:=DX.1 hs
  rw[Fh,if_neg (by simp [DY hs hp]),if_pos (show isM sg _ [46]=true from ht)]
  have e1:CV sg (y.pos+1)=false:=by
   have:=JH (sg:=sg) (n:=0) (g:=An y) (CH (by simpa [An] using hb0))
   rw[hn] at this;simpa [An] using this.symm
  rw[if_neg (by simp [e1])])
 exact⟨Wo k1 (fun _ _=>rfl),fun hb2=>by simp [Bn] at hb2⟩
theorem a3Y{sg:List Sg}{n:Nat}{x y:Gs}{k:Int}{N:Nat}(h:enI sg n x y k N)(hb:y.bad=false)(hp:isG sg y 4 [40]=false)(hq:isG sg y 4 [46]=false):Af sg x (pE sg (n+1) .fin) (k,y):=by
 obtain⟨M,rfl⟩:=MG h hb
 exact⟨FH (Ds h.1 (g':=fun s=>some (k,s)) (fun s hs=>by rw[Fh,if_neg (by simp [DY hs hp]),if_neg (by simp [DY hs hq])])),h.2.2⟩
theorem OA{sg:List Sg}{g:Gs}{s:Ps}(hs:pur g=some s):(pkG sg g 0).kind=(sgO sg s.pos).kind:=by
 obtain⟨h,rfl⟩:=DX.1 hs
 rw[HB h];simp
theorem OB{sg:List Sg}{g:Gs}(h:(pkG sg g 0).kind≠0):g.bad=false∧g.pos<sg.length:=by
 unfold pkG at h
 split at h
 ·simp [DW] at h
 ·rename_i hh;simp only[Int.add_zero] at hh;exact⟨by cases hb:g.bad<;>simp_all,by omega⟩
theorem Wy{sg:List Sg}{x:Gs}{n:Nat}(hs:sgB sg)(h:gsOk sg x)(hk:(pkG sg x 0).kind=1):Af sg x (pE sg (n+1) .base) (DA sg x,Dr sg x):=by
 obtain⟨a,b⟩:=Ov hs h
 have e:(pur x).bind (pE sg (n+1) .base)=(pur x).bind (BM sg):=by
  cases hp:pur x with
  |none=>rfl
  |some s=>simp only[Option.bind_some];rw[pE,if_pos (by rw[←OA hp];exact hk)]
 obtain⟨a1,a2,a3,a4,a5⟩:=a
 exact⟨⟨a1,a2,a3,by rw[e];exact a4,by rw[e];exact a5⟩,b⟩
theorem a3Z{sg:List Sg}{x:Gs}{n:Nat}{k:Int}(hs:sgB sg)(h:gsOk sg x)(hk:(pkG sg x 0).kind=k)(hk2:k=2∨k=3):Af sg x (pE sg (n+1) .base) (AB x,DJ sg x k false):=by
 have hl:=OB (sg:=sg) (g:=x) (by rw[hk];omega)
 obtain⟨a,b⟩:=MD (k:=k) (b:=false) hs h (fun _=>hl.2)
 have e:(pur x).bind (pE sg (n+1) .base)=(pur x).bind (EK sg k false):=by
  cases hp:pur x with
  |none=>rfl
  |some s=>
   simp only[Option.bind_some]
   have:=OA (sg:=sg) hp
   rcases hk2 with rfl|rfl
   ·rw[pE,if_neg (by omega),if_pos (by omega)]
   ·rw[pE,if_neg (by omega),if_neg (by omega),if_pos (by omega)]
 obtain⟨a1,a2,a3,a4,a5⟩:=a
 exact⟨⟨a1,a2,a3,by rw[e];exact a4,by rw[e];exact a5⟩,b⟩
theorem MH{sg:List Sg}{x:Gs}{s:Ps}{n:Nat}(hs:pur x=some s)(h1:(pkG sg x 0).kind≠1)(h2:(pkG sg x 0).kind≠2)(h3:(pkG sg x 0).kind≠3):pE sg (n+1) .base s=
 if isM sg s [91] then(Bo sg (pE sg n .value) [93] (sg.length+1) [] (adv s)).bind fun p=>Bm sg [93] ⟨4,[],p.1,false⟩ p.2
 else if isM sg s [40]&&Iu sg s then(Bo sg (BM sg) [41] (sg.length+1) [] (adv s)).bind fun p=>(Bv sg [41] p.2).bind fun s1=>(Bv sg [61,62] s1).bind fun s2=>(pE sg n .pick s2).bind fun q=>AZ ⟨9,[],p.1++[q.1],false⟩ q.2
 else if isM sg s [40] then(pE sg n .value (adv s)).bind fun p=>Bm sg [41] ⟨11,[],[p.1],false⟩ p.2
 else none:=by
 have:=OA (sg:=sg) hs
 rw[pE,if_neg (by omega),if_neg (by omega),if_neg (by omega)]
theorem a4a{sg:List Sg}{x:Gs}{n:Nat}{l:List Int×Gs}(h:gsOk sg x)(h1:(pkG sg x 0).kind≠1)(h2:(pkG sg x 0).kind≠2)(h3:(pkG sg x 0).kind≠3)(hq:isG sg x 4 [91]=true)
 (hl:Bu sg (An x) (Bo sg (pE sg n .value) [93] (sg.length+1) []) l) (hll:l.1.length≤3001):
 Af sg x (pE sg (n+1) .base) (Cp sg l.2 [93],Co sg l.2 [93] ⟨4,[],l.1,false⟩):=by
 have k1:=FI (g':=fun s=>(Bo sg (pE sg n .value) [93] (sg.length+1) [] s).bind fun p=>Bm sg [93] ⟨4,[],p.1,false⟩ p.2) (CK (f:=pE sg (n+1) .base) h) (by omega) hq
  (fun s hs ht=>by rw[MH hs h1 h2 h3,if_pos (show isM sg s [91]=true from ht)])
 have k2:=BH (k:=fun ks s=>Bm sg [93] ⟨4,[],ks,false⟩ s) k1 hl (fun _ _=>rfl)
 have hw:CG ⟨4,[],l.1,false⟩:=⟨by simp,by simp only;omega⟩
 refine⟨Oz k2 hw,fun hb=> ?_⟩
 have:=(La (m:=[93]) hl.1 hw).2 hb
 have e1:=hl.2.2.1
 simp only[An] at this e1 ⊢
 omega
theorem a4b{sg:List Sg}{x:Gs}{n:Nat}{z:Int×Gs}(h:gsOk sg x)(h1:(pkG sg x 0).kind≠1)(h2:(pkG sg x 0).kind≠2)(h3:(pkG sg x 0).kind≠3)(hn:isG sg x 4 [91]=false)(hq:isG sg x 4 [40]=true)
 (ha:∀s,pur x=some s→Iu sg s=false) (hz:Af sg (An x) (pE sg n .value) z):
 Af sg x (pE sg (n+1) .base) (Cp sg z.2 [41],Co sg z.2 [41] ⟨11,[],[z.1],false⟩):=by
 have k1:=FI (g':=fun s=>(pE sg n .value s).bind fun p=>Bm sg [41] ⟨11,[],[p.1],false⟩ p.2) (CK (f:=pE sg (n+1) .base) h) (by omega) hq
  (fun s hs ht=>by rw[MH hs h1 h2 h3,if_neg (by simp [DY hs hn]),if_neg (by simp [ha s hs]),if_pos (show isM sg s [40]=true from ht)])
 have k2:=BH (k:=fun k s=>Bm sg [41] ⟨11,[],[k],false⟩ s) k1 hz.1 (fun _ _=>rfl)
 have hw:CG ⟨11,[],[z.1],false⟩:=⟨by simp,by simp⟩
 refine⟨Oz k2 hw,fun hb=> ?_⟩
 have:=(La (m:=[41]) hz.1.1 hw).2 hb
 have e1:=hz.1.2.2.1
 simp only[An] at this e1 ⊢
 omega
theorem a4c{sg:List Sg}{x:Gs}{n:Nat}{a:Int}(h:gsOk sg x)(h1:(pkG sg x 0).kind≠1)(h2:(pkG sg x 0).kind≠2)(h3:(pkG sg x 0).kind≠3)(hn:isG sg x 4 [91]=false)(hq:isG sg x 4 [40]=false):
 Af sg x (pE sg (n+1) .base) (a,Bn x):=
 ⟨Wo (CK h) (fun s hs=>by rw[MH hs h1 h2 h3,if_neg (by simp [DY hs hn]),if_neg (by simp [DY hs hq]),if_neg (by simp [DY hs hq])]),fun hb=>by simp [Bn] at hb⟩
def fnR(sg:List Sg)(n:Nat)(s:Ps):PR:=(Bv sg [40] s).bind fun s0=>(Bo sg (BM sg) [41] (sg.length+1) [] s0).bind fun p=>(Bv sg [41] p.2).bind fun s1=>(Bv sg [61,62] s1).bind fun s2=>(pE sg n .pick s2).bind fun q=>AZ ⟨9,[],p.1++[q.1],false⟩ q.2
theorem a4d{sg:List Sg}{x:Gs}{n:Nat}{l:List Int×Gs}{z:Int×Gs}(h:gsOk sg x)(hl:Bu sg (Aq sg x [40]) (Bo sg (BM sg) [41] (sg.length+1) []) l)(hll:l.1.length≤3001)
 (hz:Af sg (Aq sg (Aq sg l.2 [41]) [61,62]) (pE sg n .pick) z):Af sg x (fnR sg n) (AB z.2,Al z.2 ⟨9,[],l.1++[z.1],false⟩):=by
 have k1:=Gk (g':=fun s0=>(Bo sg (BM sg) [41] (sg.length+1) [] s0).bind fun p=>(Bv sg [41] p.2).bind fun s1=>(Bv sg [61,62] s1).bind fun s2=>(pE sg n .pick s2).bind fun q=>AZ ⟨9,[],p.1++[q.1],false⟩ q.2) (CK (f:=fnR sg n) h) (fun _ _=>rfl)
 have k2:=BH (k:=fun ks s=>(Bv sg [41] s).bind fun s1=>(Bv sg [61,62] s1).bind fun s2=>(pE sg n .pick s2).bind fun q=>AZ ⟨9,[],ks++[q.1],false⟩ q.2) k1 hl (fun _ _=>rfl)
 have k3:=Gk (g':=fun s1=>(Bv sg [61,62] s1).bind fun s2=>(pE sg n .pick s2).bind fun q=>AZ ⟨9,[],l.1++[q.1],false⟩ q.2) k2 (fun _ _=>rfl)
 have k4:=Gk (g':=fun s2=>(pE sg n .pick s2).bind fun q=>AZ ⟨9,[],l.1++[q.1],false⟩ q.2) k3 (fun _ _=>rfl)
 have k5:=BH (k:=fun k s=>AZ ⟨9,[],l.1++[k],false⟩ s) k4 hz.1 (fun _ _=>rfl)
 have hw:CG ⟨9,[],l.1++[z.1],false⟩:=⟨by simp,by simp;omega⟩
 refine⟨Oy k5 hw,fun hb=> ?_⟩
 obtain⟨d1,d2,d3⟩:= @HF z.2 ⟨9,[],l.1++[z.1],false⟩
 have e1:=Ct hz
 have e2:=k4.2.2.1
 have:=e1.2.2.2 (d3 hb)
 simp only[d2];omega
end Go.My
end
section
set_option linter.unusedVariables false
set_option linter.unusedSimpArgs false
namespace Go.My
open Go.Eng Go.Proofs
variable {G:GInv}
abbrev iG {α:Type} (i:Int×Int×Bool×List Nd×α×Nat):Gs:=⟨i.1,i.2.1,i.2.2.1,i.2.2.2.1⟩
def vP(r n:Nat)(s:ST)(g:Gs):Prop:=(rOk s g∧g.deep≤20)∧12*((s.sg.length:Int)-g.pos)+r≤n
def wP(r n:Nat)(s:ST)(g:Gs):Prop:=(rOk s g∧(g.bad=false→g.deep≤20))∧12*((s.sg.length:Int)-g.pos)+r≤n
theorem Le{I:Nat→Prop}{N:Nat}(h:∃M,N=M+1∧I M):I (N-1)∧N-1<N:=by
 obtain⟨M,rfl,h⟩:=h
 exact⟨by simpa using h,by omega⟩
theorem CY{sg:List Sg}{g:Gs}{m:List UInt8}(h:isG sg g 4 m=false):Au sg g m=g:=by simp [Au,h]
theorem DM{sg:List Sg}{g:Gs}{m:List UInt8}(h:isG sg g 4 m=true):Au sg g m=An g:=by simp [Au,h]
theorem a4e{α:Type}{sg:List Sg}{x:Gs}{f:Ps→Option (α×Ps)}{y:α×Gs}(h:Af sg x f y)(hb:y.2.bad=false):x.bad=false:=((Ct h).2.2.2 hb).1
abbrev Lf (sg:List Sg) (one:Ps→PR) (m:List UInt8) (x y:Gs) (ks:List Int) (N:Nat):Prop:=Hi sg one m x y ks N∧(y.bad=false→x.bad=false)
theorem a4f{sg:List Sg}{one:Ps→PR}{m:List UInt8}{x y:Gs}{ks:List Int}{N:Nat}{z:Int×Gs}(h:Lf sg one m x y ks N)(hz:Af sg y one z)(hq:isG sg y 4 m=false)(hc:isG sg z.2 4 [44]=false):
 Bu sg x (Bo sg one m (sg.length+1) []) (ks++[z.1],Au sg z.2 [44]):=by rw[CY hc];exact a3L h.1 hq hz hc
theorem a4g{sg:List Sg}{one:Ps→PR}{m:List UInt8}{x y:Gs}{ks:List Int}{N:Nat}{z:Int×Gs}(h:Lf sg one m x y ks N)(hz:Af sg y one z)(hq:isG sg y 4 m=false)(hc:isG sg z.2 4 [44]=true):
 Lf sg one m x (Au sg z.2 [44]) (ks++[z.1]) (N-1)∧N-1<N:=by
 rw[DM hc]
 obtain⟨a,b⟩:=Le (a3M h.1 hq hz hc)
 exact⟨⟨a,fun hb=>h.2 (a4e hz hb)⟩,b⟩
theorem Fj(g:Gs):(⟨g.pos,g.deep,g.bad,g.nodes⟩:Gs)=g:=rfl
theorem a4h{s:ST}{one:Ps→PR}{m:List UInt8}{x y:Gs}{ks:List Int}{N:Nat}(hr:sgB s.sg)(h:Lf s.sg one m x y ks N):ks.length≤3000:=by
 have h1:=h.1.2.2;have h2:=h.1.1.1.1.2;have h3:=hr.1;omega
theorem a4i{s:ST}{one:Ps→PR}{m:List UInt8}{x y:Gs}{ks:List Int}{N n:Nat}(hr:sgB s.sg)(h:Lf s.sg one m x y ks N)(hb:y.bad=false)(hd:x.bad=false→x.deep≤20)(hn:12*((s.sg.length:Int)-x.pos)+11≤n):vP 11 n s y:=by
 have h1:=h.1.1;have h2:=hd (h.2 hb);have h3:=h1.2.1;have h4:=h1.2.2.1
 exact⟨⟨⟨hr,h1.1⟩,by omega⟩,by omega⟩
theorem a4j{s:ST}{one:Ps→PR}{m:List UInt8}{x y:Gs}{ks:List Int}{N:Nat}(hr:sgB s.sg)(h:Lf s.sg one m x y ks N):rOk s y:=⟨hr,h.1.1.1⟩
theorem a4k{sg:List Sg}{x:Gs}{one:Ps→PR}{k:Int}{l:List Int×Gs}(hx:gsOk sg x)(h:Bu sg (Aq sg x [40]) (Bo sg one [41] (sg.length+1) []) l∧l.1.length≤3001):
 Af sg x (CF sg one k) (Cp sg l.2 [41],Co sg l.2 [41] ⟨5,[],[k]++l.1,false⟩):=a3N hx h.1 h.2
attribute [local irreducible] pE Bo CF fnR Af Bu gsOk Aq Co Al CJ DJ Au Dr DA AB Cp pkG isG nmG
end Go.My
end
section
set_option linter.unusedVariables false
set_option linter.unusedSimpArgs false
namespace Go.My
open Go.Eng Go.Proofs
variable {G:GInv}
theorem MI{sg:List Sg}{f:Ps→PR}{x:Gs}{y:Int×Gs}(h:Af sg x f y)(hb:x.bad=false→x.deep≤20):y.2.bad=false→y.2.deep≤20:=fun hy=>by
 have:=Ct h;have h2:=hb (this.2.2.2 hy).1;omega
theorem Gl{sg:List Sg}{x:Gs}{m:List UInt8}(h:gsOk sg x):gsOk sg (Aq sg x m)∧(Aq sg x m).deep=x.deep∧x.pos≤(Aq sg x m).pos∧((Aq sg x m).bad=false→x.bad=false):=by
 obtain⟨a1,a2,a3,a4⟩:=(MA (m:=m) h).1
 refine⟨a1,a2,a3,fun hb=> ?_⟩
 cases hx:x.bad with
 |false=>rfl
 |true=>rw[Dq hx,CH hb] at a4;cases a4
theorem a4l{s:ST}{x:Gs}{n:Nat}{one:Ps→PR}{l:List Int×Gs}(h:rOk s x)(hd:x.deep≤20)(hq:isG s.sg x 4 [40]=true)(hn:12*((s.sg.length:Int)-x.pos)≤n+2)(hl:Bu s.sg (Aq s.sg x [40]) (Bo s.sg one [41] (s.sg.length+1) []) l∧l.1.length≤3001):
 vP 10 n s (Aq s.sg (Aq s.sg l.2 [41]) [61,62]):=by
 have a:=Gl (m:=[40]) h.2;have b:=Gl (m:=[41]) hl.1.1;have c:=Gl (m:=[61,62]) b.1
 have e1:=hl.1.2.1;have e2:=hl.1.2.2.1
 have e3:(Aq s.sg x [40]).pos=x.pos+1:=by rw[Aq,if_pos hq];rfl
 exact⟨⟨⟨h.1,c.1⟩,by omega⟩,by omega⟩
theorem Ei{s:ST}{x y:Gs}{f:Ps→PR}{z:Int×Gs}(h:rOk s x)(hz:Af s.sg y f z):rOk s z.2:=⟨h.1,EM hz⟩
theorem a4m{l:Nat}:(BE l).length≤2:=by
 unfold BE;split<;>simp
attribute [local irreducible] pE Bo CF fnR Af Bu gsOk Aq Co Al CJ DJ Au Dr DA AB Cp pkG isG nmG
end Go.My
end
section
set_option linter.unusedVariables false
set_option linter.unusedSimpArgs false
namespace Go.My
open Go.Eng Go.Proofs
variable {G:GInv}
theorem Wz{s:ST}{x:Gs}{n r:Nat}{k:Int}{m:List UInt8}(hq:isG s.sg x k m=true)(hk:k≠0)(h1:rOk s x)(h2:x.bad=false→x.deep≤20)(h3:12*((s.sg.length:Int)-x.pos)+1≤(n+1:Nat))(hr:r≤12):wP r n s (An x)∧vP r n s (An x):=by
 have hl:=CI hq hk
 have ha:=Fi h1.2 hl.2
 have hd:=h2 hl.1
 have e:(An x).pos=x.pos+1:=rfl
 have e2:(An x).deep=x.deep:=rfl
 have a:12*((s.sg.length:Int)-(An x).pos)+r≤n:=by omega
 exact⟨⟨⟨⟨h1.1,ha⟩,fun _=>by omega⟩,a⟩,⟨⟨⟨h1.1,ha⟩,by omega⟩,a⟩⟩
abbrev enJ (sg:List Sg) (n:Nat) (x y:Gs) (k:Int) (N:Nat):Prop:=enI sg n x y k N∧(y.bad=false→y.deep≤20)
theorem a4n{s:ST}{x:Gs}{n:Nat}{z:Int×Gs}(h1:rOk s x)(h2:x.bad=false→x.deep≤20)(hz:Af s.sg x (pE s.sg n .base) z):enJ s.sg n x z.2 z.1 (s.sg.length+1):=⟨a3T h1.2 hz,MI hz h2⟩
theorem a4o{sg:List Sg}{n:Nat}{x y:Gs}{k:Int}{N:Nat}{w:Int×Gs}(h:enJ sg n x y k N)(hw:Af sg y (CF sg (pE sg n .value) k) w)(hq:isG sg y 4 [40]=true):enJ sg n x w.2 w.1 (N-1)∧N-1<N:=by
 obtain⟨a,b⟩:=Le (a3V h.1 hq hw)
 exact⟨⟨a,MI hw h.2⟩,b⟩
theorem a4p{s:ST}{x:Gs}{n:Nat}(h1:rOk s x)(h2:x.bad=false→x.deep≤20)(h3:12*((s.sg.length:Int)-x.pos)+2≤(n+1:Nat)):wP 1 n s x:=⟨⟨h1,h2⟩,by omega⟩
attribute [local irreducible] pE Bo CF fnR Af Bu gsOk Aq Co Al CJ DJ Au Dr DA AB Cp pkG isG nmG
end Go.My
end
section
set_option linter.unusedVariables false
set_option linter.unusedSimpArgs false
namespace Go.My
open Go.Eng Go.Proofs
variable {G:GInv}
def a4q(sg:List Sg)(n l:Nat)(m:List UInt8)(x y:Gs)(ks:List Int)(N M:Nat):Prop:=(chN sg n l m x y ks N∧N≤M)∧(y.bad=false→y.deep≤20)
theorem a4r{s:ST}{x:Gs}{n:Nat}{l:Int}{z:Int×Gs}(hl:l=6)(h:Af s.sg x (pE s.sg n .fin) z):Af s.sg x (pE s.sg (n+1) (.chain l.toNat)) z:=by subst hl;exact a3O h
theorem ch_ks{s:ST}{n l:Nat}{x y:Gs}{m:List UInt8}{ks:List Int}{N M:Nat}(hs:sgB s.sg)(h:a4q s.sg n l m x y ks N M):ks.length≤3001:=by
 have:=h.1.1.2.2.1;have:=h.1.1.1.1.1.2;have:=hs.1;omega
abbrev pkX (x:Gs):Gs:=gDp (if x.deep=20 then Bn x else x) 1
theorem WA{s:ST}{x:Gs}{n:Nat}(h1:rOk s x)(h2:x.deep≤20)(h3:12*((s.sg.length:Int)-x.pos)+10≤(n+1:Nat)):wP (9-(0:Int).toNat) n s (pkX x)∧rOk s (pkX x):=by
 obtain⟨p1,p2,p3⟩:= @MF x
 have hok:gsOk s.sg (pkX x):=by
  unfold pkX;split
  ·exact⟨h1.2.1,by simp only[gDp,Bn];have:=h1.2.2.1;omega,h1.2.2.2⟩
  ·exact⟨h1.2.1,by simp only[gDp];have:=h1.2.2.1;omega,h1.2.2.2⟩
 exact⟨⟨⟨⟨h1.1,hok⟩,fun hb=>by have:=p3 hb;simp only[pkX] at*;omega⟩,by simp only[pkX] at*;simp;omega⟩,h1.1,hok⟩
theorem WB{s:ST}{x:Gs}{n:Nat}{z:Int×Gs}(h1:rOk s x)(h2:x.deep≤20)(h3:12*((s.sg.length:Int)-x.pos)+10≤(n+1:Nat))(hz:Af s.sg (pkX x) (pE s.sg n (.chain 0)) z)(hq:isG s.sg z.2 4 [63]=true):vP 10 n s (Au s.sg z.2 [63]):=by
 rw[DM hq]
 have hl:=CI hq (by omega)
 have e:=Ct hz
 obtain⟨p1,p2,p3⟩:= @MF x
 have e1:(An z.2).pos=z.2.pos+1:=rfl
 have e2:(An z.2).deep=z.2.deep:=rfl
 have e3:=p3 (e.2.2.2 hl.1).1
 simp only[pkX] at*
 exact⟨⟨⟨h1.1,Fi (EM hz) hl.2⟩,by omega⟩,by omega⟩
theorem a4s{s:ST}{x:Gs}{n:Nat}{z a:Int×Gs}(h1:rOk s x)(h2:x.deep≤20)(h3:12*((s.sg.length:Int)-x.pos)+10≤(n+1:Nat))(hz:Af s.sg (pkX x) (pE s.sg n (.chain 0)) z)(hq:isG s.sg z.2 4 [63]=true)
 (ha:Af s.sg (Au s.sg z.2 [63]) (pE s.sg n .pick) a):vP 10 n s (Aq s.sg a.2 [58]):=by
 have hv:=WB h1 h2 h3 hz hq
 have e:=Ct ha
 have t:=Gl (m:=[58]) (EM ha)
 have:=hv.2;have:=hv.1.2
 exact⟨⟨⟨h1.1,t.1⟩,by omega⟩,by omega⟩
theorem a4t{s:ST}{x:Gs}{n:Nat}{z a b:Int×Gs}(h1:rOk s x)(h2:x.deep≤20)(hz:Af s.sg (pkX x) (pE s.sg n (.chain 0)) z)(hq:isG s.sg z.2 4 [63]=true)
 (ha:Af s.sg (Au s.sg z.2 [63]) (pE s.sg n .pick) a) (hb:Af s.sg (Aq s.sg a.2 [58]) (pE s.sg n .pick) b):
 Af s.sg x (pE s.sg (n+1) .pick) (AB b.2,gDp (Al b.2 ⟨8,[],[z.1,a.1,b.1],false⟩) (-1)):=by
 rw[DM hq] at ha
 exact a3E h1.2 h2 hz hq ha hb
theorem a4u{s:ST}{x:Gs}{n:Nat}{z:Int×Gs}(h1:rOk s x)(h2:x.deep≤20)(hz:Af s.sg (pkX x) (pE s.sg n (.chain 0)) z)(hq:isG s.sg z.2 4 [63]=false):Af s.sg x (pE s.sg (n+1) .pick) (z.1,gDp (Au s.sg z.2 [63]) (-1)):=by
 rw[CY hq];exact a3D h1.2 h2 hz hq
theorem a4v{s:ST}{x:Gs}{n:Nat}{z:Int×Gs}(h1:rOk s x)(hz:Af s.sg (pkX x) (pE s.sg n (.chain 0)) z)(hq:isG s.sg z.2 4 [63]=false):0≤(Au s.sg z.2 [63]).deep∧(Au s.sg z.2 [63]).deep≤21:=by
 rw[CY hq];exact(EM hz).2.1
theorem RV{g:Gs}{x:Nd}:(Al g x).deep=g.deep:=HF.1
theorem a4w{α:Type}{sg:List Sg}{x:Gs}{f:Ps→Option (α×Ps)}{y:α×Gs}(h:Af sg x f y):0≤y.2.deep∧y.2.deep≤21:=(EM h).2.1
theorem a4x{s:ST}{x:Gs}{n:Nat}(h1:rOk s x)(h2:x.deep≤20)(h3:12*((s.sg.length:Int)-x.pos)+11≤(n+1:Nat)):vP 10 n s x:=⟨⟨h1,h2⟩,by omega⟩
def vaJ(sg:List Sg)(n:Nat)(x y:Gs)(ks:List Int)(N:Nat):Prop:=Ix sg n x y ks N∧y.deep≤20
theorem WC{sg:List Sg}{n:Nat}{x y:Gs}{ks:List Int}{N:Nat}(h:Ix sg n x y ks N∧y.deep≤20):vaJ sg n x y ks N:=h
theorem a4y{s:ST}{x:Gs}{n:Nat}{z:Int×Gs}(h1:rOk s x)(hz:Af s.sg x (pE s.sg n .pick) z)(hq:isG s.sg z.2 4 [46,46]=false):Af s.sg x (pE s.sg (n+1) .value) z:=a3F h1.2 hz hq
theorem a4z{s:ST}{x:Gs}{n:Nat}{z:Int×Gs}(h1:rOk s x)(h2:x.deep≤20)(hz:Af s.sg x (pE s.sg n .pick) z)(hq:isG s.sg z.2 4 [46,46]=true):vaJ s.sg n x z.2 [z.1] (s.sg.length+1):=WC ⟨a3G h1.2 hz hq,by have:=(Ct hz).1;omega⟩
theorem RW{s:ST}{x y:Gs}{n:Nat}{ks:List Int}{N:Nat}(h1:rOk s x)(h:vaJ s.sg n x y ks N):rOk s y:=⟨h1.1,h.1.1.1⟩
theorem a4A{s:ST}{x y:Gs}{n:Nat}{ks:List Int}{N:Nat}(hs:sgB s.sg)(h:vaJ s.sg n x y ks N):ks.length≤3001:=by
 have:=h.1.2.2.1;have:=h.1.1.1.1.2;have:=hs.1;omega
theorem a4B{s:ST}{x y:Gs}{n N:Nat}{ks:List Int}(h1:rOk s x)(h:vaJ s.sg n x y ks N)(hq:isG s.sg y 4 [46,46]=false):Af s.sg x (pE s.sg (n+1) .value) (AB (Au s.sg y [46,46]),Al (Au s.sg y [46,46]) ⟨10,[],ks,false⟩):=by
 rw[CY hq];exact a3H h.1 hq h1.1
theorem a4C{s:ST}{x y:Gs}{n N:Nat}{ks:List Int}(h1:rOk s x)(h:vaJ s.sg n x y ks N)(hq:isG s.sg y 4 [46,46]=false):rOk s (Au s.sg y [46,46]):=by
 rw[CY hq];exact RW h1 h
attribute [local irreducible] pE Bo CF fnR Af Bu gsOk Aq Co Al CJ DJ Au Dr DA AB Cp pkG isG nmG
end Go.My
end
section
set_option linter.unusedVariables false
set_option linter.unusedSimpArgs false
namespace Go.My
open Go.Eng
theorem DZ{k:Int}{t:List UInt8}{ks:List Int}{b:Bool}(ht:t.length≤3000)(hk:ks.length≤4000):CG ⟨k,t,ks,b⟩:=⟨ht,hk⟩
theorem IA{α:Type}{sg:List Sg}{x:Gs}{f g:Ps→Option (α×Ps)}{y:α×Gs}(h:Af sg x g y)(e:∀s,pur x=some s→f s=g s):Af sg x f y:=by
 have e2:(pur x).bind f=(pur x).bind g:=by
  cases hp:pur x with
  |none=>rfl
  |some s=>exact e s hp
 obtain⟨⟨a1,a2,a3,a4,a5⟩,b⟩:=h
 exact⟨⟨a1,a2,a3,by rw[e2];exact a4,by rw[e2];exact a5⟩,b⟩
theorem JK{α:Type}{sg:List Sg}{x:Gs}{k:Int}{m:List UInt8}{f g:Ps→Option (α×Ps)}{y:α×Gs}(hx:gsOk sg x)(hk:k≠0)(hm:isG sg x k m=true)(h:Bu sg (An x) g y)
 (e:∀s,pur x=some s→isT sg s k m=true→f s=g (adv s)):Af sg x f y:=by
 have k1:=FI (g':=g) (CK (f:=f) hx) hk hm e
 have k2:=BH (k:=fun a s=>some (a,s)) k1 h (fun s _=>by cases g s<;>rfl)
 refine⟨FH k2,fun _=> ?_⟩
 have:=h.2.2.1
 simp only[An] at this;omega
theorem JL{sg:List Sg}{x y:Gs}{f:Ps→PR}{w:Nd}{m:List UInt8}(h:restP sg x f y (Bm sg m w) 0)(hw:CG w):Af sg x f (Cp sg y m,Co sg y m w):=by
 refine⟨Oz h hw,fun hb=> ?_⟩
 have:=(La (m:=m) h.1 hw).2 hb
 have:=h.2.2.1
 simp only at*;omega
theorem OC{sg:List Sg}{x y:Gs}{f:Ps→PR}{w:Nd}(h:restP sg x f y (AZ w) 0)(hw:CG w)(hp:y.bad=false→x.pos<y.pos):Af sg x f (AB y,Al y w):=by
 obtain⟨d1,d2,d3⟩:= @HF y w
 exact⟨Oy h hw,fun hb=>by simp only[d2];exact hp (d3 hb)⟩
theorem WD{sg:List Sg}{x:Gs}{b:Bool}(h:gsOk sg x):restP sg x (CW sg b) (Cr sg x) (fun s=>if isM sg s [61] then(Ca sg (adv s)).bind fun q=>Bm sg [59] ⟨12,CC sg x,[q.1],b⟩ q.2 else Bm sg [59] ⟨12,CC sg x,[],b⟩ s) 0:=
 BH (k:=fun t s=>if isM sg s [61] then(Ca sg (adv s)).bind fun q=>Bm sg [59] ⟨12,t,[q.1],b⟩ q.2 else Bm sg [59] ⟨12,t,[],b⟩ s) (CK h) (Lb h).1 (fun _ _=>rfl)
theorem HG{sg:List Sg}{x:Gs}(hs:sgB sg):(CC sg x).length≤3000:=by
 unfold CC;split
 ·exact MC hs
 ·simp
theorem a4D{sg:List Sg}{x:Gs}{b:Bool}(hs:sgB sg)(h:gsOk sg x)(hq:isG sg (Cr sg x) 4 [61]=false):
 Af sg x (CW sg b) (Cp sg (Cr sg x) [59],Co sg (Cr sg x) [59] ⟨12,CC sg x,[],b⟩):=
 JL (Ds (WD h) (fun s hs=>by rw[if_neg (by simp [DY hs hq])])) (DZ (HG hs) (by simp))
theorem a4E{sg:List Sg}{x:Gs}{b:Bool}{z:Int×Gs}(hs:sgB sg)(h:gsOk sg x)(hq:isG sg (Cr sg x) 4 [61]=true)(hz:Af sg (An (Cr sg x)) (Ca sg) z):
 Af sg x (CW sg b) (Cp sg z.2 [59],Co sg z.2 [59] ⟨12,CC sg x,[z.1],b⟩):=by
 have k1:=FI (g':=fun s=>(Ca sg s).bind fun q=>Bm sg [59] ⟨12,CC sg x,[q.1],b⟩ q.2) (WD h) (by omega) hq (fun s hs ht=>by rw[if_pos (show isM sg s [61]=true from ht)])
 have k2:=BH (k:=fun k s=>Bm sg [59] ⟨12,CC sg x,[k],b⟩ s) k1 hz.1 (fun _ _=>rfl)
 exact JL k2 (DZ (HG hs) (by simp))
def FJ(sg:List Sg)(b:Bool)(s:Ps):PR:=if isM sg s [59] then Bm sg [59] ⟨15,[],[],b⟩ s else(Ca sg s).bind fun p=>Bm sg [59] ⟨15,[],[p.1],b⟩ p.2
theorem a4F{sg:List Sg}{x:Gs}{b:Bool}(h:gsOk sg x)(hq:isG sg x 4 [59]=true):Af sg x (FJ sg b) (Cp sg x [59],Co sg x [59] ⟨15,[],[],b⟩):=
 JL (Ds (CK h) (fun s hs=>by rw[FJ,if_pos (HD hs hq)])) (DZ (by simp) (by simp))
theorem a4G{sg:List Sg}{x:Gs}{b:Bool}{z:Int×Gs}(h:gsOk sg x)(hq:isG sg x 4 [59]=false)(hz:Af sg x (Ca sg) z):Af sg x (FJ sg b) (Cp sg z.2 [59],Co sg z.2 [59] ⟨15,[],[z.1],b⟩):=by
 have k1:=Ds (CK (f:=FJ sg b) h) (g':=fun s=>(Ca sg s).bind fun p=>Bm sg [59] ⟨15,[],[p.1],b⟩ p.2) (fun s hs=>by rw[FJ,if_neg (by simp [DY hs hq])])
 have k2:=BH (k:=fun k s=>Bm sg [59] ⟨15,[],[k],b⟩ s) k1 hz.1 (fun _ _=>rfl)
 exact JL k2 (DZ (by simp) (by simp))
theorem a4H{sg:List Sg}{x:Gs}{z:Int×Gs}(h:gsOk sg x)(hz:Af sg (Aq sg x [40]) (Ca sg) z):Bu sg x (Dc sg) (z.1,Aq sg z.2 [41]):=by
 have k1:=Gk (g':=fun s1=>(Ca sg s1).bind fun p=>(Bv sg [41] p.2).map fun s2=>(p.1,s2)) (CK (f:=Dc sg) h) (fun _ _=>rfl)
 have k2:=BH (k:=fun k s=>(Bv sg [41] s).map fun s2=>(k,s2)) k1 hz.1 (fun _ _=>rfl)
 have k3:=Gk (g':=fun s=>some (z.1,s)) k2 (fun s _=>by cases Bv sg [41] s<;>rfl)
 exact FH k3
theorem a4I{sg:List Sg}{one:Bool→Ps→PR}{m:List UInt8}{N:Nat}{ks:List Int}{s:Ps}(h:isM sg s m=true):Cs sg one m (N+1) ks s=some (ks,s):=by rw[Cs,if_pos h]
theorem a4J{sg:List Sg}{one:Bool→Ps→PR}{m:List UInt8}{N:Nat}{ks:List Int}{s:Ps}(h:isM sg s m=false):Cs sg one m (N+1) ks s=(one ((sgO sg s.pos).blank&&decide (0<ks.length)) s).bind fun p=>Cs sg one m N (ks++[p.1]) p.2:=by rw[Cs,if_neg (by simp [h])]
def IB(sg:List Sg)(one:Bool→Ps→PR)(m:List UInt8)(x y:Gs)(ks:List Int)(N:Nat):Prop:=
 restP sg x (Cs sg one m (sg.length+1) []) y (Cs sg one m N ks) 0∧(y.bad=false→(sg.length:Int)-y.pos<N)∧(ks.length:Int)≤y.pos+1∧(y.bad=false→(ks.length:Int)≤y.pos)
theorem WE{sg:List Sg}{one:Bool→Ps→PR}{m:List UInt8}{x:Gs}(h:gsOk sg x):IB sg one m x x [] (sg.length+1):=by
 have:=h.1
 exact⟨CK h,fun _=>by omega,by simp;omega,fun _=>by simp;omega⟩
theorem WF{sg:List Sg}{one:Bool→Ps→PR}{m:List UInt8}{x y:Gs}{ks:List Int}{N:Nat}(h:IB sg one m x y ks N)(hb:y.bad=true):Bu sg x (Cs sg one m (sg.length+1) []) (ks,y):=ME h.1 hb
theorem WG{sg:List Sg}{one:Bool→Ps→PR}{m:List UInt8}{x y:Gs}{ks:List Int}{N:Nat}(h:IB sg one m x y ks N)(hb:y.bad=false):∃M,N=M+1:=by
 have h1:=h.1.1.1;have h2:=h.2.1 hb
 match N with
 |0=>omega
 |M+1=>exact⟨M,rfl⟩
theorem WH{sg:List Sg}{one:Bool→Ps→PR}{m:List UInt8}{x y:Gs}{ks:List Int}{N:Nat}(h:IB sg one m x y ks N)(hq:isG sg y 4 m=true):Bu sg x (Cs sg one m (sg.length+1) []) (ks,y):=by
 obtain⟨M,rfl⟩:=WG h (CI hq (by omega)).1
 exact FH (Ds h.1 (g':=fun s=>some (ks,s)) (fun s hs=>a4I (HD hs hq)))
theorem WI{sg:List Sg}{one:Bool→Ps→PR}{m:List UInt8}{x y:Gs}{ks:List Int}{N:Nat}{z:Int×Gs}(h:IB sg one m x y ks N)(hb:y.bad=false)(hq:isG sg y 4 m=false)
 (hz:Af sg y (one ((pkG sg y 0).blank&&decide (0<ks.length))) z):∃M,N=M+1∧IB sg one m x z.2 (ks++[z.1]) M:=by
 obtain⟨M,rfl⟩:=WG h hb
 obtain⟨h1,h2,h3,h4⟩:=h
 have k1:=Ds h1 (g':=fun s=>(one ((pkG sg y 0).blank&&decide (0<ks.length)) s).bind fun p=>Cs sg one m M (ks++[p.1]) p.2) (fun s hs=>by
  rw[a4J (DY hs hq)]
  obtain⟨_,rfl⟩:=DX.1 hs
  rw[HB hb];simp)
 have k2:=BH (k:=fun k s=>Cs sg one m M (ks++[k]) s) k1 hz.1 (fun _ _=>rfl)
 have e:=Ct hz
 have:=h2 hb;have:=h4 hb
 exact⟨M,rfl,k2,fun hw=>by have:=e.2.2.2 hw;omega,by simp;omega,fun hw=>by have:=e.2.2.2 hw;simp;omega⟩
theorem a4K{sg:List Sg}{one:Bool→Ps→PR}{x:Gs}(h:gsOk sg x)(hd:x.deep≤20):restP sg x (BF sg one) (Aq sg (gDp (if x.deep=20 then Bn x else x) 1) [123])
 (fun s1=>(Cs sg one [125] (sg.length+1) [] s1).bind fun p=>(Bm sg [125] ⟨18,[],p.1,false⟩ p.2).map fun q=>(q.1,dp q.2 (-1))) 1:=by
 have k0:restP sg x (BF sg one) (gDp (if x.deep=20 then Bn x else x) 1) (fun s=>(Bv sg [123] s).bind fun s1=>(Cs sg one [125] (sg.length+1) [] s1).bind fun p=>(Bm sg [125] ⟨18,[],p.1,false⟩ p.2).map fun q=>(q.1,dp q.2 (-1))) 1:=by
  split
  ·rename_i h20
   have h2:=Wp (d:=0) (g':=BF sg one) (CK (f:=BF sg one) h) (fun s hs=>by
    obtain⟨_,rfl⟩:=DX.1 hs
    rw[BF,if_pos (by simp only;omega)])
   refine JJ (d:=0) h2 ⟨by simp only[Bn];omega,by simp only[Bn];omega⟩ (fun s hs=> ?_)
   rw[HC] at hs;cases hs
  ·rename_i h20
   refine JJ (d:=0) (CK h) ⟨by have:=h.2.1.1;omega,by omega⟩ (fun s hs=> ?_)
   obtain⟨_,rfl⟩:=DX.1 hs
   rw[BF,if_neg (by simp only;omega)]
 exact Gk k0 (fun _ _=>rfl)
def ifR(sg:List Sg)(n:Nat)(b:Bool)(s:Ps):PR:=(Dc sg s).bind fun p=>(BF sg (stR sg n) p.2).bind fun q=>
 if isW sg q.2 [101,108,115,101] then(BF sg (stR sg n) (adv q.2)).bind fun r=>AZ ⟨16,[],[p.1,q.1,r.1],b⟩ r.2 else AZ ⟨16,[],[p.1,q.1],b⟩ q.2
theorem WJ{sg:List Sg}{n:Nat}{b:Bool}{x:Gs}{c q:Int×Gs}(h:gsOk sg x)(hc:Bu sg x (Dc sg) c)(hq:Af sg c.2 (BF sg (stR sg n)) q):
 restP sg x (ifR sg n b) q.2 (fun s=>if isW sg s [101,108,115,101] then(BF sg (stR sg n) (adv s)).bind fun r=>AZ ⟨16,[],[c.1,q.1,r.1],b⟩ r.2 else AZ ⟨16,[],[c.1,q.1],b⟩ s) 0:=by
 have k1:=BH (k:=fun a s=>(BF sg (stR sg n) s).bind fun q=>if isW sg q.2 [101,108,115,101] then(BF sg (stR sg n) (adv q.2)).bind fun r=>AZ ⟨16,[],[a,q.1,r.1],b⟩ r.2 else AZ ⟨16,[],[a,q.1],b⟩ q.2) (CK (f:=ifR sg n b) h) hc (fun _ _=>rfl)
 exact BH (k:=fun k s=>if isW sg s [101,108,115,101] then(BF sg (stR sg n) (adv s)).bind fun r=>AZ ⟨16,[],[c.1,k,r.1],b⟩ r.2 else AZ ⟨16,[],[c.1,k],b⟩ s) k1 hq.1 (fun _ _=>rfl)
theorem a4L{sg:List Sg}{n:Nat}{b:Bool}{x:Gs}{c q:Int×Gs}(h:gsOk sg x)(hc:Bu sg x (Dc sg) c)(hq:Af sg c.2 (BF sg (stR sg n)) q)(he:isG sg q.2 1 [101,108,115,101]=false):
 Af sg x (ifR sg n b) (AB q.2,Al q.2 ⟨16,[],[c.1,q.1],b⟩):=by
 have k:=Ds (WJ (b:=b) h hc hq) (g':=AZ ⟨16,[],[c.1,q.1],b⟩) (fun s hs=>by rw[if_neg (by simp [DK hs he])])
 refine OC k (DZ (by simp) (by simp)) (fun hb=> ?_)
 have:=(Ct hq).2.2.2 hb;have:=hc.2.2.1;omega
theorem a4M{sg:List Sg}{n:Nat}{b:Bool}{x:Gs}{c q r:Int×Gs}(h:gsOk sg x)(hc:Bu sg x (Dc sg) c)(hq:Af sg c.2 (BF sg (stR sg n)) q)(he:isG sg q.2 1 [101,108,115,101]=true)
 (hr:Af sg (An q.2) (BF sg (stR sg n)) r):Af sg x (ifR sg n b) (AB r.2,Al r.2 ⟨16,[],[c.1,q.1,r.1],b⟩):=by
 have k:=FI (WJ (b:=b) h hc hq) (g':=fun s=>(BF sg (stR sg n) s).bind fun r=>AZ ⟨16,[],[c.1,q.1,r.1],b⟩ r.2) (by omega) he (fun s hs ht=>by rw[if_pos (show isW sg s [101,108,115,101]=true from ht)])
 have k2:=BH (k:=fun k s=>AZ ⟨16,[],[c.1,q.1,k],b⟩ s) k hr.1 (fun _ _=>rfl)
 refine OC k2 (DZ (by simp) (by simp)) (fun hb=> ?_)
 have:=(Ct hr).2.2.2 hb;have:=hc.2.2.1;have:=(Ct hq).2.1
 simp only[An] at*;omega
def whR(sg:List Sg)(n:Nat)(b:Bool)(s:Ps):PR:=(Dc sg s).bind fun p=>(BF sg (stR sg n) p.2).bind fun q=>AZ ⟨17,[],[p.1,q.1],b⟩ q.2
theorem a4N{sg:List Sg}{n:Nat}{b:Bool}{x:Gs}{c q:Int×Gs}(h:gsOk sg x)(hc:Bu sg x (Dc sg) c)(hq:Af sg c.2 (BF sg (stR sg n)) q):
 Af sg x (whR sg n b) (AB q.2,Al q.2 ⟨17,[],[c.1,q.1],b⟩):=by
 have k1:=BH (k:=fun a s=>(BF sg (stR sg n) s).bind fun q=>AZ ⟨17,[],[a,q.1],b⟩ q.2) (CK (f:=whR sg n b) h) hc (fun _ _=>rfl)
 have k2:=BH (k:=fun k s=>AZ ⟨17,[],[c.1,k],b⟩ s) k1 hq.1 (fun _ _=>rfl)
 refine OC k2 (DZ (by simp) (by simp)) (fun hb=> ?_)
 have:=(Ct hq).2.2.2 hb;have:=hc.2.2.1;omega
def setR(sg:List Sg)(b:Bool)(s:Ps):PR:=(FD sg s).bind fun p=>(Bv sg [61] p.2).bind fun s1=>(Ca sg s1).bind fun q=>Bm sg [59] ⟨13,p.1,[q.1],b⟩ q.2
theorem a4O{sg:List Sg}{b:Bool}{x:Gs}{z:Int×Gs}(hs:sgB sg)(h:gsOk sg x)(hz:Af sg (Aq sg (Cr sg x) [61]) (Ca sg) z):
 Af sg x (setR sg b) (Cp sg z.2 [59],Co sg z.2 [59] ⟨13,CC sg x,[z.1],b⟩):=by
 have k1:=BH (k:=fun t s=>(Bv sg [61] s).bind fun s1=>(Ca sg s1).bind fun q=>Bm sg [59] ⟨13,t,[q.1],b⟩ q.2) (CK (f:=setR sg b) h) (Lb h).1 (fun _ _=>rfl)
 have k2:=Gk (g':=fun s1=>(Ca sg s1).bind fun q=>Bm sg [59] ⟨13,CC sg x,[q.1],b⟩ q.2) k1 (fun _ _=>rfl)
 have k3:=BH (k:=fun k s=>Bm sg [59] ⟨13,CC sg x,[k],b⟩ s) k2 hz.1 (fun _ _=>rfl)
 exact JL k3 (DZ (HG hs) (by simp))
def doR(sg:List Sg)(b:Bool)(s:Ps):PR:=(Ca sg s).bind fun p=>Bm sg [59] ⟨14,[],[p.1],b⟩ p.2
theorem a4P{sg:List Sg}{b:Bool}{x:Gs}{z:Int×Gs}(h:gsOk sg x)(hz:Af sg x (Ca sg) z):Af sg x (doR sg b) (Cp sg z.2 [59],Co sg z.2 [59] ⟨14,[],[z.1],b⟩):=by
 have k3:=BH (k:=fun k s=>Bm sg [59] ⟨14,[],[k],b⟩ s) (CK (f:=doR sg b) h) hz.1 (fun _ _=>rfl)
 exact JL k3 (DZ (by simp) (by simp))
theorem HH{sg:List Sg}{n:Nat}{b:Bool}{s:Ps}:stR sg (n+1) b s=
 if(sgO sg s.pos).kind=5 then EK sg 19 b s
 else if isW sg s [118,97,114] then CW sg b (adv s)
 else if isW sg s [114,101,116,117,114,110] then FJ sg b (adv s)
 else if isW sg s [105,102] then ifR sg n b (adv s)
 else if isW sg s [119,104,105,108,101] then whR sg n b (adv s)
 else if CV sg s.pos&&isM sg (adv s) [61] then(Ca sg (adv (adv s))).bind fun p=>Bm sg [59] ⟨13,(sgO sg s.pos).text,[p.1],b⟩ p.2
 else doR sg b s:=rfl
theorem set_eq{sg:List Sg}{b:Bool}{s:Ps}(h:(CV sg s.pos&&isM sg (adv s) [61])=true):(Ca sg (adv (adv s))).bind (fun p=>Bm sg [59] ⟨13,(sgO sg s.pos).text,[p.1],b⟩ p.2)=setR sg b s:=by
 simp only[Bool.and_eq_true] at h
 rw[setR,FD,if_pos h.1]
 simp only[Option.bind_some]
 rw[Bv,if_pos h.2];rfl
theorem Fk{sg:List Sg}{x:Gs}{s:Ps}(hs:pur x=some s):(sgO sg s.pos).kind=(pkG sg x 0).kind:=(OA hs).symm
theorem a4Q{sg:List Sg}{x:Gs}{n:Nat}{b:Bool}(hs:sgB sg)(h:gsOk sg x)(hk:(pkG sg x 0).kind=5):Af sg x (stR sg (n+1) b) (AB x,DJ sg x 19 b):=
 IA (MD hs h (fun _=>(OB (by omega)).2)) (fun s hp=>by rw[HH,if_pos (by rw[Fk hp];exact hk)])
theorem a4R{sg:List Sg}{x:Gs}{n:Nat}{b:Bool}{z:Int×Gs}(h:gsOk sg x)(hk:(pkG sg x 0).kind≠5)(hq:isG sg x 1 [118,97,114]=true)(hz:Af sg (An x) (CW sg b) z):Af sg x (stR sg (n+1) b) z:=
 JK h (by omega) hq hz.1 (fun s hp ht=>by rw[HH,if_neg (by rw[Fk hp];exact hk),if_pos (show isW sg s _=true from ht)])
theorem WK{sg:List Sg}{x:Gs}{n:Nat}{b:Bool}{z:Int×Gs}(h:gsOk sg x)(hk:(pkG sg x 0).kind≠5)(h1:isG sg x 1 [118,97,114]=false)(hq:isG sg x 1 [114,101,116,117,114,110]=true)(hz:Af sg (An x) (FJ sg b) z):Af sg x (stR sg (n+1) b) z:=
 JK h (by omega) hq hz.1 (fun s hp ht=>by rw[HH,if_neg (by rw[Fk hp];exact hk),if_neg (by simp [DK hp h1]),if_pos (show isW sg s _=true from ht)])
theorem WL{sg:List Sg}{x:Gs}{n:Nat}{b:Bool}{z:Int×Gs}(h:gsOk sg x)(hk:(pkG sg x 0).kind≠5)(h1:isG sg x 1 [118,97,114]=false)(h2:isG sg x 1 [114,101,116,117,114,110]=false)(hq:isG sg x 1 [105,102]=true)
 (hz:Af sg (An x) (ifR sg n b) z):Af sg x (stR sg (n+1) b) z:=
 JK h (by omega) hq hz.1 (fun s hp ht=>by rw[HH,if_neg (by rw[Fk hp];exact hk),if_neg (by simp [DK hp h1]),if_neg (by simp [DK hp h2]),if_pos (show isW sg s _=true from ht)])
theorem a4S{sg:List Sg}{x:Gs}{n:Nat}{b:Bool}{z:Int×Gs}(h:gsOk sg x)(hk:(pkG sg x 0).kind≠5)(h1:isG sg x 1 [118,97,114]=false)(h2:isG sg x 1 [114,101,116,117,114,110]=false)(h3:isG sg x 1 [105,102]=false)(hq:isG sg x 1 [119,104,105,108,101]=true)
 (hz:Af sg (An x) (whR sg n b) z):Af sg x (stR sg (n+1) b) z:=
 JK h (by omega) hq hz.1 (fun s hp ht=>by rw[HH,if_neg (by rw[Fk hp];exact hk),if_neg (by simp [DK hp h1]),if_neg (by simp [DK hp h2]),if_neg (by simp [DK hp h3]),if_pos (show isW sg s _=true from ht)])
def seG(sg:List Sg)(x:Gs):Bool:=nmG sg x 0&&(decide ((pkG sg x 1).kind=4)&&((pkG sg x 1).text==[61]))
theorem RX{sg:List Sg}{x:Gs}{s:Ps}(hs:pur x=some s):(CV sg s.pos&&isM sg (adv s) [61])=seG sg x:=by
 obtain⟨hb,rfl⟩:=DX.1 hs
 have:=JH (sg:=sg) (n:=0) (CH hb)
 simp only[Int.add_zero] at this
 rw[seG,this,HB hb];rfl
theorem a4T{sg:List Sg}{x:Gs}{n:Nat}{b:Bool}{z:Int×Gs}(h:gsOk sg x)(hk:(pkG sg x 0).kind≠5)(h1:isG sg x 1 [118,97,114]=false)(h2:isG sg x 1 [114,101,116,117,114,110]=false)(h3:isG sg x 1 [105,102]=false)(h4:isG sg x 1 [119,104,105,108,101]=false)
 (hq:seG sg x=true) (hz:Af sg x (setR sg b) z):Af sg x (stR sg (n+1) b) z:=
 IA hz (fun s hp=>by rw[HH,if_neg (by rw[Fk hp];exact hk),if_neg (by simp [DK hp h1]),if_neg (by simp [DK hp h2]),if_neg (by simp [DK hp h3]),if_neg (by simp [DK hp h4]),if_pos (by rw[RX hp];exact hq),set_eq (by rw[RX hp];exact hq)])
theorem a4U{sg:List Sg}{x:Gs}{n:Nat}{b:Bool}{z:Int×Gs}(h:gsOk sg x)(hk:(pkG sg x 0).kind≠5)(h1:isG sg x 1 [118,97,114]=false)(h2:isG sg x 1 [114,101,116,117,114,110]=false)(h3:isG sg x 1 [105,102]=false)(h4:isG sg x 1 [119,104,105,108,101]=false)
 (hq:seG sg x=false) (hz:Af sg x (doR sg b) z):Af sg x (stR sg (n+1) b) z:=
 IA hz (fun s hp=>by rw[HH,if_neg (by rw[Fk hp];exact hk),if_neg (by simp [DK hp h1]),if_neg (by simp [DK hp h2]),if_neg (by simp [DK hp h3]),if_neg (by simp [DK hp h4]),if_neg (by rw[RX hp];simp [hq])])
theorem a4V{sg:List Sg}{x:Gs}{b:Bool}{l:List Int×Gs}{q:Int×Gs}(hs:sgB sg)(h:gsOk sg x)(hl:Bu sg (Aq sg (Cr sg x) [40]) (Bo sg (BM sg) [41] (sg.length+1) []) l)(hll:l.1.length≤3001)
 (hq:Af sg (Aq sg l.2 [41]) (Ev sg) q):Af sg x (FF sg b) (AB q.2,Al q.2 ⟨20,CC sg x,l.1++[q.1],b⟩):=by
 have k1:=BH (k:=fun t s=>(Bv sg [40] s).bind fun s1=>(Bo sg (BM sg) [41] (sg.length+1) [] s1).bind fun q=>(Bv sg [41] q.2).bind fun s2=>(Ev sg s2).bind fun r=>AZ ⟨20,t,q.1++[r.1],b⟩ r.2) (CK (f:=FF sg b) h) (Lb h).1 (fun _ _=>rfl)
 have k2:=Gk (g':=fun s1=>(Bo sg (BM sg) [41] (sg.length+1) [] s1).bind fun q=>(Bv sg [41] q.2).bind fun s2=>(Ev sg s2).bind fun r=>AZ ⟨20,CC sg x,q.1++[r.1],b⟩ r.2) k1 (fun _ _=>rfl)
 have k3:=BH (k:=fun ks s=>(Bv sg [41] s).bind fun s2=>(Ev sg s2).bind fun r=>AZ ⟨20,CC sg x,ks++[r.1],b⟩ r.2) k2 hl (fun _ _=>rfl)
 have k4:=Gk (g':=fun s2=>(Ev sg s2).bind fun r=>AZ ⟨20,CC sg x,l.1++[r.1],b⟩ r.2) k3 (fun _ _=>rfl)
 have k5:=BH (k:=fun k s=>AZ ⟨20,CC sg x,l.1++[k],b⟩ s) k4 hq.1 (fun _ _=>rfl)
 refine OC k5 (DZ (HG hs) (by simp;omega)) (fun hb=> ?_)
 have:=(Ct hq).2.2.2 hb;have:=k4.2.2.1;omega
theorem a4W{sg:List Sg}{x:Gs}{b:Bool}{l:List Int×Gs}(hs:sgB sg)(h:gsOk sg x)(hl:Bu sg (Aq sg (Cr sg x) [123]) (Cs sg (CP sg) [125] (sg.length+1) []) l)(hll:l.1.length≤3001):
 Af sg x (Gj sg b) (Cp sg l.2 [125],Co sg l.2 [125] ⟨21,CC sg x,l.1,b⟩):=by
 have k1:=BH (k:=fun t s=>(Bv sg [123] s).bind fun s1=>(Cs sg (CP sg) [125] (sg.length+1) [] s1).bind fun q=>Bm sg [125] ⟨21,t,q.1,b⟩ q.2) (CK (f:=Gj sg b) h) (Lb h).1 (fun _ _=>rfl)
 have k2:=Gk (g':=fun s1=>(Cs sg (CP sg) [125] (sg.length+1) [] s1).bind fun q=>Bm sg [125] ⟨21,CC sg x,q.1,b⟩ q.2) k1 (fun _ _=>rfl)
 have k3:=BH (k:=fun ks s=>Bm sg [125] ⟨21,CC sg x,ks,b⟩ s) k2 hl (fun _ _=>rfl)
 exact JL k3 (DZ (HG hs) (by omega))
theorem a4X{sg:List Sg}{x:Gs}{b:Bool}(hs:sgB sg)(h:gsOk sg x)(hk:(pkG sg x 0).kind=5):Af sg x (CP sg b) (AB x,DJ sg x 19 b):=
 IA (MD hs h (fun _=>(OB (by omega)).2)) (fun s hp=>by rw[CP,if_pos (by rw[Fk hp];exact hk)])
theorem a4Y{sg:List Sg}{x:Gs}{b:Bool}{z:Int×Gs}(h:gsOk sg x)(hk:(pkG sg x 0).kind≠5)(hq:isG sg x 1 [118,97,114]=true)(hz:Af sg (An x) (CW sg b) z):Af sg x (CP sg b) z:=
 JK h (by omega) hq hz.1 (fun s hp ht=>by rw[CP,if_neg (by rw[Fk hp];exact hk),if_pos (show isW sg s _=true from ht)])
theorem a4Z{sg:List Sg}{x:Gs}{b:Bool}{z:Int×Gs}(h:gsOk sg x)(hk:(pkG sg x 0).kind≠5)(hq:isG sg x 1 [118,97,114]=false)(hz:Af sg x (FF sg b) z):Af sg x (CP sg b) z:=
 IA hz (fun s hp=>by rw[CP,if_neg (by rw[Fk hp];exact hk),if_neg (by simp [DK hp hq])])
theorem a5a{sg:List Sg}{x:Gs}{b:Bool}(hs:sgB sg)(h:gsOk sg x)(hk:(pkG sg x 0).kind=5):Af sg x (CX sg b) (AB x,DJ sg x 19 b):=
 IA (MD hs h (fun _=>(OB (by omega)).2)) (fun s hp=>by rw[CX,if_pos (by rw[Fk hp];exact hk)])
theorem a5b{sg:List Sg}{x:Gs}{b:Bool}{z:Int×Gs}(h:gsOk sg x)(hk:(pkG sg x 0).kind≠5)(hq:isG sg x 1 [118,97,114]=true)(hz:Af sg (An x) (CW sg b) z):Af sg x (CX sg b) z:=
 JK h (by omega) hq hz.1 (fun s hp ht=>by rw[CX,if_neg (by rw[Fk hp];exact hk),if_pos (show isW sg s _=true from ht)])
theorem a5c{sg:List Sg}{x:Gs}{b:Bool}{z:Int×Gs}(h:gsOk sg x)(hk:(pkG sg x 0).kind≠5)(h1:isG sg x 1 [118,97,114]=false)(hq:isG sg x 1 [99,108,97,115,115]=true)(hz:Af sg (An x) (Gj sg b) z):Af sg x (CX sg b) z:=
 JK h (by omega) hq hz.1 (fun s hp ht=>by rw[CX,if_neg (by rw[Fk hp];exact hk),if_neg (by simp [DK hp h1]),if_pos (show isW sg s _=true from ht)])
theorem a5d{sg:List Sg}{x:Gs}{b:Bool}{z:Int×Gs}(h:gsOk sg x)(hk:(pkG sg x 0).kind≠5)(h1:isG sg x 1 [118,97,114]=false)(hq:isG sg x 1 [99,108,97,115,115]=false)(hz:Af sg x (FF sg b) z):Af sg x (CX sg b) z:=
 IA hz (fun s hp=>by rw[CX,if_neg (by rw[Fk hp];exact hk),if_neg (by simp [DK hp h1]),if_neg (by simp [DK hp hq])])
def Ey(sg:List Sg)(y:Gs)(ks:List Int)(ms:List (Int×Int))(N:Nat):Prop:=
 gsOk sg y∧y.deep=0∧(pur y).bind (JG sg N ks ms)=JG sg (sg.length+1) [] [] ps0∧(y.bad=false→(sg.length:Int)-y.pos<N)∧(ks.length:Int)≤y.pos+1∧(y.bad=false→(ks.length:Int)≤y.pos)∧ms.length=ks.length
def gs0:Gs:=⟨0,0,false,[]⟩
theorem a5e{sg:List Sg}:gsOk sg gs0:=⟨by simp [gs0],by simp [gs0],by simp [gs0],by simp [gs0]⟩
theorem a5f{sg:List Sg}:Ey sg gs0 [] [] (sg.length+1):=⟨a5e,rfl,rfl,fun _=>by simp only[gs0];omega,by simp [gs0],fun _=>by simp [gs0],rfl⟩
theorem a5g{sg:List Sg}{y:Gs}{ks:List Int}{ms:List (Int×Int)}{N:Nat}{z:Int×Gs}(h:Ey sg y ks ms N)(hb:y.bad=false)(hl:y.pos<sg.length)(hz:Af sg y (CX sg ((pkG sg y 0).blank&&decide (0<ks.length))) z):
 ∃M,N=M+1∧Ey sg z.2 (ks++[z.1]) (ms++[(y.pos,z.2.pos)]) M:=by
 obtain⟨h0,hd,h1,h2,h3,h4,h5⟩:=h
 have h2:=h2 hb;have h4:=h4 hb
 match N with
 |0=>omega
 |M+1=>
  have e:=Ct hz
  obtain⟨⟨a1,a2,a3,a4,a5⟩,b⟩:=hz
  refine⟨M,rfl,a1,by omega,?_,fun hw=>by have:=e.2.2.2 hw;omega,by simp;omega,fun hw=>by have:=e.2.2.2 hw;simp;omega,by simp [h5]⟩
  rw[←h1,CH hb,Option.bind_some,JG,if_pos hl]
  rw[CH hb] at a4 a5
  have eb:(sgO sg y.pos).blank=(pkG sg y 0).blank:=by rw[HB hb];simp
  simp only[Option.bind_some] at a4 a5
  rw[eb,a4]
  cases hp:CX sg ((pkG sg y 0).blank&&decide (0<ks.length)) ⟨y.pos,y.deep,y.nodes⟩ with
  |none=>rfl
  |some p=>
   simp only[Option.map_some,Option.bind_some]
   have:=a5 p hp
   have hpos:z.2.pos=p.2.pos:=by
    rw[hp] at a4
    simp only[Option.map_some] at a4
    obtain⟨_,e2⟩:=DX.1 a4
    rw[e2]
   rw[this,hpos]
def Ej(sg:List Sg)(y:Gs)(ks:List Int):Gs:=Al y ⟨22,[],ks,false⟩
theorem a5h{sg:List Sg}{y:Gs}{ks:List Int}{ms:List (Int×Int)}{N:Nat}(h:Ey sg y ks ms N)(hb:(Ej sg y ks).bad=true)(he:y.bad=true∨¬y.pos<sg.length):Iv sg=none:=by
 obtain⟨h0,hd,h1,h2,h3,h4,h5⟩:=h
 rw[Iv,←h1]
 cases hy:y.bad with
 |true=>rw[Dq hy];rfl
 |false=>
  have h2:=h2 hy
  have he:¬y.pos<sg.length:=by rcases he with he|he
                               ·rw[hy] at he;cases he
                               ·exact he
  match N with
  |0=>have:=h0.1;omega
  |N+1=>
   rw[CH hy,Option.bind_some,JG,if_neg he,Option.bind_some]
   unfold Ej Al at hb
   split at hb
   ·rename_i hf
    have h3:y.nodes.length=300:=by simpa [Dd,hy] using hf
    rw[AZ,if_pos (by simp only;omega)];rfl
   ·simp only at hb;rw[hy] at hb;cases hb
theorem a5i{sg:List Sg}{y:Gs}{ks:List Int}{ms:List (Int×Int)}{N:Nat}(h:Ey sg y ks ms N)(hb:(Ej sg y ks).bad=false)(he:y.bad=true∨¬y.pos<sg.length):
 Iv sg=if BD (Ej sg y ks).nodes then some (ms,(Ej sg y ks).nodes) else none:=by
 obtain⟨h0,hd,h1,h2,h3,h4,h5⟩:=h
 have hy:=(@HF y ⟨22,[],ks,false⟩).2.2 hb
 have h2:=h2 hy
 have he:¬y.pos<sg.length:=by rcases he with he|he
                              ·rw[hy] at he;cases he
                              ·exact he
 rw[Iv,←h1]
 match N with
 |0=>have:=h0.1;omega
 |N+1=>
  rw[CH hy,Option.bind_some,JG,if_neg he,Option.bind_some]
  unfold Ej Al at hb ⊢
  split at hb
  ·simp [Bn] at hb
  ·rename_i hf
   rw[if_neg hf]
   have hf2:=Ot (by simpa using hf)
   have:=h0.2.2.1
   rw[AZ,if_neg (by simp only;omega)]
   simp only[Option.bind_some]
end Go.My
end
section
set_option linter.unusedVariables false
set_option linter.unusedSimpArgs false
namespace Go.My
open Go.Eng Go.Proofs
variable {G:GInv}
theorem JM{P:Program}{f:FuncId}{S:Sig}{fn:Func}{c:Code}(hfn:P.funcs[f]? =some fn)(hb:fn.body=some c)(hn:(fn.name== "runtime.NumGoroutine")=false)(hp:∀x,¬S.pre x):Am G P f S:=
 ⟨⟨⟨fn,hfn,hn,by simp [hb]⟩,fun x y hx _=>(hp x hx).elim⟩,fun x hx=>(hp x hx).elim⟩
theorem a5j{r:Nat}{s:ST}{g:Gs}(hr:1≤r)(h:wP r 0 s g):False:=by
 have h1:=h.1.1.2.1.2;have h2:=h.2;omega
theorem a5k{r:Nat}{s:ST}{g:Gs}(hr:1≤r)(h:vP r 0 s g):False:=by
 have h1:=h.1.1.2.1.2;have h2:=h.2;omega
theorem a5l{s:ST}{g:Gs}(h:rOk s g∧g.deep≤20):vP 11 peN s g:=by
 have h1:=h.1.2.1;have h2:=h.1.1.1
 exact⟨h,by unfold peN;omega⟩
end Go.My
end
section
set_option linter.unusedVariables false
set_option linter.unusedSimpArgs false
namespace Go.My
open Go.Eng Go.Proofs
variable {G:GInv}
def okD(s:ST)(x:Gs):Prop:=rOk s x∧x.deep≤20
def okN(s:ST)(x:Gs):Prop:=okD s x∧x.bad=false∧x.pos<s.sg.length
theorem WM{s:ST}{x:Gs}(h:okN s x):rOk s (An x)∧(An x).deep≤20:=⟨⟨h.1.1.1,Fi h.1.1.2 h.2.2⟩,h.1.2⟩
theorem WN{s:ST}{x:Gs}(h:rOk s x):rOk s (Cr s.sg x):=⟨h.1,(Lb h.2).1.1⟩
theorem a5m{s:ST}{x:Gs}(h:rOk s x):(Cr s.sg x).deep=x.deep∧x.pos≤(Cr s.sg x).pos:=by
 have:=Ct (Lb h.2);exact⟨this.1,this.2.1⟩
theorem FK{s:ST}{x:Gs}{m:List UInt8}(h:rOk s x):rOk s (Aq s.sg x m)∧(Aq s.sg x m).deep=x.deep:=⟨⟨h.1,(Gl h.2).1⟩,(Gl h.2).2.1⟩
theorem IC{a:Bool}{k:Int}(h:a=true):decide (k>0)=(a&&decide (0<k)):=by simp [h]
theorem IE{a:Bool}{k:Int}(h:a=false):false=(a&&decide (0<k)):=by simp [h]
theorem a5n{s:ST}{x:Gs}(h:rOk s x)(hd:x.deep≤20)(hq:isG s.sg (Cr s.sg x) 4 [61]=true):rOk s (Au s.sg (Cr s.sg x) [61])∧(Au s.sg (Cr s.sg x) [61]).deep≤20:=by
 rw[DM hq]
 have a:=WN h;have b:=a5m h
 refine⟨⟨h.1,Fi a.2 (CI hq (by omega)).2⟩,?_⟩
 have e:(An (Cr s.sg x)).deep=(Cr s.sg x).deep:=rfl
 omega
theorem a5o{s:ST}{x:Gs}{b:Bool}{z:Int×Gs}(h:rOk s x)(hq:isG s.sg (Cr s.sg x) 4 [61]=true)(hz:Af s.sg (Au s.sg (Cr s.sg x) [61]) (Ca s.sg) z):
 Af s.sg x (CW s.sg b) (Cp s.sg z.2 [59],Co s.sg z.2 [59] ⟨12,CC s.sg x,[z.1],b⟩):=by
 rw[DM hq] at hz;exact a4E h.1 h.2 hq hz
theorem a5p{s:ST}{x:Gs}(h:rOk s x)(hq:isG s.sg (Cr s.sg x) 4 [61]=false):rOk s (Au s.sg (Cr s.sg x) [61]):=by
 rw[CY hq];exact WN h
theorem a5q{s:ST}{x:Gs}{b:Bool}(h:rOk s x)(hq:isG s.sg (Cr s.sg x) 4 [61]=false):
 Af s.sg x (CW s.sg b) (Cp s.sg (Au s.sg (Cr s.sg x) [61]) [59],Co s.sg (Au s.sg (Cr s.sg x) [61]) [59] ⟨12,CC s.sg x,[],b⟩):=by
 rw[CY hq];exact a4D h.1 h.2 hq
theorem WO{α:Type}{s:ST}{x:Gs}{f:Ps→Option (α×Ps)}{y:α×Gs}(h:okD s x)(hy:Bu s.sg x f y):okD s y.2:=⟨⟨h.1.1,hy.1⟩,by have:=hy.2.1;have:=h.2;omega⟩
theorem WP{s:ST}{x:Gs}{w:List UInt8}(h:okD s x)(hq:isG s.sg x 1 w=true):okN s x:=⟨h,(CI hq (by omega)).1,(CI hq (by omega)).2⟩
theorem WQ{s:ST}{x:Gs}{m:List UInt8}(h:okD s x)(hq:isG s.sg x 1 m=true):okD s (An x):=⟨(WM (WP h hq)).1,(WM (WP h hq)).2⟩
theorem a5r{s:ST}{x:Gs}{n:Nat}{b:Bool}{c q:Int×Gs}(h:okD s x)(hk:(pkG s.sg x 0).kind≠5)(h1:isG s.sg x 1 [118,97,114]=false)(h2:isG s.sg x 1 [114,101,116,117,114,110]=false)(h3:isG s.sg x 1 [105,102]=false)(hq:isG s.sg x 1 [119,104,105,108,101]=true)
 (hc:Bu s.sg (An x) (Dc s.sg) c) (hz:Af s.sg c.2 (BF s.sg (stR s.sg n)) q):Af s.sg x (stR s.sg (n+1) b) (AB q.2,Al q.2 ⟨17,[],[c.1,q.1],b⟩):=
 a4S h.1.2 hk h1 h2 h3 hq (a4N (WQ h hq).1.2 hc hz)
theorem a5s{α:Type}{s:ST}{x:Gs}{n:Nat}{f:Ps→Option (α×Ps)}{y:α×Gs}(h:20-x.deep≤(n:Int))(hy:Bu s.sg x f y):20-y.2.deep≤(n:Int):=by have:=hy.2.1;omega
theorem a5t{α:Type}{s:ST}{x:Gs}{n:Nat}{f:Ps→Option (α×Ps)}{y:α×Gs}(h:20-x.deep≤(n:Int))(hy:Af s.sg x f y):20-y.2.deep≤(n:Int):=a5s h hy.1
attribute [local irreducible] pE Bo CF fnR Af Bu gsOk Aq Co Al CJ DJ Au Dr DA AB Cp pkG isG nmG Cr CC CW FJ Dc Ca BF stR Cs
end Go.My
end
section
set_option linter.unusedVariables false
set_option linter.unusedSimpArgs false
namespace Go.My
open Go.Eng Go.Proofs
variable {G:GInv}
attribute [local irreducible] pE Bo CF fnR Af Bu gsOk Aq Co Al CJ DJ Au Dr DA AB Cp pkG isG nmG Cr CC CW FJ Dc Ca BF stR Cs Ev FF CP CX Gj BM
end Go.My
end
section
set_option linter.unusedVariables false
set_option linter.unusedSimpArgs false
namespace Go.My
open Go.Eng
def GJ(t:List UInt8)(i br:Int)(l:List Sg)(n:Nat):Prop:=
 (0≤i∧i≤t.length)∧(0≤br∧br≤i)∧(l.length:Int)≤i∧(t.length:Int)-i<n∧Eu t (t.length+1) 0 0=(Eu t n i br).map (l++ ·)
theorem a5u{t:List UInt8}:GJ t 0 0 [] (t.length+1):=by
 refine⟨by omega,by omega,by simp,by simp;omega,?_⟩
 cases Eu t (t.length+1) 0 0<;>simp
theorem OD{t:List UInt8}{n:Nat}{i br:Int}{c:UInt8}(hc:t[i.toNat]? =some c):Eu t (n+1) i br=if c.toNat=32 then Eu t n (i+1) br
 else if c.toNat=10 then Eu t n (i+1) (br+1)
 else if(Bb (t.drop i.toNat)).ok then(Eu t n (i+(Bb (t.drop i.toNat)).size) 0).map (⟨(Bb (t.drop i.toNat)).kind,(Bb (t.drop i.toNat)).text,i,decide (br>1)⟩:: ·)
 else none:=by rw[Eu,hc]
theorem OE{t:List UInt8}{i br:Int}{l:List Sg}{n:Nat}(h:GJ t i br l n)(hi:i<t.length):∃m,n=m+1:=by
 obtain⟨h1,h2,h3,h4,h5⟩:=h
 match n with
 |0=>omega
 |m+1=>exact⟨m,rfl⟩
theorem a5v{t:List UInt8}{i br:Int}{l:List Sg}{n:Nat}{c:UInt8}(hc:t[i.toNat]? =some c)(h:GJ t i br l (n+1))(hi:i<t.length)(h32:c.toNat=32):GJ t (i+1) br l n:=by
 obtain⟨h1,h2,h3,h4,h5⟩:=h
 refine⟨by omega,by omega,by omega,by omega,?_⟩
 rw[h5,OD hc,if_pos h32]
theorem a5w{t:List UInt8}{i br:Int}{l:List Sg}{n:Nat}{c:UInt8}(hc:t[i.toNat]? =some c)(h:GJ t i br l (n+1))(hi:i<t.length)(h32:c.toNat=10):GJ t (i+1) (br+1) l n:=by
 obtain⟨h1,h2,h3,h4,h5⟩:=h
 refine⟨by omega,by omega,by omega,by omega,?_⟩
 rw[h5,OD hc,if_neg (by omega),if_pos h32]
theorem a5x{t:List UInt8}{i br:Int}{l:List Sg}{n:Nat}{c:UInt8}(hc:t[i.toNat]? =some c)(h:GJ t i br l (n+1))(hi:i<t.length)(h32:c.toNat≠32)(h10:c.toNat≠10)
 (hok:(Bb (t.drop i.toNat)).ok=true) (hz:1≤(Bb (t.drop i.toNat)).size∧(Bb (t.drop i.toNat)).size≤t.length-i):
 GJ t (i+(Bb (t.drop i.toNat)).size) 0 (l++[⟨(Bb (t.drop i.toNat)).kind,(Bb (t.drop i.toNat)).text,i,decide (br>1)⟩]) n:=by
 obtain⟨h1,h2,h3,h4,h5⟩:=h
 refine⟨by omega,by omega,by simp;omega,by omega,?_⟩
 rw[h5,OD hc,if_neg h32,if_neg h10,if_pos hok]
 cases Eu t n (i+(Bb (t.drop i.toNat)).size) 0<;>simp
theorem a5y{t:List UInt8}{i br:Int}{l:List Sg}{n:Nat}{c:UInt8}(hc:t[i.toNat]? =some c)(h:GJ t i br l (n+1))(hi:i<t.length)(h32:c.toNat≠32)(h10:c.toNat≠10)
 (hok:(Bb (t.drop i.toNat)).ok=false) (hl:¬3000<t.length):Cq t=none:=by
 rw[Cq,if_neg hl,h.2.2.2.2,OD hc,if_neg h32,if_neg h10,if_neg (by simp [hok])];rfl
theorem a5z{t:List UInt8}{i br:Int}{l:List Sg}{n:Nat}(h:GJ t i br l n)(hi:¬i<t.length)(hl:¬3000<t.length):Cq t=some l:=by
 obtain⟨h1,h2,h3,h4,h5⟩:=h
 rw[Cq,if_neg hl,h5]
 match n with
 |0=>omega
 |n+1=>rw[Eu,List.getElem?_eq_none (by omega)];simp
theorem a5A{t:List UInt8}(h:3000<t.length):Cq t=none:=if_pos h
end Go.My
end
section
set_option linter.unusedVariables false
set_option linter.unusedSimpArgs false
namespace Go.My
open Go.Eng Go.Proofs
variable {G:GInv}
theorem RY{p:UInt8→Bool}{b:UInt8}{s:List UInt8}(h:p b=true):1≤((b::s).takeWhile p).length:=by
 rw[List.takeWhile_cons,if_pos h];simp
theorem OF{p:UInt8→Bool}{s:List UInt8}:(s.takeWhile p).length≤s.length:=(List.takeWhile_prefix p).length_le
theorem a5B{s:List UInt8}:(Cl s).length≤s.length:=by
 unfold Cl
 have:=(List.dropWhile_suffix (fun c:UInt8=>decide (c.toNat=32)) (l:=s.reverse)).length_le
 simpa using this
theorem WR{s:List UInt8}(h:(Bb s).ok=true):1≤(Bb s).size∧(Bb s).size≤s.length∧(Bb s).text.length≤s.length:=by
 match s with
 |[]=>cases h
 |b::s=>
  unfold Bb at h ⊢
  simp only at h ⊢
  split
  ·rename_i hb
   have:=RY (s:=s) (p:=BC) (b:=b) (by simp [BC,hb]);have:=OF (p:=BC) (s:=b::s);simp only;omega
  ·rename_i hb
   rw[if_neg hb] at h
   split
   ·rename_i hb2
    have:=RY (s:=s) (p:=Bl) (b:=b) hb2;have:=OF (p:=Bl) (s:=b::s);simp only;omega
   ·rename_i hb2
    rw[if_neg hb2] at h
    split
    ·rename_i hb3
     rw[if_pos hb3] at h
     simp only at h ⊢
     unfold CS at h ⊢
     split at h
     ·cases h
     ·simp only[List.length_take,List.length_cons] at*;omega
    ·rename_i hb3
     rw[if_neg hb3] at h
     split
     ·rename_i hb4
      have hb5:b=47:=by
       cases s with
       |nil=>simp at hb4
       |cons c s=>simp at hb4;exact hb4.1
      have h1:=RY (s:=s) (p:=BS) (b:=b) (by subst hb5;rfl);have h2:=OF (p:=BS) (s:=b::s);have h3:= @a5B ((b::s).takeWhile BS)
      simp only;omega
     ·rename_i hb4
      rw[if_neg hb4] at h
      split
      ·simp only[List.length_take,List.length_cons];omega
      ·rename_i hb5
       rw[if_neg hb5] at h
       split
       ·simp only[List.length_take,List.length_cons];omega
       ·rename_i hb6
        rw[if_neg hb6] at h
        cases h
def sgJ(t:List UInt8)(i br:Int)(l:List Sg)(n:Nat):Prop:=(GJ t i br l n∧¬3000<t.length)∧∀e∈l,e.text.length≤3000
theorem a5C{t:List UInt8}(h:¬(t.length:Int)>3000):sgJ t 0 0 [] (t.length+1):=⟨⟨a5u,by omega⟩,by simp⟩
theorem Lg{t:List UInt8}{i br:Int}{l:List Sg}{n:Nat}(h:sgJ t i br l n):((0≤i∧i≤t.length)∧(0≤br∧br≤i)∧(l.length:Int)≤i)∧t.length≤3000:=by
 have:=h.1.1;have:=h.1.2;exact⟨⟨h.1.1.1,h.1.1.2.1,h.1.1.2.2.1⟩,by omega⟩
theorem WS{t:List UInt8}{i br:Int}{l:List Sg}{n:Nat}{c:UInt8}(hc:t[i.toNat]? =some c)(h:sgJ t i br l n)(hi:i<t.length)(h32:c.toNat=32):sgJ t (i+1) br l (n-1)∧n-1<n:=by
 obtain⟨m,rfl⟩:=OE h.1.1 hi
 exact⟨⟨⟨a5v hc h.1.1 hi h32,h.1.2⟩,h.2⟩,by omega⟩
theorem WT{t:List UInt8}{i br:Int}{l:List Sg}{n:Nat}{c:UInt8}(hc:t[i.toNat]? =some c)(h:sgJ t i br l n)(hi:i<t.length)(h32:c.toNat=10):sgJ t (i+1) (br+1) l (n-1)∧n-1<n:=by
 obtain⟨m,rfl⟩:=OE h.1.1 hi
 exact⟨⟨⟨a5w hc h.1.1 hi h32,h.1.2⟩,h.2⟩,by omega⟩
theorem WU{t:List UInt8}{i br:Int}{l:List Sg}{n:Nat}(h:sgJ t i br l n)(hok:(Bb (t.drop i.toNat)).ok=true):1≤(Bb (t.drop i.toNat)).size∧(Bb (t.drop i.toNat)).size≤t.length-i∧(Bb (t.drop i.toNat)).text.length≤3000:=by
 have a:=WR hok
 have b:=(Lg h)
 simp only[List.length_drop] at a
 omega
theorem a5D{t:List UInt8}{i br:Int}{l:List Sg}{n:Nat}{c:UInt8}(hc:t[i.toNat]? =some c)(h:sgJ t i br l n)(hi:i<t.length)(h32:c.toNat≠32)(h10:c.toNat≠10)
 (hok:(Bb (t.drop i.toNat)).ok=true):
 sgJ t (i+(Bb (t.drop i.toNat)).size) 0 (l++[⟨(Bb (t.drop i.toNat)).kind,(Bb (t.drop i.toNat)).text,i,decide (br>1)⟩]) (n-1)∧n-1<n:=by
 obtain⟨m,rfl⟩:=OE h.1.1 hi
 have hz:=WU h hok
 refine⟨⟨⟨a5x hc h.1.1 hi h32 h10 hok ⟨hz.1,hz.2.1⟩,h.1.2⟩,?_⟩,by omega⟩
 intro e he
 rcases List.mem_append.1 he with he|he
 ·exact h.2 e he
 ·simp at he;subst he;exact hz.2.2
theorem a5E{t:List UInt8}{i br:Int}{l:List Sg}{n:Nat}{c:UInt8}(hc:t[i.toNat]? =some c)(h:sgJ t i br l n)(hi:i<t.length)(h32:c.toNat≠32)(h10:c.toNat≠10)
 (hok:(Bb (t.drop i.toNat)).ok=false):Cq t=none:=by
 obtain⟨m,rfl⟩:=OE h.1.1 hi
 exact a5y hc h.1.1 hi h32 h10 hok h.1.2
def sgQ(t:List UInt8)(l:List Sg):Prop:=(Cq t=some l∧sgB l)∨(Cq t=none∧l=[])
theorem WV{t:List UInt8}{i br:Int}{l:List Sg}{n:Nat}(h:sgJ t i br l n)(hi:¬i<t.length):(Cq t).isSome=true∧sgQ t l:=by
 have a:=a5z h.1.1 hi h.1.2
 have b:=Lg h
 exact⟨by rw[a];rfl,.inl ⟨a,by omega,h.2⟩⟩
theorem OG{t:List UInt8}(h:Cq t=none):(Cq t).isSome=false∧sgQ t []:=⟨by rw[h];rfl,.inr ⟨h,rfl⟩⟩
theorem WW{t:List UInt8}(h:(t.length:Int)>3000):Cq t=none:=a5A (by omega)
abbrev iF {α β:Type} (i:Int×Int×Bool×List Nd×α×β):Gs:=⟨i.1,i.2.1,i.2.2.1,i.2.2.2.1⟩
theorem a5F{sg:List Sg}:Ey sg ⟨0,0,false,[]⟩ [] [] (sg.length+1):=a5f
theorem a5G{sg:List Sg}{y:Gs}{ks:List Int}{ms:List (Int×Int)}{N:Nat}{b:Bool}{z:Int×Gs}(h:Ey sg y ks ms N)(hb:y.bad=false)(hl:y.pos<sg.length)(hz:Af sg y (CX sg b) z)(e:b=((pkG sg y 0).blank&&decide (0<(ks.length:Int)))):
 Ey sg z.2 (ks++[z.1]) (ms++[(y.pos,z.2.pos)]) (N-1)∧N-1<N:=by
 subst e
 exact Le (a5g h hb hl (z:=z) (by
  have:decide (0<ks.length)=decide (0<(ks.length:Int)):=by simp
  rw[this];exact hz))
theorem a5H{s:ST}{y:Gs}{ks:List Int}{ms:List (Int×Int)}{N:Nat}(hs:sgB s.sg)(h:Ey s.sg y ks ms N):okD s y:=⟨⟨hs,h.1⟩,by have:=h.2.1;omega⟩
theorem WX{sg:List Sg}{y:Gs}{ks:List Int}{ms:List (Int×Int)}{N:Nat}(hs:sgB sg)(h:Ey sg y ks ms N):ks.length≤3001∧ms.length=ks.length∧0≤y.pos∧y.pos≤sg.length:=by
 have h1:=h.1.1;have h2:=hs.1;have h3:=h.2.2.2.2.1;have h4:=h.2.2.2.2.2.2
 omega
attribute [local irreducible] pE Bo CF fnR Af Bu gsOk Aq Co Al CJ DJ Au Dr DA AB Cp pkG isG nmG Cr CC CW FJ Dc Ca BF stR Cs Ev FF CP CX Gj BM Ey sgJ
end Go.My
end
section
set_option linter.unusedVariables false
set_option linter.unusedSimpArgs false
namespace Go.My
open Go.Eng Go.Proofs
variable {G:GInv}
def rsQ(t:List UInt8)(sg:List Sg)(ms:List (Int×Int))(g:Gs):Prop:=(g.bad=true∧Dp t=none)∨((g.bad=false∧sgB sg∧Cq t=some sg)∧Iv sg=some (ms,g.nodes)∧Bh g.nodes)
theorem WY{sg:List Sg}{g:Gs}(h:gsOk sg g):Bh g.nodes∧g.nodes.length≤300:=by
 refine⟨⟨by have:=h.2.2.1;omega,fun x hx=> ?_⟩,h.2.2.1⟩
 have:=h.2.2.2 x hx
 exact⟨by have:=this.1;omega,by have:=this.2;omega⟩
theorem Lh{t:List UInt8}{l:List Sg}(h:sgQ t l)(hn:(Cq t).isSome=true):Cq t=some l∧sgB l:=by
 rcases h with h|h
 ·exact h
 ·rw[h.1] at hn;cases hn
theorem a5I{t:List UInt8}{l:List Sg}{y:Gs}{ks:List Int}{ms:List (Int×Int)}{N:Nat}(h:sgQ t l)(hn:(Cq t).isSome=true)(hf:Ey l y ks ms N∧(y.bad=true∨¬y.pos<l.length))(hb:(Ej l y ks).bad=true):rsQ t l ms (Ej l y ks):=by
 refine .inl ⟨hb,?_⟩
 rw[Dp,(Lh h hn).1]
 simp only[Option.bind_some,a5h hf.1 hb hf.2];rfl
theorem WZ{l:List Sg}{y:Gs}{ks:List Int}{ms:List (Int×Int)}{N:Nat}(hs:sgB l)(h:Ey l y ks ms N):CG ⟨22,[],ks,false⟩:=⟨by simp,by have:=(WX hs h).1;simp only;omega⟩
theorem a5J{t:List UInt8}{l:List Sg}{y:Gs}{ks:List Int}{ms:List (Int×Int)}{N:Nat}(h:sgQ t l)(hn:(Cq t).isSome=true)(hf:Ey l y ks ms N∧(y.bad=true∨¬y.pos<l.length))(hb:(Ej l y ks).bad=false):
 rsQ t l ms ⟨(Ej l y ks).pos,(Ej l y ks).deep,!BD (Ej l y ks).nodes,(Ej l y ks).nodes⟩:=by
 have hk:=WZ (Lh h hn).2 hf.1
 have e:=a5i hf.1 hb hf.2
 cases htr:BD (Ej l y ks).nodes with
 |false=>
  rw[htr] at e
  refine .inl ⟨rfl,?_⟩
  rw[Dp,(Lh h hn).1]
  simp only[Option.bind_some,e];rfl
 |true=>
  rw[htr] at e
  exact .inr ⟨⟨rfl,(Lh h hn).2,(Lh h hn).1⟩,e,(WY (MB hf.1.1 hk)).1⟩
theorem Xa{t:List UInt8}{l:List Sg}{ms:List (Int×Int)}{g:Gs}(h:rsQ t l ms g)(hb:g.bad=true):Dp t=none:=by
 rcases h with h|h
 ·exact h.2
 ·rw[h.1.1] at hb;cases hb
theorem a5K{t:List UInt8}{l:List Sg}{ms:List (Int×Int)}{g:Gs}(h:rsQ t l ms g)(hb:g.bad=false):Dp t=some g.nodes∧Bh g.nodes:=by
 rcases h with h|h
 ·rw[h.1] at hb;cases hb
 ·refine⟨?_,h.2.2⟩
  rw[Dp,h.1.2.2];simp only[Option.bind_some,h.2.1];rfl
attribute [local irreducible] gsOk Ey Ej Dp Iv Cq BD
end Go.My
end
