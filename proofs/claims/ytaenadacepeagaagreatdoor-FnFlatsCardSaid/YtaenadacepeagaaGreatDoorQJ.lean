/- joined -/
import Derived.Test.YtaenadacepeagaaGreatDoorQI
set_option linter.unusedSimpArgs false
set_option linter.unusedVariables false
section
namespace Go.My
open Go.Eng
def VO(e:Nd)(b:Bool):Nd:=⟨e.kind,e.text,e.kids,b⟩
def RK(b:Bool)(p:Int×Ps):Int×Ps:=(p.1,⟨p.2.pos,p.2.deep,p.2.nodes.set p.1.toNat (VO (Aj p.2.nodes p.1) b)⟩)
def BL(f:Bool→Ps→PR):Prop:=∀b s,f b s=(f false s).map (RK b)∧∀p,f b s=some p→1≤p.2.nodes.length∧p.1=(p.2.nodes.length:Int)-1
theorem Nk{k:Int}{t:List UInt8}{ks:List Int}:BL (fun b=>Bc ⟨k,t,ks,b⟩):=by
 intro b s
 by_cases h:300≤s.nodes.length
 ·simp only[Vy h];exact⟨rfl,fun p hp=>by cases hp⟩
 ·simp only[Vx h]
  refine⟨?_,fun p hp=>by simp only[Option.some.injEq] at hp;subst hp;simp⟩
  simp only[Option.map_some,RK,Int.toNat_natCast]
  congr 3
  have e:Aj (s.nodes++[⟨k,t,ks,false⟩]) (s.nodes.length:Int)=⟨k,t,ks,false⟩:=Bz (by simp)
  rw[e]
  simp [VO]
theorem a1T{f:Bool→Ps→PR}(h:BL f):BL (fun b s=>Eb (f b s)):=by
 intro b s
 obtain⟨h1,h2⟩:=h b s
 refine⟨?_,fun p hp=> ?_⟩
 ·simp only[Eb];rw[h1]
  cases f false s with
  |none=>rfl
  |some p=>rfl
 ·simp only[Eb,Option.map_eq_some_iff] at hp
  obtain⟨q,hq,rfl⟩:=hp
  exact h2 q hq
theorem FU{α:Type}{h:Ps→Option (α×Ps)}{g:Bool→α→Ps→PR}(hg:∀a,BL (fun b=>g b a)):BL (fun b s=>(h s).bind fun p=>g b p.1 p.2):=by
 intro b s
 simp only
 cases h s with
 |none=>exact⟨rfl,fun p hp=>by cases hp⟩
 |some p=>exact hg p.1 b p.2
theorem VP{h:Ps→Option Ps}{g:Bool→Ps→PR}(hg:BL g):BL (fun b s=>(h s).bind fun p=>g b p):=by
 intro b s
 simp only
 cases h s with
 |none=>exact⟨rfl,fun p hp=>by cases hp⟩
 |some p=>exact hg b p
theorem FV{c:Ps→Prop}[inst:∀s,Decidable (c s)]{f g:Bool→Ps→PR}(hf:BL f)(hg:BL g):BL (fun b s=>if c s then f b s else g b s):=by
 intro b s
 by_cases h:c s
 ·simp only[if_pos h];exact hf b s
 ·simp only[if_neg h];exact hg b s
theorem a1U:BL (fun _ _=>none):=fun b s=>⟨rfl,fun p hp=>by cases hp⟩
theorem Lw{f:Bool→Ps→PR}{a:Ps→Ps}(h:BL f):BL (fun b s=>f b (a s)):=fun b s=>h b (a s)
theorem b2G{f:Ps→Bool→Ps→PR}(h:∀q,BL (f q)):BL (fun b s=>f s b s):=fun b s=>h s b s
theorem VQ{sg:List Sg}{k:Int}:BL (Et sg k):=fun b s=>a1T (Nk (k:=k) (t:=(sgO sg s.pos).text) (ks:=[])) b s
theorem Lx{sg:List Sg}{m:List UInt8}{k:Int}{t:List UInt8}{ks:List Int}:BL (fun b=>Bm sg m ⟨k,t,ks,b⟩):=FV (c:=fun s=>isM sg s m=true) (a1T Nk) a1U
theorem VR{sg:List Sg}:BL (CW sg):=
 FU (h:=Eu sg) (g:=fun b t s=>if isM sg s [61] then(Cg sg (adv s)).bind fun q=>Bm sg [59] ⟨12,t,[q.1],b⟩ q.2 else Bm sg [59] ⟨12,t,[],b⟩ s) (fun t=>
  FV (c:=fun s=>isM sg s [61]=true) (FU (h:=fun s=>Cg sg (adv s)) (g:=fun b k s=>Bm sg [59] ⟨12,t,[k],b⟩ s) (fun _=>Lx)) Lx)
theorem b2H{sg:List Sg}:BL (GK sg):=
 FV (c:=fun s=>isM sg s [59]=true) Lx (FU (h:=Cg sg) (g:=fun b k s=>Bm sg [59] ⟨15,[],[k],b⟩ s) (fun _=>Lx))
theorem b2I{sg:List Sg}{n:Nat}:BL (ifR sg n):=
 FU (h:=Db sg) (g:=fun b c s=>(BC sg (stR sg n) s).bind fun q=>if isW sg q.2 [101,108,115,101] then(BC sg (stR sg n) (adv q.2)).bind fun r=>Bc ⟨16,[],[c,q.1,r.1],b⟩ r.2 else Bc ⟨16,[],[c,q.1],b⟩ q.2) (fun c=>
  FU (h:=BC sg (stR sg n)) (g:=fun b k s=>if isW sg s [101,108,115,101] then(BC sg (stR sg n) (adv s)).bind fun r=>Bc ⟨16,[],[c,k,r.1],b⟩ r.2 else Bc ⟨16,[],[c,k],b⟩ s) (fun k=>
   FV (c:=fun s=>isW sg s [101,108,115,101]=true) (FU (h:=fun s=>BC sg (stR sg n) (adv s)) (g:=fun b r s=>Bc ⟨16,[],[c,k,r],b⟩ s) (fun _=>Nk)) Nk))
theorem b2J{sg:List Sg}{n:Nat}:BL (whR sg n):=
 FU (h:=Db sg) (g:=fun b c s=>(BC sg (stR sg n) s).bind fun q=>Bc ⟨17,[],[c,q.1],b⟩ q.2) (fun c=>FU (h:=BC sg (stR sg n)) (g:=fun b k s=>Bc ⟨17,[],[c,k],b⟩ s) (fun _=>Nk))
theorem b2K{sg:List Sg}:BL (doR sg):=FU (h:=Cg sg) (g:=fun b k s=>Bm sg [59] ⟨14,[],[k],b⟩ s) (fun _=>Lx)
theorem VS{sg:List Sg}:∀ {n:Nat},BL (stR sg n)
 |0=>a1U
 |n+1=>by
  intro b s
  rw[Jh,Jh]
  exact FV (c:=fun s=>(sgO sg s.pos).kind=5) VQ (FV (c:=fun s=>isW sg s [118,97,114]=true) (Lw (a:=adv) VR) (FV (c:=fun s=>isW sg s [114,101,116,117,114,110]=true) (Lw (a:=adv) b2H)
   (FV (c:=fun s=>isW sg s [105,102]=true) (Lw (a:=adv) b2I) (FV (c:=fun s=>isW sg s [119,104,105,108,101]=true) (Lw (a:=adv) b2J)
     (FV (c:=fun s=>(Cv sg s.pos&&isM sg (adv s) [61])=true) (b2G (f:=fun q b s=>(Cg sg (adv (adv s))).bind fun p=>Bm sg [59] ⟨13,(sgO sg q.pos).text,[p.1],b⟩ p.2) (fun q=>FU (h:=fun s=>Cg sg (adv (adv s))) (g:=fun b k s=>Bm sg [59] ⟨13,(sgO sg q.pos).text,[k],b⟩ s) (fun _=>Lx))) b2K))))) b s
theorem a1V{sg:List Sg}:BL (Ef sg):=
 FU (h:=Eu sg) (g:=fun b t s=>(BB sg [40] s).bind fun s1=>(Bs sg (BN sg) [41] (sg.length+1) [] s1).bind fun q=>(BB sg [41] q.2).bind fun s2=>(EN sg s2).bind fun r=>Bc ⟨20,t,q.1++[r.1],b⟩ r.2) (fun t=>
  VP (h:=BB sg [40]) (g:=fun b s1=>(Bs sg (BN sg) [41] (sg.length+1) [] s1).bind fun q=>(BB sg [41] q.2).bind fun s2=>(EN sg s2).bind fun r=>Bc ⟨20,t,q.1++[r.1],b⟩ r.2)
   (FU (h:=Bs sg (BN sg) [41] (sg.length+1) []) (g:=fun b ks s=>(BB sg [41] s).bind fun s2=>(EN sg s2).bind fun r=>Bc ⟨20,t,ks++[r.1],b⟩ r.2) (fun ks=>
     VP (h:=BB sg [41]) (g:=fun b s2=>(EN sg s2).bind fun r=>Bc ⟨20,t,ks++[r.1],b⟩ r.2) (FU (h:=EN sg) (g:=fun b k s=>Bc ⟨20,t,ks++[k],b⟩ s) (fun _=>Nk)))))
theorem VT{sg:List Sg}:BL (CJ sg):=FV (c:=fun s=>(sgO sg s.pos).kind=5) VQ (FV (c:=fun s=>isW sg s [118,97,114]=true) (Lw (a:=adv) VR) a1V)
theorem b2L{sg:List Sg}:BL (Gh sg):=
 FU (h:=Eu sg) (g:=fun b t s=>(BB sg [123] s).bind fun s1=>(Cz sg (CJ sg) [125] (sg.length+1) [] s1).bind fun q=>Bm sg [125] ⟨21,t,q.1,b⟩ q.2) (fun t=>
  VP (h:=BB sg [123]) (g:=fun b s1=>(Cz sg (CJ sg) [125] (sg.length+1) [] s1).bind fun q=>Bm sg [125] ⟨21,t,q.1,b⟩ q.2)
   (FU (h:=Cz sg (CJ sg) [125] (sg.length+1) []) (g:=fun b ks s=>Bm sg [125] ⟨21,t,ks,b⟩ s) (fun _=>Lx)))
theorem VU{sg:List Sg}:BL (CN sg):=FV (c:=fun s=>(sgO sg s.pos).kind=5) VQ (FV (c:=fun s=>isW sg s [118,97,114]=true) (Lw (a:=adv) VR) (FV (c:=fun s=>isW sg s [99,108,97,115,115]=true) (Lw (a:=adv) b2L) a1V))
theorem a1W{sg:List Sg}{x y:Gs}{f:Bool→Ps→PR}{k:Int}(hf:BL f)(h:Ah sg x (f false) (k,y))(hb:y.bad=false):1≤y.nodes.length∧k=(y.nodes.length:Int)-1:=by
 obtain⟨⟨a1,a2,a3,a4,a5⟩,_⟩:=h
 simp only at a4 a5
 rw[Dg hb] at a4
 cases hp:(pur x).bind (f false) with
 |none=>rw[hp] at a4;cases a4
 |some p=>
  rw[hp] at a4
  simp only[Option.map_some,Option.some.injEq] at a4
  have e:=a5 p hp
  cases hs:pur x with
  |none=>rw[hs] at hp;cases hp
  |some s=>
   rw[hs] at hp;simp only[Option.bind_some] at hp
   have:=(hf false s).2 p hp
   rw[←a4] at this;simp only at this;rw[e];exact this
theorem VV{sg:List Sg}{x y:Gs}{f:Bool→Ps→PR}{k:Int}{b:Bool}(hf:BL f)(h:Ah sg x (f false) (k,y)):Ah sg x (f b) (k,gBl y k b):=by
 have hk:=a1W hf h
 obtain⟨⟨a1,a2,a3,a4,a5⟩,c⟩:=h
 simp only at a1 a2 a3 a4 a5 c
 have eb:(pur x).bind (f b)=((pur x).bind (f false)).map (RK b):=by
  cases pur x with
  |none=>rfl
  |some s=>exact(hf b s).1
 cases hb:y.bad with
 |true=>
  have e:gBl y k b=y:=by rw[gBl,if_neg (by simp [hb])]
  rw[e]
  rw[DR hb] at a4
  have hn:(pur x).bind (f false)=none:=by
   cases hp:(pur x).bind (f false) with
   |none=>rfl
   |some p=>rw[hp] at a4;cases a4
  refine⟨⟨a1,a2,a3,?_,fun p hp=> ?_⟩,c⟩
  ·rw[eb,hn,DR hb];rfl
  ·rw[eb,hn] at hp;cases hp
 |false=>
  obtain⟨k1,k2⟩:=hk hb
  have hlt:k<(y.nodes.length:Int):=by omega
  have e:gBl y k b=⟨y.pos,y.deep,y.bad,y.nodes.set k.toNat (VO (Aj y.nodes k) b)⟩:=by rw[gBl,if_pos ⟨hb,hlt⟩];rfl
  rw[e]
  have hat:Df (Aj y.nodes k):=by
   have hkl:k.toNat<y.nodes.length:=by omega
   have:=a1.2.2.2 (y.nodes[k.toNat]) (List.getElem_mem hkl)
   rw[Bz (List.getElem?_eq_getElem hkl)];exact this
  refine⟨⟨⟨a1.1,a1.2.1,by simpa using a1.2.2.1,fun w hw=> ?_⟩,a2,a3,?_,fun p hp=> ?_⟩,c⟩
  ·rcases List.mem_or_eq_of_mem_set hw with hw|hw
   ·exact a1.2.2.2 w hw
   ·subst hw;exact hat
  ·rw[eb]
   rw[Dg hb] at a4
   cases hp:(pur x).bind (f false) with
   |none=>rw[hp] at a4;cases a4
   |some p=>
    rw[hp] at a4
    simp only[Option.map_some,Option.some.injEq] at a4 ⊢
    have:=a5 p hp
    rw[Dg (by exact hb)]
    simp only[RK,←a4,this]
  ·rw[eb,Option.map_eq_some_iff] at hp
   obtain⟨q,hq,rfl⟩:=hp
   exact a5 q hq
theorem Nl{sg:List Sg}{x y:Gs}{f:Bool→Ps→PR}{k:Int}(hf:BL f)(h:Ah sg x (f false) (k,y)):y.bad=false→0≤k:=fun hb=>by have:=a1W hf h hb;omega
theorem VW{sg:List Sg}{y:Gs}(hb:y.bad=false):blG sg y=(pkG sg y 0).blank:=by
 rw[blG,pkG]
 by_cases h:y.pos<sg.length
 ·rw[if_neg (by simp [hb];omega)];simp [h]
 ·rw[if_pos (.inr (by omega))];simp [h,Es]
theorem b2M{sg:List Sg}{x:Gs}{one:Bool→Ps→PR}(h:gsOk sg x)(hd:x.deep≤20):restP sg x (BC sg one) (pkX (Av sg x [123]))
 (fun s1=>(Cz sg one [125] (sg.length+1) [] s1).bind fun p=>(Bm sg [125] ⟨18,[],p.1,false⟩ p.2).map fun q=>(q.1,dp q.2 (-1))) 1:=by
 have t:=Hk (m:=[123]) h
 have a:=b0d (one:=one) h hd
 have t1:=t.1;have t2:=t.2.1
 by_cases h20:x.deep=20
 ·rw[if_pos h20] at a
  have e:pkX (Av sg x [123])=gDp (Bt (Av sg x [123])) 1:=by rw[pkX,if_pos (by omega)]
  have e2:Av sg (gDp (Bt x) 1) [123]=gDp (Bt x) 1:=Rx rfl
  rw[e2] at a
  rw[e]
  refine Vv a ⟨t1.1,by simp only[gDp,Bt];omega,t1.2.2⟩ (by simp only[gDp,Bt];omega) (by simp only[gDp,Bt];omega) rfl
 ·rw[if_neg h20] at a
  have e:pkX (Av sg x [123])=gDp (Av sg x [123]) 1:=by rw[pkX,if_neg (by omega)]
  rw[e]
  have e2:Av sg (gDp x 1) [123]=gDp (Av sg x [123]) 1:=by
   have:isG sg (gDp x 1) 4 [123]=isG sg x 4 [123]:=rfl
   cases hq:isG sg x 4 [123] with
   |true=>rw[Jj hq,Jj (by rw[this];exact hq)];rfl
   |false=>rw[Pc hq,Pc (by rw[this];exact hq)];rfl
  rw[e2] at a;exact a
theorem a1X{g:Gs}{d:Int}{w:Nd}:As (gDp g d) w=gDp (As g w) d∧AX (gDp g d)=AX g:=by
 have hf:DB (gDp g d)=DB g:=rfl
 unfold As AX
 rw[hf]
 cases DB g<;>exact⟨rfl,rfl⟩
theorem a1Y{sg:List Sg}{one:Bool→Ps→PR}{x:Gs}{l:List Int×Gs}(h:gsOk sg x)(hd:x.deep≤20)(hl:BG sg (pkX (Av sg x [123])) (Cz sg one [125] (sg.length+1) []) l)(hll:l.1.length≤3001):
 Ah sg x (BC sg one) (AX (gDp (Av sg l.2 [125]) (-1)),As (gDp (Av sg l.2 [125]) (-1)) ⟨18,[],l.1,false⟩):=by
 have k1:=BS (k:=fun ks s=>(Bm sg [125] ⟨18,[],ks,false⟩ s).map fun q=>(q.1,dp q.2 (-1))) (b2M h hd) hl (fun _ _=>rfl)
 have hw:Df ⟨18,[],l.1,false⟩:=⟨by simp,by simp only;omega⟩
 have hc:=HM k1.1 hw (MW (m:=[125]) k1.1 hw)
 have k2:=BS (k:=fun k s=>some (k,dp s (-1))) k1 hc.1 (fun s _=>by cases Bm sg [125] ⟨18,[],l.1,false⟩ s<;>rfl)
 simp only at k2
 rw[(a1X (w:=⟨18,[],l.1,false⟩)).1,(a1X (w:=⟨18,[],l.1,false⟩)).2]
 refine⟨GI (Ln (e:= -1) k2 ?_ (fun s hs=>rfl)),fun hb=> ?_⟩
 ·have:=k2.2.1;have:=h.2.1;omega
 ·have:=hc.2 hb
  have:=k1.2.2.1
  simp only[gDp] at*;omega
end Go.My
end
section
namespace Go.My
open Go.Eng Go.Proofs
variable {G:GInv}
def okQ(s:ST)(x:Gs):Prop:=okD s x∧sgM s.sg
theorem EA{s:ST}{x:Gs}(h:okQ s x):okD s x:=h.1
theorem Nm{s:ST}{x:Gs}(h:okQ s x):sgM s.sg:=h.2
theorem Jm{sg:List Sg}{x:Gs}{m:List UInt8}(h:isG sg x 1 m=false):BE sg x m=x:=by simp [BE,h]
theorem Jn{sg:List Sg}{x:Gs}{m:List UInt8}(h:isG sg x 1 m=true):BE sg x m=Au x:=by simp [BE,h]
theorem Gp{s:ST}{x:Gs}{m:List UInt8}(h:okQ s x)(hq:isG s.sg x 1 m=true):okQ s (Au x):=⟨a1d h.1 hq,h.2⟩
theorem VX{s:ST}{x:Gs}(h:okQ s x):rOk s (Bg s.sg x 1)∧rOk s (Ax s.sg (Bg s.sg x 1) [61]):=by
 have a:=Hn (k:=1) h.1.1 (by omega);exact⟨a,Fx a⟩
theorem b2N{s:ST}{x:Gs}(h:okQ s x)(hq:isG s.sg (Bg s.sg x 1) 4 [61]=true):okQ s (Ax s.sg (Bg s.sg x 1) [61]):=by
 rw[HN.1] at hq ⊢
 exact⟨b0G h.1.1 h.1.2 hq,h.2⟩
theorem b2O{s:ST}{x:Gs}{z:Int×Gs}(h:okQ s x)(hq:isG s.sg (Bg s.sg x 1) 4 [61]=true)(hz:Ah s.sg (Ax s.sg (Bg s.sg x 1) [61]) (Cg s.sg) z):
 Ah s.sg x (CW s.sg false) (AX (Av s.sg z.2 [59]),As (Av s.sg z.2 [59]) ⟨12,BA s.sg x 1,[z.1],false⟩):=by
 rw[HN.1] at hq hz;rw[HN.2]
 exact HM (FQ hz) (ET (Jg h.1.1.1) (by simp)) (b0H h.1.1 hq hz)
theorem b2P{s:ST}{x:Gs}(h:okQ s x)(hq:isG s.sg (Bg s.sg x 1) 4 [61]=false):
 Ah s.sg x (CW s.sg false) (AX (Av s.sg (Ax s.sg (Bg s.sg x 1) [61]) [59]),As (Av s.sg (Ax s.sg (Bg s.sg x 1) [61]) [59]) ⟨12,BA s.sg x 1,[],false⟩):=by
 rw[HN.1] at hq ⊢;rw[HN.2]
 exact HM (b0I h.1.1 hq).2 (ET (Jg h.1.1.1) (by simp)) (b0J h.1.1 hq)
def mbS(sg:List Sg)(n:Nat)(x y:Gs)(ks:List Int)(N:Nat):Prop:=
 Kd sg (stR sg n) [125] (pkX (Av sg x [123])) y ks N∧y.deep=x.deep+1∧(y.bad=false→x.deep≠20)
theorem a1Z{s:ST}{x:Gs}{n:Nat}(h:okQ s x):mbS s.sg n x (pkX (Av s.sg x [123])) [] (s.sg.length+1):=by
 have t:=Hk (m:=[123]) h.1.1.2
 obtain⟨p1,p2,p3⟩:= @OQ (Av s.sg x [123])
 have t1:=t.1;have t2:=t.2.1;have hd:=h.1.2
 refine⟨a0R ⟨by simp only[pkX] at*;rw[p1];exact t1.1,by simp only[pkX] at*;rw[p2];have:=t1.2.1;omega,?_⟩,by simp only[pkX] at*;rw[p2];omega,fun hb=>by have:=(p3 hb).2;omega⟩
 have e:(pkX (Av s.sg x [123])).nodes=(Av s.sg x [123]).nodes:=by unfold pkX;split<;>rfl
 rw[e];exact t1.2.2
theorem b2Q{s:ST}{x:Gs}{n:Nat}(h:okQ s x)(h20:(Av s.sg x [123]).deep+1>20):mbS s.sg n x ⟨(Av s.sg x [123]).pos,(Av s.sg x [123]).deep+1,true,(Av s.sg x [123]).nodes⟩ [] (s.sg.length+1):=by
 have a:=a1Z (n:=n) h
 have t2:=(Hk (m:=[123]) h.1.1.2).2.1;have hd:=h.1.2
 have e:pkX (Av s.sg x [123])=⟨(Av s.sg x [123]).pos,(Av s.sg x [123]).deep+1,true,(Av s.sg x [123]).nodes⟩:=by rw[pkX,if_pos (by omega)];rfl
 rw[←e];exact a
theorem b2R{s:ST}{x:Gs}{n:Nat}(h:okQ s x)(h20:¬(Av s.sg x [123]).deep+1>20):mbS s.sg n x ⟨(Av s.sg x [123]).pos,(Av s.sg x [123]).deep+1,(Av s.sg x [123]).bad,(Av s.sg x [123]).nodes⟩ [] (s.sg.length+1):=by
 have a:=a1Z (n:=n) h
 have e:pkX (Av s.sg x [123])=⟨(Av s.sg x [123]).pos,(Av s.sg x [123]).deep+1,(Av s.sg x [123]).bad,(Av s.sg x [123]).nodes⟩:=by rw[pkX,if_neg (by omega)];rfl
 rw[←e];exact a
theorem b2S{s:ST}{x:Gs}(h:okQ s x):0≤(Av s.sg x [123]).deep∧(Av s.sg x [123]).deep≤20:=by
 have t:=Hk (m:=[123]) h.1.1.2
 have:=t.1.2.1;have:=t.2.1;have:=h.1.2;omega
theorem RL{s:ST}{x y:Gs}{n:Nat}{ks:List Int}{N:Nat}(h:okQ s x)(hj:mbS s.sg n x y ks N):rOk s y:=⟨h.1.1.1,hj.1.1.1⟩
theorem VY{s:ST}{x y:Gs}{n:Nat}{ks:List Int}{N:Nat}(h:okQ s x)(h2:20-x.deep≤(n:Int))(hj:mbS s.sg n x y ks N)(hb:y.bad=false)(hq:isG s.sg y 4 [125]=false):okQ s (Ax s.sg y [125])∧(Ax s.sg y [125]).bad=false∧21-(Ax s.sg y [125]).deep≤(n:Int):=by
 rw[Dw hq]
 have:=hj.2.1;have:=hj.2.2 hb;have:=h.1.2
 exact⟨⟨⟨RL h hj,by omega⟩,h.2⟩,hb,by omega⟩
theorem VZ{s:ST}{x y:Gs}{n:Nat}{ks:List Int}{N:Nat}(h:okQ s x)(hj:mbS s.sg n x y ks N):ks.length≤3001:=by
 have:=hj.1.2.2.1;have:=hj.1.1.1.1;have:=h.1.1.1.1;omega
theorem RM{s:ST}{x y:Gs}{n:Nat}{ks:List Int}{N:Nat}{b:Bool}{z:Int×Gs}(hj:mbS s.sg n x y ks N)(hb:y.bad=false)(hq:isG s.sg y 4 [125]=false)(hz:Ah s.sg (Ax s.sg y [125]) (stR s.sg n false) z)(e:b=(blG s.sg (Ax s.sg y [125])&&decide (0<(ks.length:Int)))):
 mbS s.sg n x (gBl z.2 z.1 b) (ks++[z.1]) (N-1)∧N-1<N:=by
 rw[Dw hq] at hz e
 rw[VW hb] at e
 have hz2:Ah s.sg y (stR s.sg n b) (z.1,gBl z.2 z.1 b):=VV VS hz
 subst e
 obtain⟨a,b⟩:=Na (a0V hj.1 hb hq (z:=(z.1,gBl z.2 z.1 ((pkG s.sg y 0).blank&&decide (0<(ks.length:Int))))) (by
  have:decide (0<ks.length)=decide (0<(ks.length:Int)):=by simp
  rw[this];exact hz2))
 have:=(CS hz2).1
 exact⟨⟨a,by have:=hj.2.1;simp only at*;omega,fun hw=>hj.2.2 hb⟩,b⟩
theorem b2T{s:ST}{x y:Gs}{n:Nat}{ks:List Int}{N:Nat}(h:okQ s x)(hj:mbS s.sg n x y ks N)(hq:isG s.sg y 4 [125]=true):
 Ah s.sg x (BC s.sg (stR s.sg n)) (AX (gDp (Ax s.sg y [125]) (-1)),As (gDp (Ax s.sg y [125]) (-1)) ⟨18,[],ks,false⟩):=by
 rw[Ez hq,←Jj hq]
 exact a1Y (l:=(ks,y)) h.1.1.2 h.1.2 (a0U hj.1 hq) (VZ h hj)
theorem b2U{s:ST}{x y:Gs}{n:Nat}{ks:List Int}{N:Nat}(h:okQ s x)(hj:mbS s.sg n x y ks N)(hb:y.bad=true):
 Ah s.sg x (BC s.sg (stR s.sg n)) (AX (gDp y (-1)),As (gDp y (-1)) ⟨18,[],ks,false⟩):=by
 have a:=a1Y (l:=(ks,y)) h.1.1.2 h.1.2 (a0S hj.1 hb) (VZ h hj)
 simp only[Rx hb] at a;exact a
theorem Wa{s:ST}{x y:Gs}{n:Nat}{ks:List Int}{N:Nat}(h:okQ s x)(hj:mbS s.sg n x y ks N):(1≤y.deep∧y.deep≤21)∧rOk s (gDp y (-1))∧rOk s (gDp (Ax s.sg y [125]) (-1))∧(Ax s.sg y [125]).deep=y.deep:=by
 have h1:=hj.2.1;have h2:=h.1.1.2.2.1;have h3:=h.1.2
 have a:=RL h hj
 have b:=Fx (m:=[125]) a
 have e:(Ax s.sg y [125]).deep=y.deep:=by unfold Ax;split<;>rfl
 refine⟨by omega,⟨a.1,a.2.1,by simp only[gDp];omega,a.2.2.2⟩,⟨b.1,b.2.1,by simp only[gDp];omega,b.2.2.2⟩,e⟩
theorem b2V{s:ST}{x:Gs}{n:Nat}(h:okQ s x)(hk:kdG s.sg x 5=true):Ah s.sg x (stR s.sg (n+1) false) (AX (Bg s.sg x 5),As (Bg s.sg x 5) ⟨19,BA s.sg x 5,[],false⟩):=by
 have hn:=hk
 rw[Pb (by omega)] at hn
 exact Ni h.1.1.1 h.1.1.2 (by omega) hk (b0j h.1.1.1 h.1.1.2 (by simpa using hn))
theorem GN{sg:List Sg}{x:Gs}(h:kdG sg x 5=false):(pkG sg x 0).kind≠5:=Jl h (by omega)
theorem b2W{s:ST}{x:Gs}{n:Nat}{z:Int×Gs}(h:okQ s x)(hk:kdG s.sg x 5=false)(hq:isG s.sg x 1 [118,97,114]=true)(hz:Ah s.sg (Au x) (CW s.sg false) z):Ah s.sg x (stR s.sg (n+1) false) z:=b0k h.1.1.2 (GN hk) hq hz
theorem b2X{s:ST}{x:Gs}{n:Nat}(h:okQ s x)(hk:kdG s.sg x 5=false)(h1:isG s.sg x 1 [118,97,114]=false)(hq:isG s.sg x 1 [114,101,116,117,114,110]=true)(hs:isG s.sg (Au x) 4 [59]=true):
 Ah s.sg x (stR s.sg (n+1) false) (AX (Av s.sg (Au x) [59]),As (Av s.sg (Au x) [59]) ⟨15,[],[],false⟩):=by
 have o:=(Gp h hq).1.1.2
 exact a0X h.1.1.2 (GN hk) h1 hq (HM o (ET (by simp) (by simp)) (a9Y o hs))
theorem b2Y{s:ST}{x:Gs}{n:Nat}{z:Int×Gs}(h:okQ s x)(hk:kdG s.sg x 5=false)(h1:isG s.sg x 1 [118,97,114]=false)(hq:isG s.sg x 1 [114,101,116,117,114,110]=true)(hs:isG s.sg (Au x) 4 [59]=false)(hz:Ah s.sg (Au x) (Cg s.sg) z):
 Ah s.sg x (stR s.sg (n+1) false) (AX (Av s.sg z.2 [59]),As (Av s.sg z.2 [59]) ⟨15,[],[z.1],false⟩):=by
 have o:=(Gp h hq).1.1.2
 exact a0X h.1.1.2 (GN hk) h1 hq (HM (FQ hz) (ET (by simp) (by simp)) (a9Z o hs hz))
theorem b2Z{s:ST}{x:Gs}{n:Nat}{c q:Int×Gs}(h:okQ s x)(hk:kdG s.sg x 5=false)(h1:isG s.sg x 1 [118,97,114]=false)(h2:isG s.sg x 1 [114,101,116,117,114,110]=false)(hq:isG s.sg x 1 [105,102]=true)
 (hc:BG s.sg (Au x) (Db s.sg) c) (hb:Ah s.sg c.2 (BC s.sg (stR s.sg n)) q) (he:isG s.sg q.2 1 [101,108,115,101]=false):
 Ah s.sg x (stR s.sg (n+1) false) (AX (BE s.sg q.2 [101,108,115,101]),As (BE s.sg q.2 [101,108,115,101]) ⟨16,[],[c.1,q.1],false⟩):=by
 rw[Jm he]
 exact a0Y h.1.1.2 (GN hk) h1 h2 hq (b0e (Gp h hq).1.1.2 hc hb he)
theorem b3a{s:ST}{x:Gs}{n:Nat}{c q r:Int×Gs}(h:okQ s x)(hk:kdG s.sg x 5=false)(h1:isG s.sg x 1 [118,97,114]=false)(h2:isG s.sg x 1 [114,101,116,117,114,110]=false)(hq:isG s.sg x 1 [105,102]=true)
 (hc:BG s.sg (Au x) (Db s.sg) c) (hb:Ah s.sg c.2 (BC s.sg (stR s.sg n)) q) (he:isG s.sg q.2 1 [101,108,115,101]=true) (hr:Ah s.sg (BE s.sg q.2 [101,108,115,101]) (BC s.sg (stR s.sg n)) r):
 Ah s.sg x (stR s.sg (n+1) false) (AX r.2,As r.2 ⟨16,[],[c.1,q.1,r.1],false⟩):=by
 rw[Jn he] at hr
 exact a0Y h.1.1.2 (GN hk) h1 h2 hq (b0f (Gp h hq).1.1.2 hc hb he hr)
theorem b3b{s:ST}{x:Gs}{n:Nat}{c q:Int×Gs}(h:okQ s x)(hk:kdG s.sg x 5=false)(h1:isG s.sg x 1 [118,97,114]=false)(h2:isG s.sg x 1 [114,101,116,117,114,110]=false)(h3:isG s.sg x 1 [105,102]=false)(hq:isG s.sg x 1 [119,104,105,108,101]=true)
 (hc:BG s.sg (Au x) (Db s.sg) c) (hb:Ah s.sg c.2 (BC s.sg (stR s.sg n)) q):Ah s.sg x (stR s.sg (n+1) false) (AX q.2,As q.2 ⟨17,[],[c.1,q.1],false⟩):=b0K h.1 (GN hk) h1 h2 h3 hq hc hb
theorem b3c{sg:List Sg}{i k:Int}{e:Sg}(hk:e.kind=k)(he:sg[i.toNat]? =some e):(sgO sg i).kind=k:=by rw[FO he];exact hk
theorem b3d{sg:List Sg}{i k:Int}{e:Sg}(hk:e.kind≠k)(he:sg[i.toNat]? =some e):(sgO sg i).kind≠k:=by rw[FO he];exact hk
theorem b3e{sg:List Sg}{i:Int}{e:Sg}{m:List UInt8}(hk:e.text=m)(he:sg[i.toNat]? =some e):((sgO sg i).text==m)=true:=by rw[FO he];simpa using hk
theorem b3f{sg:List Sg}{i:Int}{e:Sg}{m:List UInt8}(hk:e.text≠m)(he:sg[i.toNat]? =some e):((sgO sg i).text==m)=false:=by rw[FO he];simpa using hk
theorem b3g{sg:List Sg}{x:Gs}(hk:kdG sg x 1=false):seG sg x=false:=by rw[IB] at hk;simp [seG,hk]
theorem a2a{sg:List Sg}{x:Gs}{e:Sg}(hb:x.bad=false)(hl:x.pos+1<sg.length)(he:sgO sg (x.pos+1)=e):pkG sg x 1=e:=by
 rw[pkG,if_neg (by simp [hb];omega),he]
theorem b3h{sg:List Sg}{x:Gs}(hl:¬x.pos+1<sg.length):seG sg x=false:=by
 have:pkG sg x 1=Es:=by rw[pkG,if_pos (.inr (by omega))]
 simp [seG,this,Es]
theorem a2b{sg:List Sg}{x:Gs}(hb:x.bad=false)(hl:x.pos+1<sg.length)(hk:(sgO sg (x.pos+1)).kind≠4∨((sgO sg (x.pos+1)).text==[61])=false):seG sg x=false:=by
 rw[seG,a2a hb hl rfl]
 rcases hk with hk|hk<;>simp [hk]
theorem b3i{sg:List Sg}{x:Gs}(hb:x.bad=false)(hl:x.pos+1<sg.length)(h1:kdG sg x 1=true)(hk:(sgO sg (x.pos+1)).kind=4)(ht:((sgO sg (x.pos+1)).text==[61])=true):seG sg x=true:=by
 rw[IB] at h1
 rw[seG,a2a hb hl rfl];simp [h1,hk,ht]
theorem b3j{s:ST}{x:Gs}{n:Nat}{z:Int×Gs}(h:okQ s x)(hk:kdG s.sg x 5=false)(h1:isG s.sg x 1 [118,97,114]=false)(h2:isG s.sg x 1 [114,101,116,117,114,110]=false)(h3:isG s.sg x 1 [105,102]=false)(h4:isG s.sg x 1 [119,104,105,108,101]=false)
 (he:seG s.sg x=true) (hz:Ah s.sg (Av s.sg (Bg s.sg x 1) [61]) (Cg s.sg) z):Ah s.sg x (stR s.sg (n+1) false) (AX (Av s.sg z.2 [59]),As (Av s.sg z.2 [59]) ⟨13,BA s.sg x 1,[z.1],false⟩):=by
 rw[HN.1] at hz;rw[HN.2]
 exact b0m h.1.1.2 (GN hk) h1 h2 h3 h4 he (HM (FQ hz) (ET (Jg h.1.1.1) (by simp)) (b0h h.1.1.1 h.1.1.2 hz))
theorem RN{s:ST}{x:Gs}{n:Nat}{z:Int×Gs}(h:okQ s x)(hk:kdG s.sg x 5=false)(h1:isG s.sg x 1 [118,97,114]=false)(h2:isG s.sg x 1 [114,101,116,117,114,110]=false)(h3:isG s.sg x 1 [105,102]=false)(h4:isG s.sg x 1 [119,104,105,108,101]=false)
 (he:seG s.sg x=false) (hz:Ah s.sg x (Cg s.sg) z):Ah s.sg x (stR s.sg (n+1) false) (AX (Av s.sg z.2 [59]),As (Av s.sg z.2 [59]) ⟨14,[],[z.1],false⟩):=
 b0n h.1.1.2 (GN hk) h1 h2 h3 h4 he (HM (FQ hz) (ET (by simp) (by simp)) (b0i h.1.1.2 hz))
theorem a2c{s:ST}{x:Gs}(h:okQ s x):rOk s (Av s.sg (Bg s.sg x 1) [61])∧okQ s (Av s.sg (Bg s.sg x 1) [61]):=by
 have a:=GL (m:=[61]) (Hn (k:=1) h.1.1 (by omega))
 have e:(Bg s.sg x 1).deep=x.deep:=by unfold Bg;split<;>rfl
 exact⟨a.1,⟨a.1,by have:=h.1.2;omega⟩,h.2⟩
theorem b3k{α:Type}{s:ST}{x:Gs}{f:Ps→Option (α×Ps)}{y:α×Gs}(h:okQ s x)(hy:BG s.sg x f y):okQ s y.2:=⟨a1b h.1 hy,h.2⟩
theorem Nn{α:Type}{s:ST}{x:Gs}{f:Ps→Option (α×Ps)}{y:α×Gs}(h:okQ s x)(hy:Ah s.sg x f y):okQ s y.2:=⟨a1b h.1 hy.1,h.2⟩
theorem b3l{α:Type}{s:ST}{x:Gs}{n:Nat}{f:Ps→Option (α×Ps)}{y:α×Gs}(h:21-x.deep≤((n+1:Nat):Int))(hy:BG s.sg (Au x) f y):20-y.2.deep≤(n:Int):=by
 have:=hy.2.1;simp only[Au] at this;omega
theorem a2d{sg:List Sg}{x:Gs}{m:List UInt8}:(BE sg x m).deep=x.deep:=by unfold BE;split<;>rfl
theorem a2e{s:ST}{x:Gs}{m:List UInt8}(h:rOk s x):rOk s (BE s.sg x m):=by
 unfold BE;split
 ·rename_i hq;exact⟨h.1,Gj h.2 (Dh hq (by omega)).2⟩
 ·exact h
theorem a2f{s:ST}{x:Gs}{m:List UInt8}(h:okQ s x):okQ s (BE s.sg x m):=⟨⟨a2e h.1.1,by rw[a2d];exact h.1.2⟩,h.2⟩
theorem b3m{α:Type}{s:ST}{x:Gs}{n:Nat}{m:List UInt8}{f:Ps→Option (α×Ps)}{y:α×Gs}(h:20-x.deep≤(n:Int))(hy:Ah s.sg x f y):20-(BE s.sg y.2 m).deep≤(n:Int):=by
 rw[a2d];exact b0M h hy
def Jo(n:Nat):Sig:= {X:=ST×Int×Int×Bool×List Nd,args:=fun x=>[srd x.1 (xg x)],pre:=fun x=>(okQ x.1 (xg x)∧(xg x).bad=false)∧21-(xg x).deep≤n,Y:=Int×Int×Int×Bool×List Nd,post:=fun x y=>Ah x.1.sg (xg x) (stR x.1.sg n false) (yS y),res:=fun x y=> .int .i64 y.1,outs:=fun x y=>[srd x.1 (yG y.2)],keep:=true}
attribute [local irreducible] pE Bs Cy fnR Ah BG gsOk Av CK As Di Ev Ax DS Eh AX CL pkG isG nmG kdG Bg BA BN vlQ BE gBl blG CW GK Db Cg BC stR Cz mbS seG okQ sgM
def srf(s:ST)(g:Gs):AV:= .pf [sgs s.sg,.int .i64 g.pos,.bool g.bad,.int .i64 g.deep,nds g.nodes]
theorem a2g{l:List Sg}{p d:Int}{b:Bool}{ns:List Nd}:AV.pf (fzL [AV.sl false 0 4 Sg sgA l,.int .i64 p,.bool b,.int .i64 d,AV.sl true 0 4 Nd (ndA true) ns])=AV.pf [AV.sl false 0 4 Sg sgA l,.int .i64 p,.bool b,.int .i64 d,AV.sl false 0 4 Nd (ndA false) ns]:=rfl
def IE:Sig:= {X:=ST×Int×Int×Bool×List Nd×Int,args:=fun x=>[srf x.1 (xh x),.int .i64 x.2.2.2.2.2],pre:=fun x=>rOk x.1 (xh x)∧x.2.2.2.2.2≠0,Y:=Unit,post:=fun x y=>True,res:=fun x y=> .bool (kdG x.1.sg (xh x) x.2.2.2.2.2),outs:=fun x y=>[.top,.top],keep:=false}
theorem b3n:Am G Tryz.prog 40 IE:=
 vcFun_okP [(76,0,Gc)] [] false (fun x=>[]) Tryz.func40 rfl (by decide) ⟨UI,trivial⟩ (fun(x:ST×Int×Int×Bool×List Nd×Int)=>(∀(y:Unit),True→True∧True∧True∧True)∧true=true∧true=true∧Aa (!(xh x).bad) (Aa (decide ((xh x).pos<(↑(List.length x.1.sg):Int))) (((0:Int)≤(xh x).pos∧(xh x).pos<(↑(List.length x.1.sg):Int))∧∀(e:Sg),x.1.sg[Int.toNat (xh x).pos]? =some e→Aa (e.kind==x.2.2.2.2.2) (Aa (x.2.2.2.2.2 != (1:Int)) (rA IE x [.bool true,.top,.top]) (((0:Int)≤(xh x).pos∧(xh x).pos<(↑(List.length x.1.sg):Int))∧∀(e:Sg),x.1.sg[Int.toNat (xh x).pos]? =some e→∃(x_1:List UInt8),True∧e.text=x_1∧∃(y0:Unit),(∀(y:Unit),True→AV.bool (kw x_1)=AV.bool (kw x_1))∧true=true∧rA IE x [.bool !kw x_1,.top,.top])) (rA IE x [.bool false,.top,.top])) (rA IE x [.bool false,.top,.top])) (rA IE x [.bool false,.top,.top])) (fun x=>by kernel_rfl) fun(x:ST×Int×Int×Bool×List Nd×Int) (hx:rOk x.1 (xh x)∧x.2.2.2.2.2≠0)=>(by
 dsimp only[Bx,nds,rA,IE,Bv,sgs,srf,Aw,AR]
 obtain⟨s,p,d,b,ns,k⟩:=x;dsimp only[xg,xh] at hx ⊢
 obtain⟨h1,h2⟩:=hx;have hs:=GH h1;dsimp only at hs
 (repeat' first|(with_reducible first|rfl|exact True.intro|apply AM|apply And.intro|((first|apply AC|apply AK|apply AD|apply AL)<;>intro _))|(apply AB<;>intro _)|apply AJ|refine Ag () ?_ ?_|((first|apply AQ|apply AP|apply AO|apply AN|apply AI|apply AH|apply AG|apply AF|apply AE)<;>try dsimp only)|apply Ag|(refine Prod.forall.2 ?_;intro _;try dsimp only)|(intro _;try dsimp only))
 all_goals(try(repeat(rename s.sg[_]? =some _=>hq;revert hq;rename s.sg[_]? =some _=>hr;intro hq;rw[hr] at hq;cases hq)))
 all_goals first
  |rfl
  |exact(Ng h2 (.inl ‹_›)).symm
  |exact(Ng h2 (.inr (by simp only;omega))).symm
  |(rw[a1w ‹_› ‹_› (by simp only;omega)];simp [*];done)
  |((try simp only[AS]);omega)
  |skip)
def GP:Sig:= {X:=ST×Int×Int×Bool×List Nd,args:=fun x=>[srd x.1 (xg x)],pre:=fun x=>okQ x.1 (xg x),Y:=Int×Int×Int×Bool×List Nd,post:=fun x y=>Ah x.1.sg (xg x) (CW x.1.sg false) (yS y),res:=fun x y=> .int .i64 y.1,outs:=fun x y=>[srd x.1 (yG y.2)],keep:=true}
theorem Wb:Am G Tryz.prog 43 GP:=
 vcFun_okP [(41,0,CC),(45,0,Cd),(78,0,FT),(44,0,BP),(25,0,Bn)] [(47,⟨Int,Bw⟩)] false (fun x=>[]) Tryz.func43 rfl (by decide) ⟨Kg,Hl,VN,HL,Hm,trivial⟩ (fun(x:ST×Int×Int×Bool×List Nd)=>True∧cA CC [srd x.1 (xg x),.int .i64 (1:Int)] fun x_1 y=>cA Cd [srd x_1.1 (Bg x_1.1.sg (xh x_1) x_1.2.2.2.2.2),.str #[(61:UInt8)].toList] fun x_2 y=>Aa (isG x_2.1.sg (xh x_2) (4:Int) x_2.2.2.2.2.2) (cA FT [srd x_2.1 (Ax x_2.1.sg (xh x_2) x_2.2.2.2.2.2)] fun x_3 y=>∃(x_4:Int),y.1=x_4∧∃(zs:List Int),Ab [x_4]=Ab zs∧Bu Bw∧Ba ((0:Nat)+List.length zs) (8:Nat)∧cA BP [srd x_3.1 (yG y.2),.str #[(59:UInt8)].toList] fun x_5 y=>cA Bn [srd x_5.1 (Av x_5.1.sg (xh x_5) x_5.2.2.2.2.2),.int .i64 (12:Int),.str (BA x_1.1.sg (xh x_1) x_1.2.2.2.2.2),Ab ([]++zs)] fun x_6 y=>rA GP x [.int .i64 (AX (xh x_6)),srd x_6.1 (As (xh x_6) {kind:=x_6.2.2.2.2.2.1,text:=x_6.2.2.2.2.2.2.1,kids:=x_6.2.2.2.2.2.2.2,blank:=false})]) (cA BP [srd x_2.1 (Ax x_2.1.sg (xh x_2) x_2.2.2.2.2.2),.str #[(59:UInt8)].toList] fun x_3 y=>cA Bn [srd x_3.1 (Av x_3.1.sg (xh x_3) x_3.2.2.2.2.2),.int .i64 (12:Int),.str (BA x_1.1.sg (xh x_1) x_1.2.2.2.2.2),Ab []] fun x_4 y=>rA GP x [.int .i64 (AX (xh x_4)),srd x_4.1 (As (xh x_4) {kind:=x_4.2.2.2.2.2.1,text:=x_4.2.2.2.2.2.2.1,kids:=x_4.2.2.2.2.2.2.2,blank:=false})])) (fun x=>by kernel_rfl) fun(x:ST×Int×Int×Bool×List Nd) (hx:okQ x.1 (xg x))=>(by
 dsimp only[cA,Bx,Ab,Bd,rA,Cd,Bn,CC,FT,GP,BP,Bv,sgs,srd,Aw,AR,mvL,lnL,mvE,lnE]
 obtain⟨s,p,d,b,ns⟩:=x;dsimp only[xg,xh] at hx ⊢
 have hx:okQ s ⟨p,d,b,ns⟩:=hx
 have hD:=EA hx;have hM:=Nm hx;have h1:=hD.1
 (repeat' first|(with_reducible first|rfl|exact True.intro|apply AM|apply And.intro|((first|apply AC|apply AK|apply AD|apply AL)<;>intro _))|(apply AB<;>intro _)|apply AJ|refine Ag () ?_ ?_|((first|apply AQ|apply AP|apply AO|apply AN|apply AI|apply AH|apply AG|apply AF|apply AE)<;>try dsimp only)|apply Ag|(refine Prod.forall.2 ?_;intro _;try dsimp only)|(intro _;try dsimp only))
 all_goals(try dsimp only[xg,xh,yG,yS,iG,iF] at*)
 all_goals(try simp only[Gk] at*)
 all_goals first
  |rfl
  |exact h1
  |omega
  |exact(VX hx).1
  |exact(VX hx).2
  |exact EA (b2N hx ‹_›)
  |exact hM
  |exact Fi h1 ‹_›
  |exact(GL (Fi h1 ‹_›)).1
  |exact(GL (VX hx).2).1
  |exact b2O hx ‹_› ‹_›
  |exact b2P hx ‹_›
  |(simp [Ba];done)
  |skip)
def Ly:Sig:= {X:=ST×Int×Int×Bool×List Nd,args:=fun x=>[srd x.1 (xg x)],pre:=fun x=>okQ x.1 (xg x),Y:=Int×Int×Int×Bool×List Nd,post:=fun x y=>BG x.1.sg (xg x) (Db x.1.sg) (yS y),res:=fun x y=> .int .i64 y.1,outs:=fun x y=>[srd x.1 (yG y.2)],keep:=true}
theorem b3o:Am G Tryz.prog 90 Ly:=
 vcFun_okP [(78,0,FT),(44,0,BP)] [] false (fun x=>[]) Tryz.func90 rfl (by decide) ⟨VN,HL,trivial⟩ (fun(x:ST×Int×Int×Bool×List Nd)=>True∧cA BP [srd x.1 (xg x),.str #[(40:UInt8)].toList] fun x_1 y=>cA FT [srd x_1.1 (Av x_1.1.sg (xh x_1) x_1.2.2.2.2.2)] fun x_2 y=>cA BP [srd x_2.1 (yG y.2),.str #[(41:UInt8)].toList] fun x_3 y_1=>rA Ly x [.int .i64 y.1,srd x_3.1 (Av x_3.1.sg (xh x_3) x_3.2.2.2.2.2)]) (fun x=>by kernel_rfl) fun(x:ST×Int×Int×Bool×List Nd) (hx:okQ x.1 (xg x))=>(by
 dsimp only[cA,Bx,Bd,rA,Ly,FT,BP,Bv,sgs,srd,Aw,AR,mvL,lnL,mvE,lnE]
 obtain⟨s,p,d,b,ns⟩:=x;dsimp only[xg,xh] at hx ⊢
 have hx:okQ s ⟨p,d,b,ns⟩:=hx
 have hD:=EA hx;have hM:=Nm hx;have h1:=hD.1
 have t:=GL (m:=[40]) h1;have hd:=hD.2;dsimp only at hd
 (repeat' first|(with_reducible first|rfl|exact True.intro|apply AM|apply And.intro|((first|apply AC|apply AK|apply AD|apply AL)<;>intro _))|(apply AB<;>intro _)|apply AJ|refine Ag () ?_ ?_|((first|apply AQ|apply AP|apply AO|apply AN|apply AI|apply AH|apply AG|apply AF|apply AE)<;>try dsimp only)|apply Ag|(refine Prod.forall.2 ?_;intro _;try dsimp only)|(intro _;try dsimp only))
 all_goals(try dsimp only[xg,xh,yG,yS,iG,iF] at*)
 all_goals(try simp only[Gk] at*)
 all_goals first
  |rfl
  |exact h1
  |exact t.1
  |exact hM
  |exact⟨t.1,by rw[t.2];exact hd⟩
  |exact Fi h1 ‹_›
  |exact b0a h1.2 ‹_›
  |skip)
def HQ(n:Nat):Sig:= {X:=ST×Int×Int×Bool×List Nd,args:=fun x=>[srd x.1 (xg x)],pre:=fun x=>okQ x.1 (xg x)∧20-(xg x).deep≤(n:Int),Y:=Int×Int×Int×Bool×List Nd,post:=fun x y=>Ah x.1.sg (xg x) (BC x.1.sg (stR x.1.sg n)) (yS y),res:=fun x y=> .int .i64 y.1,outs:=fun x y=>[srd x.1 (yG y.2)],keep:=true}
def Ki(n:Nat)(x:ST×Int×Int×Bool×List Nd):LS:= {ι:=Int×Int×Bool×List Nd×List Int×Nat,inv:=fun i=>mbS x.1.sg n (xg x) (iG i) i.2.2.2.2.1 i.2.2.2.2.2,regs:=fun i=>[(0,srd x.1 (iG i)),(3,Ab i.2.2.2.2.1)],als:=[],meas:=fun i=>i.2.2.2.2.2}
theorem a2h(n:Nat)(h:Am G Go.Proofs.Tryz.prog 79 (Jo n)):Am G Tryz.prog 47 (HQ n):=
 vcFun_okP [(44,0,BP),(45,0,Cd),(22,0,FS),(79,0,(Jo n)),(24,0,Ei),(25,0,Bn)] [(47,⟨Int,Bw⟩)] false (fun x=>[(6,Ki n x)]) Tryz.func47 rfl (by decide) ⟨HL,Hl,Ru,h,Rv,Hm,trivial⟩ (fun(x:ST×Int×Int×Bool×List Nd)=>True∧cA BP [srd x.1 (xg x),.str #[(123:UInt8)].toList] fun x_1 y=>inR IntKind.i64 ((Av x_1.1.sg (xh x_1) x_1.2.2.2.2.2).deep+(1:Int))∧Aa (decide ((Av x_1.1.sg (xh x_1) x_1.2.2.2.2.2).deep+(1:Int)>(20:Int))) (eA (Ki n x) [.box 0 [sgs x_1.1.sg,.int .i64 (Av x_1.1.sg (xh x_1) x_1.2.2.2.2.2).pos,.bool true,.int .i64 ((Av x_1.1.sg (xh x_1) x_1.2.2.2.2.2).deep+(1:Int)),Bd (Av x_1.1.sg (xh x_1) x_1.2.2.2.2.2).nodes],Ab []]∧∀(i:Int×Int×Bool×List Nd×List Int×Nat),mbS x.1.sg n (xg x) (iG i) i.2.2.2.2.1 i.2.2.2.2.2→Aa (!(iG i).bad) (cA Cd [srd x.1 (iG i),.str #[(125:UInt8)].toList] fun x_2 y=>Aa (!isG x_2.1.sg (xh x_2) (4:Int) x_2.2.2.2.2.2) (cA FS [srd x_2.1 (Ax x_2.1.sg (xh x_2) x_2.2.2.2.2.2)] fun x_3 y=>Aa (blG x_3.1.sg (xg x_3)) (cA (Jo n) [srd x_3.1 (xg x_3)] fun x_4 y=>cA Ei [srd x_4.1 (yG y.2),.int .i64 y.1,.bool (decide ((↑(List.length i.2.2.2.2.1):Int)>(0:Int)))] fun x_5 y_1=>∃(x_6:Int),y.1=x_6∧∃(zs:List Int),Ab [x_6]=Ab zs∧Bu Bw∧Ba (List.length i.2.2.2.2.1+List.length zs) (8:Nat)∧eN (Ki n x) i [srd x_5.1 (gBl (xh x_5) x_5.2.2.2.2.2.1 x_5.2.2.2.2.2.2),Ab (i.2.2.2.2.1++zs)]) (cA (Jo n) [srd x_3.1 (xg x_3)] fun x_4 y=>cA Ei [srd x_4.1 (yG y.2),.int .i64 y.1,.bool false] fun x_5 y_1=>∃(x_6:Int),y.1=x_6∧∃(zs:List Int),Ab [x_6]=Ab zs∧Bu Bw∧Ba (List.length i.2.2.2.2.1+List.length zs) (8:Nat)∧eN (Ki n x) i [srd x_5.1 (gBl (xh x_5) x_5.2.2.2.2.2.1 x_5.2.2.2.2.2.2),Ab (i.2.2.2.2.1++zs)])) (inR IntKind.i64 ((Ax x_2.1.sg (xh x_2) x_2.2.2.2.2.2).deep-(1:Int))∧cA Bn [.box 0 [sgs x_2.1.sg,.int .i64 (Ax x_2.1.sg (xh x_2) x_2.2.2.2.2.2).pos,.bool (Ax x_2.1.sg (xh x_2) x_2.2.2.2.2.2).bad,.int .i64 ((Ax x_2.1.sg (xh x_2) x_2.2.2.2.2.2).deep-(1:Int)),Bd (Ax x_2.1.sg (xh x_2) x_2.2.2.2.2.2).nodes],.int .i64 (18:Int),.str #[].toList,Ab i.2.2.2.2.1] fun x_3 y=>rA (HQ n) x [.int .i64 (AX (xh x_3)),srd x_3.1 (As (xh x_3) {kind:=x_3.2.2.2.2.2.1,text:=x_3.2.2.2.2.2.2.1,kids:=x_3.2.2.2.2.2.2.2,blank:=false})])) (inR IntKind.i64 ((iG i).deep-(1:Int))∧cA Bn [.box 0 [sgs x.1.sg,.int .i64 (iG i).pos,.bool (iG i).bad,.int .i64 ((iG i).deep-(1:Int)),Bd (iG i).nodes],.int .i64 (18:Int),.str #[].toList,Ab i.2.2.2.2.1] fun x_2 y=>rA (HQ n) x [.int .i64 (AX (xh x_2)),srd x_2.1 (As (xh x_2) {kind:=x_2.2.2.2.2.2.1,text:=x_2.2.2.2.2.2.2.1,kids:=x_2.2.2.2.2.2.2.2,blank:=false})])) (eA (Ki n x) [.box 0 [sgs x_1.1.sg,.int .i64 (Av x_1.1.sg (xh x_1) x_1.2.2.2.2.2).pos,.bool (Av x_1.1.sg (xh x_1) x_1.2.2.2.2.2).bad,.int .i64 ((Av x_1.1.sg (xh x_1) x_1.2.2.2.2.2).deep+(1:Int)),Bd (Av x_1.1.sg (xh x_1) x_1.2.2.2.2.2).nodes],Ab []]∧∀(i:Int×Int×Bool×List Nd×List Int×Nat),mbS x.1.sg n (xg x) (iG i) i.2.2.2.2.1 i.2.2.2.2.2→Aa (!(iG i).bad) (cA Cd [srd x.1 (iG i),.str #[(125:UInt8)].toList] fun x_2 y=>Aa (!isG x_2.1.sg (xh x_2) (4:Int) x_2.2.2.2.2.2) (cA FS [srd x_2.1 (Ax x_2.1.sg (xh x_2) x_2.2.2.2.2.2)] fun x_3 y=>Aa (blG x_3.1.sg (xg x_3)) (cA (Jo n) [srd x_3.1 (xg x_3)] fun x_4 y=>cA Ei [srd x_4.1 (yG y.2),.int .i64 y.1,.bool (decide ((↑(List.length i.2.2.2.2.1):Int)>(0:Int)))] fun x_5 y_1=>∃(x_6:Int),y.1=x_6∧∃(zs:List Int),Ab [x_6]=Ab zs∧Bu Bw∧Ba (List.length i.2.2.2.2.1+List.length zs) (8:Nat)∧eN (Ki n x) i [srd x_5.1 (gBl (xh x_5) x_5.2.2.2.2.2.1 x_5.2.2.2.2.2.2),Ab (i.2.2.2.2.1++zs)]) (cA (Jo n) [srd x_3.1 (xg x_3)] fun x_4 y=>cA Ei [srd x_4.1 (yG y.2),.int .i64 y.1,.bool false] fun x_5 y_1=>∃(x_6:Int),y.1=x_6∧∃(zs:List Int),Ab [x_6]=Ab zs∧Bu Bw∧Ba (List.length i.2.2.2.2.1+List.length zs) (8:Nat)∧eN (Ki n x) i [srd x_5.1 (gBl (xh x_5) x_5.2.2.2.2.2.1 x_5.2.2.2.2.2.2),Ab (i.2.2.2.2.1++zs)])) (inR IntKind.i64 ((Ax x_2.1.sg (xh x_2) x_2.2.2.2.2.2).deep-(1:Int))∧cA Bn [.box 0 [sgs x_2.1.sg,.int .i64 (Ax x_2.1.sg (xh x_2) x_2.2.2.2.2.2).pos,.bool (Ax x_2.1.sg (xh x_2) x_2.2.2.2.2.2).bad,.int .i64 ((Ax x_2.1.sg (xh x_2) x_2.2.2.2.2.2).deep-(1:Int)),Bd (Ax x_2.1.sg (xh x_2) x_2.2.2.2.2.2).nodes],.int .i64 (18:Int),.str #[].toList,Ab i.2.2.2.2.1] fun x_3 y=>rA (HQ n) x [.int .i64 (AX (xh x_3)),srd x_3.1 (As (xh x_3) {kind:=x_3.2.2.2.2.2.1,text:=x_3.2.2.2.2.2.2.1,kids:=x_3.2.2.2.2.2.2.2,blank:=false})])) (inR IntKind.i64 ((iG i).deep-(1:Int))∧cA Bn [.box 0 [sgs x.1.sg,.int .i64 (iG i).pos,.bool (iG i).bad,.int .i64 ((iG i).deep-(1:Int)),Bd (iG i).nodes],.int .i64 (18:Int),.str #[].toList,Ab i.2.2.2.2.1] fun x_2 y=>rA (HQ n) x [.int .i64 (AX (xh x_2)),srd x_2.1 (As (xh x_2) {kind:=x_2.2.2.2.2.2.1,text:=x_2.2.2.2.2.2.2.1,kids:=x_2.2.2.2.2.2.2.2,blank:=false})]))) (fun x=>by kernel_rfl) fun(x:ST×Int×Int×Bool×List Nd) (hx:okQ x.1 (xg x)∧20-(xg x).deep≤(n:Int))=>(by
 dsimp only[cA,eA,eN,Ki,Bx,Ab,Bd,rA,FS,Ei,HQ,Cd,Bn,Jo,BP,Bv,sgs,srd,Aw,AR,mvL,lnL,mvE,lnE,Br]
 obtain⟨s,p,d,b,ns⟩:=x;dsimp only[xg,xh] at hx ⊢
 obtain⟨hx,hn⟩:=hx
 have hx:okQ s ⟨p,d,b,ns⟩:=hx
 have hD:=EA hx;have hM:=Nm hx;have h1:=hD.1
 have td:=b2S hx
 (repeat' first|(with_reducible first|rfl|exact True.intro|apply AM|apply And.intro|((first|apply AC|apply AK|apply AD|apply AL)<;>intro _))|(apply AB<;>intro _)|apply AJ|refine Ag () ?_ ?_|((first|apply AQ|apply AP|apply AO|apply AN|apply AI|apply AH|apply AG|apply AF|apply AE)<;>try dsimp only)|apply Ag|(refine Prod.forall.2 ?_;intro _;try dsimp only)|(intro _;try dsimp only))
 all_goals(try dsimp only[xg,xh,yG,yS,iG,iF] at*)
 all_goals(try simp only[Gk] at*)
 all_goals first
  |(show Nat;skip)
  |rfl
  |exact h1
  |exact b2Q hx ‹_›
  |exact b2R hx ‹_›
  |exact RL hx ‹_›
  |exact Fx (RL hx ‹_›)
  |exact(VY hx hn ‹_› ‹_› ‹_›).1
  |exact(VY hx hn ‹_› ‹_› ‹_›).2.1
  |exact(VY hx hn ‹_› ‹_› ‹_›).2.2
  |exact Fi h1 ‹_›
  |exact Nl VS ‹_›
  |exact Nl VS ‹_› ‹_›
  |exact(RM ‹_› ‹_› ‹_› ‹_› (Ke ‹_›)).1
  |exact(RM ‹_› ‹_› ‹_› ‹_› (Kf ‹_›)).1
  |exact b2T hx ‹_› ‹_›
  |exact b2U hx ‹_› ‹_›
  |exact(Wa hx ‹_›).2.1
  |exact(Wa hx ‹_›).2.2.1
  |(simp [Ba];done)
  |(have hq:=VZ hx (show mbS _ _ _ _ _ _ by assumption);(try simp only[Ba,List.length_append,List.length_cons,List.length_nil]);omega)
  |(have hq:=Wa hx (show mbS _ _ _ _ _ _ by assumption);(try dsimp only at hq);(try simp only[AS]);omega)
  |((try simp only[AS]);omega)
  |skip
 all_goals first
  |exact(RM ‹_› ‹_› ‹_› ‹_› (Ke ‹_›)).2
  |exact(RM ‹_› ‹_› ‹_› ‹_› (Kf ‹_›)).2
  |skip)
def Gq(n:Nat):Sig:= {X:=ST×Int×Int×Bool×List Nd,args:=fun x=>[srd x.1 (xg x)],pre:=fun x=>(okQ x.1 (xg x)∧(xg x).bad=false)∧21-(xg x).deep≤(n+1:Nat),Y:=Int×Int×Int×Bool×List Nd,post:=fun x y=>Ah x.1.sg (xg x) (stR x.1.sg (n+1) false) (yS y),res:=fun x y=> .int .i64 y.1,outs:=fun x y=>[srd x.1 (yG y.2)],keep:=true}
theorem b3p(n:Nat)(h:Am G Go.Proofs.Tryz.prog 79 (Jo n)):Am G Tryz.prog 79 (Gq n):=
 vcFun_okP [(40,0,IE),(41,0,CC),(25,0,Bn),(42,0,EU),(43,0,GP),(77,0,DU),(78,0,FT),(44,0,BP),(90,0,Ly),(47,0,(HQ n))] [(47,⟨Int,Bw⟩)] false (fun x=>[]) Tryz.func79 rfl (by decide) ⟨b3n,Kg,Hm,Vu,Wb,Pa,VN,HL,b3o,(a2h n h),trivial⟩ (fun(x:ST×Int×Int×Bool×List Nd)=>True∧cA IE [srd x.1 (xg x),.int .i64 (5:Int)] fun x_1 y=>Aa (kdG x_1.1.sg (xh x_1) x_1.2.2.2.2.2) (cA CC [srd x.1 (xg x),.int .i64 (5:Int)] fun x_2 y=>cA Bn [srd x_2.1 (Bg x_2.1.sg (xh x_2) x_2.2.2.2.2.2),.int .i64 (19:Int),.str (BA x_2.1.sg (xh x_2) x_2.2.2.2.2.2),Ab []] fun x_3 y=>rA (Gq n) x [.int .i64 (AX (xh x_3)),srd x_3.1 (As (xh x_3) {kind:=x_3.2.2.2.2.2.1,text:=x_3.2.2.2.2.2.2.1,kids:=x_3.2.2.2.2.2.2.2,blank:=false})]) (cA EU [srd x.1 (xg x),.str #[(118:UInt8),(97:UInt8),(114:UInt8)].toList] fun x_2 y=>Aa (isG x_2.1.sg (xh x_2) (1:Int) x_2.2.2.2.2.2) (cA GP [srd x_2.1 (BE x_2.1.sg (xh x_2) x_2.2.2.2.2.2)] fun x_3 y=>rA (Gq n) x [.int .i64 y.1,srd x_3.1 (yG y.2)]) (cA EU [srd x_2.1 (BE x_2.1.sg (xh x_2) x_2.2.2.2.2.2),.str #[(114:UInt8),(101:UInt8),(116:UInt8),(117:UInt8),(114:UInt8),(110:UInt8)].toList] fun x_3 y=>Aa (isG x_3.1.sg (xh x_3) (1:Int) x_3.2.2.2.2.2) (cA DU [srd x_3.1 (BE x_3.1.sg (xh x_3) x_3.2.2.2.2.2),.int .i64 (4:Int),.str #[(59:UInt8)].toList] fun x_4 y=>Aa (!isG x_4.1.sg (xh x_4) x_4.2.2.2.2.2.1 x_4.2.2.2.2.2.2) (cA FT [srd x_4.1 (xh x_4)] fun x_5 y=>∃(x_6:Int),y.1=x_6∧∃(zs:List Int),Ab [x_6]=Ab zs∧Bu Bw∧Ba ((0:Nat)+List.length zs) (8:Nat)∧cA BP [srd x_5.1 (yG y.2),.str #[(59:UInt8)].toList] fun x_7 y=>cA Bn [srd x_7.1 (Av x_7.1.sg (xh x_7) x_7.2.2.2.2.2),.int .i64 (15:Int),.str #[].toList,Ab ([]++zs)] fun x_8 y=>rA (Gq n) x [.int .i64 (AX (xh x_8)),srd x_8.1 (As (xh x_8) {kind:=x_8.2.2.2.2.2.1,text:=x_8.2.2.2.2.2.2.1,kids:=x_8.2.2.2.2.2.2.2,blank:=false})]) (cA BP [srd x_4.1 (xh x_4),.str #[(59:UInt8)].toList] fun x_5 y=>cA Bn [srd x_5.1 (Av x_5.1.sg (xh x_5) x_5.2.2.2.2.2),.int .i64 (15:Int),.str #[].toList,Ab []] fun x_6 y=>rA (Gq n) x [.int .i64 (AX (xh x_6)),srd x_6.1 (As (xh x_6) {kind:=x_6.2.2.2.2.2.1,text:=x_6.2.2.2.2.2.2.1,kids:=x_6.2.2.2.2.2.2.2,blank:=false})])) (cA EU [srd x_3.1 (BE x_3.1.sg (xh x_3) x_3.2.2.2.2.2),.str #[(105:UInt8),(102:UInt8)].toList] fun x_4 y=>Aa (isG x_4.1.sg (xh x_4) (1:Int) x_4.2.2.2.2.2) (cA Ly [srd x_4.1 (BE x_4.1.sg (xh x_4) x_4.2.2.2.2.2)] fun x_5 y=>∃(x_6:Int),y.1=x_6∧cA (HQ n) [srd x_5.1 (yG y.2)] fun x_7 y=>∃(x_8:Int),y.1=x_8∧∃(zs:List Int),Ab [x_8]=Ab zs∧Bu Bw∧Ba (List.length [x_6]+List.length zs) (8:Nat)∧cA EU [srd x_7.1 (yG y.2),.str #[(101:UInt8),(108:UInt8),(115:UInt8),(101:UInt8)].toList] fun x_9 y=>Aa (isG x_9.1.sg (xh x_9) (1:Int) x_9.2.2.2.2.2) (cA (HQ n) [srd x_9.1 (BE x_9.1.sg (xh x_9) x_9.2.2.2.2.2)] fun x_10 y=>∃(x_11:Int),y.1=x_11∧∃(zs_1:List Int),Ab [x_11]=Ab zs_1∧Bu Bw∧Ba (List.length (x_6::List.append._f [] PUnit.unit zs)+List.length zs_1) (8:Nat)∧cA Bn [srd x_10.1 (yG y.2),.int .i64 (16:Int),.str #[].toList,Ab (x_6::List.append._f [] PUnit.unit zs++zs_1)] fun x_12 y=>rA (Gq n) x [.int .i64 (AX (xh x_12)),srd x_12.1 (As (xh x_12) {kind:=x_12.2.2.2.2.2.1,text:=x_12.2.2.2.2.2.2.1,kids:=x_12.2.2.2.2.2.2.2,blank:=false})]) (cA Bn [srd x_9.1 (BE x_9.1.sg (xh x_9) x_9.2.2.2.2.2),.int .i64 (16:Int),.str #[].toList,Ab ([x_6]++zs)] fun x_10 y=>rA (Gq n) x [.int .i64 (AX (xh x_10)),srd x_10.1 (As (xh x_10) {kind:=x_10.2.2.2.2.2.1,text:=x_10.2.2.2.2.2.2.1,kids:=x_10.2.2.2.2.2.2.2,blank:=false})])) (cA EU [srd x_4.1 (BE x_4.1.sg (xh x_4) x_4.2.2.2.2.2),.str #[(119:UInt8),(104:UInt8),(105:UInt8),(108:UInt8),(101:UInt8)].toList] fun x_5 y=>Aa (isG x_5.1.sg (xh x_5) (1:Int) x_5.2.2.2.2.2) (cA Ly [srd x_5.1 (BE x_5.1.sg (xh x_5) x_5.2.2.2.2.2)] fun x_6 y=>∃(x_7:Int),y.1=x_7∧cA (HQ n) [srd x_6.1 (yG y.2)] fun x_8 y=>∃(x_9:Int),y.1=x_9∧∃(zs:List Int),Ab [x_9]=Ab zs∧Bu Bw∧Ba (List.length [x_7]+List.length zs) (8:Nat)∧cA Bn [srd x_8.1 (yG y.2),.int .i64 (17:Int),.str #[].toList,Ab ([x_7]++zs)] fun x_10 y=>rA (Gq n) x [.int .i64 (AX (xh x_10)),srd x_10.1 (As (xh x_10) {kind:=x_10.2.2.2.2.2.1,text:=x_10.2.2.2.2.2.2.1,kids:=x_10.2.2.2.2.2.2.2,blank:=false})]) (true=true∧true=true∧∃(x_6:ST×Int×Int×Bool×List Nd×Int),(rOk x_6.1 (xh x_6)∧x_6.2.2.2.2.2≠(0:Int))∧AV.pf [AV.sl false 0 4 Sg (fun(x:Sg)=>fzL._f [.int .i64 x.kind,.str x.text,.int .i64 x.pos,.bool x.blank] ⟨AV.rec (fun(k:IntKind) (n:Int)=>⟨fz._f (AV.int k n) PUnit.unit,PUnit.unit⟩) (fun(b:Bool)=>⟨fz._f (.bool b) PUnit.unit,PUnit.unit⟩) (fun(l:List UInt8)=>⟨fz._f (.str l) PUnit.unit,PUnit.unit⟩) (fun(v:Value)=>⟨fz._f (.val v) PUnit.unit,PUnit.unit⟩) ⟨fz._f AV.any PUnit.unit,PUnit.unit⟩ ⟨fz._f .top PUnit.unit,PUnit.unit⟩ ⟨fz._f .nil PUnit.unit,PUnit.unit⟩ (fun(id:Nat)=>⟨fz._f (AV.hole id) PUnit.unit,PUnit.unit⟩) (fun(id:Nat)=>⟨fz._f (AV.al id) PUnit.unit,PUnit.unit⟩) (fun(id k sz off:Nat)=>⟨fz._f (AV.po id k sz off) PUnit.unit,PUnit.unit⟩) (fun(fs:List AV) (fs_ih:List AV×' AV.below_1 fs)=>⟨fz._f (.agg fs) fs_ih,fs_ih⟩) (fun(vs:List AV) (vs_ih:List AV×' AV.below_1 vs)=>⟨fz._f (.tup vs) vs_ih,vs_ih⟩) (fun(id:Nat) (c:List AV) (c_ih:List AV×' AV.below_1 c)=>⟨fz._f (.box id c) c_ih,c_ih⟩) (fun(x:Value) (c:List AV) (c_ih:List AV×' AV.below_1 c)=>⟨fz._f (AV.bv x c) c_ih,c_ih⟩) (fun(x:Value)=>⟨fz._f (AV.hv x) PUnit.unit,PUnit.unit⟩) (fun(c:List AV) (c_ih:List AV×' AV.below_1 c)=>⟨fz._f (AV.pf c) c_ih,c_ih⟩) (fun(fn:Fn) (caps:List AV) (caps_ih:List AV×' AV.below_1 caps)=>⟨fz._f (AV.clo fn caps) caps_ih,caps_ih⟩) (fun(own:Bool) (id sz:Nat) (α:Type) (f:α→List AV) (xs:List α) (f_ih:(a:α)→List AV×' AV.below_1 (f a))=>⟨fz._f (AV.sl own id sz α f xs) f_ih,f_ih⟩) ⟨fzL._f [] PUnit.unit,PUnit.unit⟩ (fun(head:AV) (tail:List AV) (head_ih:AV×' AV.below head) (tail_ih:List AV×' AV.below_1 tail)=>⟨fzL._f (head::tail) ⟨head_ih,tail_ih⟩,head_ih,tail_ih⟩) (.int .i64 x.kind),AV.rec_1 (fun(k:IntKind) (n:Int)=>⟨fz._f (AV.int k n) PUnit.unit,PUnit.unit⟩) (fun(b:Bool)=>⟨fz._f (.bool b) PUnit.unit,PUnit.unit⟩) (fun(l:List UInt8)=>⟨fz._f (.str l) PUnit.unit,PUnit.unit⟩) (fun(v:Value)=>⟨fz._f (.val v) PUnit.unit,PUnit.unit⟩) ⟨fz._f AV.any PUnit.unit,PUnit.unit⟩ ⟨fz._f .top PUnit.unit,PUnit.unit⟩ ⟨fz._f .nil PUnit.unit,PUnit.unit⟩ (fun(id:Nat)=>⟨fz._f (AV.hole id) PUnit.unit,PUnit.unit⟩) (fun(id:Nat)=>⟨fz._f (AV.al id) PUnit.unit,PUnit.unit⟩) (fun(id k sz off:Nat)=>⟨fz._f (AV.po id k sz off) PUnit.unit,PUnit.unit⟩) (fun(fs:List AV) (fs_ih:List AV×' AV.below_1 fs)=>⟨fz._f (.agg fs) fs_ih,fs_ih⟩) (fun(vs:List AV) (vs_ih:List AV×' AV.below_1 vs)=>⟨fz._f (.tup vs) vs_ih,vs_ih⟩) (fun(id:Nat) (c:List AV) (c_ih:List AV×' AV.below_1 c)=>⟨fz._f (.box id c) c_ih,c_ih⟩) (fun(x:Value) (c:List AV) (c_ih:List AV×' AV.below_1 c)=>⟨fz._f (AV.bv x c) c_ih,c_ih⟩) (fun(x:Value)=>⟨fz._f (AV.hv x) PUnit.unit,PUnit.unit⟩) (fun(c:List AV) (c_ih:List AV×' AV.below_1 c)=>⟨fz._f (AV.pf c) c_ih,c_ih⟩) (fun(fn:Fn) (caps:List AV) (caps_ih:List AV×' AV.below_1 caps)=>⟨fz._f (AV.clo fn caps) caps_ih,caps_ih⟩) (fun(own:Bool) (id sz:Nat) (α:Type) (f:α→List AV) (xs:List α) (f_ih:(a:α)→List AV×' AV.below_1 (f a))=>⟨fz._f (AV.sl own id sz α f xs) f_ih,f_ih⟩) ⟨fzL._f [] PUnit.unit,PUnit.unit⟩ (fun(head:AV) (tail:List AV) (head_ih:AV×' AV.below head) (tail_ih:List AV×' AV.below_1 tail)=>⟨fzL._f (head::tail) ⟨head_ih,tail_ih⟩,head_ih,tail_ih⟩) [.str x.text,.int .i64 x.pos,.bool x.blank]⟩) x_5.1.sg,.int .i64 (BE x_5.1.sg (xh x_5) x_5.2.2.2.2.2).pos,.bool (BE x_5.1.sg (xh x_5) x_5.2.2.2.2.2).bad,.int .i64 (BE x_5.1.sg (xh x_5) x_5.2.2.2.2.2).deep,AV.sl false 0 4 Nd (fun(x:Nd)=>fzL._f [.int .i64 x.kind,.str x.text,Ab x.kids,.bool x.blank] ⟨AV.rec (fun(k:IntKind) (n:Int)=>⟨fz._f (AV.int k n) PUnit.unit,PUnit.unit⟩) (fun(b:Bool)=>⟨fz._f (.bool b) PUnit.unit,PUnit.unit⟩) (fun(l:List UInt8)=>⟨fz._f (.str l) PUnit.unit,PUnit.unit⟩) (fun(v:Value)=>⟨fz._f (.val v) PUnit.unit,PUnit.unit⟩) ⟨fz._f AV.any PUnit.unit,PUnit.unit⟩ ⟨fz._f .top PUnit.unit,PUnit.unit⟩ ⟨fz._f .nil PUnit.unit,PUnit.unit⟩ (fun(id:Nat)=>⟨fz._f (AV.hole id) PUnit.unit,PUnit.unit⟩) (fun(id:Nat)=>⟨fz._f (AV.al id) PUnit.unit,PUnit.unit⟩) (fun(id k sz off:Nat)=>⟨fz._f (AV.po id k sz off) PUnit.unit,PUnit.unit⟩) (fun(fs:List AV) (fs_ih:List AV×' AV.below_1 fs)=>⟨fz._f (.agg fs) fs_ih,fs_ih⟩) (fun(vs:List AV) (vs_ih:List AV×' AV.below_1 vs)=>⟨fz._f (.tup vs) vs_ih,vs_ih⟩) (fun(id:Nat) (c:List AV) (c_ih:List AV×' AV.below_1 c)=>⟨fz._f (.box id c) c_ih,c_ih⟩) (fun(x:Value) (c:List AV) (c_ih:List AV×' AV.below_1 c)=>⟨fz._f (AV.bv x c) c_ih,c_ih⟩) (fun(x:Value)=>⟨fz._f (AV.hv x) PUnit.unit,PUnit.unit⟩) (fun(c:List AV) (c_ih:List AV×' AV.below_1 c)=>⟨fz._f (AV.pf c) c_ih,c_ih⟩) (fun(fn:Fn) (caps:List AV) (caps_ih:List AV×' AV.below_1 caps)=>⟨fz._f (AV.clo fn caps) caps_ih,caps_ih⟩) (fun(own:Bool) (id sz:Nat) (α:Type) (f:α→List AV) (xs:List α) (f_ih:(a:α)→List AV×' AV.below_1 (f a))=>⟨fz._f (AV.sl own id sz α f xs) f_ih,f_ih⟩) ⟨fzL._f [] PUnit.unit,PUnit.unit⟩ (fun(head:AV) (tail:List AV) (head_ih:AV×' AV.below head) (tail_ih:List AV×' AV.below_1 tail)=>⟨fzL._f (head::tail) ⟨head_ih,tail_ih⟩,head_ih,tail_ih⟩) (.int .i64 x.kind),AV.rec_1 (fun(k:IntKind) (n:Int)=>⟨fz._f (AV.int k n) PUnit.unit,PUnit.unit⟩) (fun(b:Bool)=>⟨fz._f (.bool b) PUnit.unit,PUnit.unit⟩) (fun(l:List UInt8)=>⟨fz._f (.str l) PUnit.unit,PUnit.unit⟩) (fun(v:Value)=>⟨fz._f (.val v) PUnit.unit,PUnit.unit⟩) ⟨fz._f AV.any PUnit.unit,PUnit.unit⟩ ⟨fz._f .top PUnit.unit,PUnit.unit⟩ ⟨fz._f .nil PUnit.unit,PUnit.unit⟩ (fun(id:Nat)=>⟨fz._f (AV.hole id) PUnit.unit,PUnit.unit⟩) (fun(id:Nat)=>⟨fz._f (AV.al id) PUnit.unit,PUnit.unit⟩) (fun(id k sz off:Nat)=>⟨fz._f (AV.po id k sz off) PUnit.unit,PUnit.unit⟩) (fun(fs:List AV) (fs_ih:List AV×' AV.below_1 fs)=>⟨fz._f (.agg fs) fs_ih,fs_ih⟩) (fun(vs:List AV) (vs_ih:List AV×' AV.below_1 vs)=>⟨fz._f (.tup vs) vs_ih,vs_ih⟩) (fun(id:Nat) (c:List AV) (c_ih:List AV×' AV.below_1 c)=>⟨fz._f (.box id c) c_ih,c_ih⟩) (fun(x:Value) (c:List AV) (c_ih:List AV×' AV.below_1 c)=>⟨fz._f (AV.bv x c) c_ih,c_ih⟩) (fun(x:Value)=>⟨fz._f (AV.hv x) PUnit.unit,PUnit.unit⟩) (fun(c:List AV) (c_ih:List AV×' AV.below_1 c)=>⟨fz._f (AV.pf c) c_ih,c_ih⟩) (fun(fn:Fn) (caps:List AV) (caps_ih:List AV×' AV.below_1 caps)=>⟨fz._f (AV.clo fn caps) caps_ih,caps_ih⟩) (fun(own:Bool) (id sz:Nat) (α:Type) (f:α→List AV) (xs:List α) (f_ih:(a:α)→List AV×' AV.below_1 (f a))=>⟨fz._f (AV.sl own id sz α f xs) f_ih,f_ih⟩) ⟨fzL._f [] PUnit.unit,PUnit.unit⟩ (fun(head:AV) (tail:List AV) (head_ih:AV×' AV.below head) (tail_ih:List AV×' AV.below_1 tail)=>⟨fzL._f (head::tail) ⟨head_ih,tail_ih⟩,head_ih,tail_ih⟩) [.str x.text,Ab x.kids,.bool x.blank]⟩) (BE x_5.1.sg (xh x_5) x_5.2.2.2.2.2).nodes]=AV.pf [sgs x_6.1.sg,.int .i64 (xh x_6).pos,.bool (xh x_6).bad,.int .i64 (xh x_6).deep,nds (xh x_6).nodes]∧(1:Int)=x_6.2.2.2.2.2∧∃(y0:Unit),(∀(y:Unit),True→AV.bool (kdG x_6.1.sg (xh x_6) x_6.2.2.2.2.2)=AV.bool (kdG x_6.1.sg (xh x_6) x_6.2.2.2.2.2))∧true=true∧Aa (kdG x_6.1.sg (xh x_6) x_6.2.2.2.2.2) (inR IntKind.i64 ((BE x_5.1.sg (xh x_5) x_5.2.2.2.2.2).pos+(1:Int))∧Aa (decide ((BE x_5.1.sg (xh x_5) x_5.2.2.2.2.2).pos+(1:Int)<(↑(List.length x_5.1.sg):Int))) (inR IntKind.i64 ((BE x_5.1.sg (xh x_5) x_5.2.2.2.2.2).pos+(1:Int))∧((0:Int)≤(BE x_5.1.sg (xh x_5) x_5.2.2.2.2.2).pos+(1:Int)∧(BE x_5.1.sg (xh x_5) x_5.2.2.2.2.2).pos+(1:Int)<(↑(List.length x_5.1.sg):Int))∧∀(e:Sg),x_5.1.sg[Int.toNat ((BE x_5.1.sg (xh x_5) x_5.2.2.2.2.2).pos+(1:Int))]? =some e→Aa (e.kind==(4:Int)) (inR IntKind.i64 ((BE x_5.1.sg (xh x_5) x_5.2.2.2.2.2).pos+(1:Int))∧((0:Int)≤(BE x_5.1.sg (xh x_5) x_5.2.2.2.2.2).pos+(1:Int)∧(BE x_5.1.sg (xh x_5) x_5.2.2.2.2.2).pos+(1:Int)<(↑(List.length x_5.1.sg):Int))∧∀(e:Sg),x_5.1.sg[Int.toNat ((BE x_5.1.sg (xh x_5) x_5.2.2.2.2.2).pos+(1:Int))]? =some e→Aa (e.text== #[(61:UInt8)].toList) (cA CC [srd x_5.1 (BE x_5.1.sg (xh x_5) x_5.2.2.2.2.2),.int .i64 (1:Int)] fun x_7 y=>cA BP [srd x_7.1 (Bg x_7.1.sg (xh x_7) x_7.2.2.2.2.2),.str #[(61:UInt8)].toList] fun x_8 y=>cA FT [srd x_8.1 (Av x_8.1.sg (xh x_8) x_8.2.2.2.2.2)] fun x_9 y=>cA BP [srd x_9.1 (yG y.2),.str #[(59:UInt8)].toList] fun x_10 y_1=>∃(x_11:Int),y.1=x_11∧cA Bn [srd x_10.1 (Av x_10.1.sg (xh x_10) x_10.2.2.2.2.2),.int .i64 (13:Int),.str (BA x_7.1.sg (xh x_7) x_7.2.2.2.2.2),Ab [x_11]] fun x_12 y=>rA (Gq n) x [.int .i64 (AX (xh x_12)),srd x_12.1 (As (xh x_12) {kind:=x_12.2.2.2.2.2.1,text:=x_12.2.2.2.2.2.2.1,kids:=x_12.2.2.2.2.2.2.2,blank:=false})]) (cA FT [srd x_5.1 (BE x_5.1.sg (xh x_5) x_5.2.2.2.2.2)] fun x_7 y=>cA BP [srd x_7.1 (yG y.2),.str #[(59:UInt8)].toList] fun x_8 y_1=>∃(x_9:Int),y.1=x_9∧cA Bn [srd x_8.1 (Av x_8.1.sg (xh x_8) x_8.2.2.2.2.2),.int .i64 (14:Int),.str #[].toList,Ab [x_9]] fun x_10 y=>rA (Gq n) x [.int .i64 (AX (xh x_10)),srd x_10.1 (As (xh x_10) {kind:=x_10.2.2.2.2.2.1,text:=x_10.2.2.2.2.2.2.1,kids:=x_10.2.2.2.2.2.2.2,blank:=false})])) (cA FT [srd x_5.1 (BE x_5.1.sg (xh x_5) x_5.2.2.2.2.2)] fun x_7 y=>cA BP [srd x_7.1 (yG y.2),.str #[(59:UInt8)].toList] fun x_8 y_1=>∃(x_9:Int),y.1=x_9∧cA Bn [srd x_8.1 (Av x_8.1.sg (xh x_8) x_8.2.2.2.2.2),.int .i64 (14:Int),.str #[].toList,Ab [x_9]] fun x_10 y=>rA (Gq n) x [.int .i64 (AX (xh x_10)),srd x_10.1 (As (xh x_10) {kind:=x_10.2.2.2.2.2.1,text:=x_10.2.2.2.2.2.2.1,kids:=x_10.2.2.2.2.2.2.2,blank:=false})])) (cA FT [srd x_5.1 (BE x_5.1.sg (xh x_5) x_5.2.2.2.2.2)] fun x_7 y=>cA BP [srd x_7.1 (yG y.2),.str #[(59:UInt8)].toList] fun x_8 y_1=>∃(x_9:Int),y.1=x_9∧cA Bn [srd x_8.1 (Av x_8.1.sg (xh x_8) x_8.2.2.2.2.2),.int .i64 (14:Int),.str #[].toList,Ab [x_9]] fun x_10 y=>rA (Gq n) x [.int .i64 (AX (xh x_10)),srd x_10.1 (As (xh x_10) {kind:=x_10.2.2.2.2.2.1,text:=x_10.2.2.2.2.2.2.1,kids:=x_10.2.2.2.2.2.2.2,blank:=false})])) (cA FT [srd x_5.1 (BE x_5.1.sg (xh x_5) x_5.2.2.2.2.2)] fun x_7 y=>cA BP [srd x_7.1 (yG y.2),.str #[(59:UInt8)].toList] fun x_8 y_1=>∃(x_9:Int),y.1=x_9∧cA Bn [srd x_8.1 (Av x_8.1.sg (xh x_8) x_8.2.2.2.2.2),.int .i64 (14:Int),.str #[].toList,Ab [x_9]] fun x_10 y=>rA (Gq n) x [.int .i64 (AX (xh x_10)),srd x_10.1 (As (xh x_10) {kind:=x_10.2.2.2.2.2.1,text:=x_10.2.2.2.2.2.2.1,kids:=x_10.2.2.2.2.2.2.2,blank:=false})]))))))) (fun x=>by kernel_rfl) fun(x:ST×Int×Int×Bool×List Nd) (hx:(okQ x.1 (xg x)∧(xg x).bad=false)∧21-(xg x).deep≤(n+1:Nat))=>(by
 dsimp only[cA,Bx,nds,Ab,Bd,rA,HQ,Ly,DU,IE,Bn,Gq,CC,FT,GP,BP,EU,Bv,sgs,srd,srf,Aw,AR,mvL,lnL,mvE,lnE]
 obtain⟨s,p,d,b,ns⟩:=x;dsimp only[xg,xh] at hx ⊢
 obtain⟨⟨hx,hb⟩,hd⟩:=hx
 have hx:okQ s ⟨p,d,b,ns⟩:=hx
 have hD:=EA hx;have hM:=Nm hx;have h1:=hD.1
 (repeat' first|(show AV.pf _=AV.pf _;first|exact a2g|(with_unfolding_all exact a2g)|(with_unfolding_all rfl))|(with_reducible first|rfl|exact True.intro|apply AM|apply And.intro|((first|apply AC|apply AK|apply AD|apply AL)<;>intro _))|(apply AB<;>intro _)|apply AJ|refine Ag () ?_ ?_|((first|apply AQ|apply AP|apply AO|apply AN|apply AI|apply AH|apply AG|apply AF|apply AE)<;>try dsimp only)|apply Ag|(refine Prod.forall.2 ?_;intro _;try dsimp only)|(intro _;try dsimp only))
 all_goals(try dsimp only[xg,xh,yG,yS,iG,iF] at*)
 all_goals(try simp only[Gk] at*)
 all_goals(try(have e:=Jm (show isG s.sg ⟨p,d,b,ns⟩ 1 [118,97,114]=false by assumption);simp only[e] at*))
 all_goals(try(have e:=Jn (show isG s.sg ⟨p,d,b,ns⟩ 1 [118,97,114]=true by assumption);simp only[e] at*))
 all_goals(try(have e:=Jm (show isG s.sg ⟨p,d,b,ns⟩ 1 [114,101,116,117,114,110]=false by assumption);simp only[e] at*))
 all_goals(try(have e:=Jn (show isG s.sg ⟨p,d,b,ns⟩ 1 [114,101,116,117,114,110]=true by assumption);simp only[e] at*))
 all_goals(try(have e:=Jm (show isG s.sg ⟨p,d,b,ns⟩ 1 [105,102]=false by assumption);simp only[e] at*))
 all_goals(try(have e:=Jn (show isG s.sg ⟨p,d,b,ns⟩ 1 [105,102]=true by assumption);simp only[e] at*))
 all_goals(try(have e:=Jm (show isG s.sg ⟨p,d,b,ns⟩ 1 [119,104,105,108,101]=false by assumption);simp only[e] at*))
 all_goals(try(have e:=Jn (show isG s.sg ⟨p,d,b,ns⟩ 1 [119,104,105,108,101]=true by assumption);simp only[e] at*))
 all_goals first
  |rfl
  |exact h1
  |exact hM
  |omega
  |(simp;done)
  |exact b2V hx ‹_›
  |exact Hn h1 (by omega)
  |exact Gp hx ‹_›
  |exact EA (Gp hx ‹_›)
  |exact(EA (Gp hx ‹_›)).1
  |exact b2W hx ‹_› ‹_› ‹_›
  |exact b2Y hx ‹_› ‹_› ‹_› ‹_› ‹_›
  |exact b2X hx ‹_› ‹_› ‹_› ‹_›
  |exact Fi h1 ‹_›
  |exact(GL (Fi h1 ‹_›)).1
  |exact(GL (EA (Gp hx ‹_›)).1).1
  |exact b3j hx ‹_› ‹_› ‹_› ‹_› ‹_› (b3i (x:=⟨p,d,b,ns⟩) hb ‹_› ‹_› (b3c ‹_› ‹_›) (b3e ‹_› ‹_›)) ‹_›
  |exact RN hx ‹_› ‹_› ‹_› ‹_› ‹_› (b3g ‹_›) ‹_›
  |exact RN hx ‹_› ‹_› ‹_› ‹_› ‹_› (b3h (x:=⟨p,d,b,ns⟩) ‹_›) ‹_›
  |exact RN hx ‹_› ‹_› ‹_› ‹_› ‹_› (a2b (x:=⟨p,d,b,ns⟩) hb ‹_› (.inl (b3d ‹_› ‹_›))) ‹_›
  |exact RN hx ‹_› ‹_› ‹_› ‹_› ‹_› (a2b (x:=⟨p,d,b,ns⟩) hb ‹_› (.inr (b3f ‹_› ‹_›))) ‹_›
  |(have hq:=GH h1;dsimp only at hq;(try simp only[AS]);omega)
  |exact(a2c hx).1
  |exact EA (a2c hx).2
  |exact hD
  |(simp [Ba];done)
  |exact(show Ba 2 8 by simp [Ba])
  |exact(show Ba 3 8 by simp [Ba])
  |skip
 all_goals(try(have hc:=(show BG s.sg (Au ⟨p,d,b,ns⟩) (Db s.sg) _ by assumption);have k0:=Gp hx (show isG s.sg ⟨p,d,b,ns⟩ 1 _=true by assumption);have k1:=b3k k0 hc;have k2:=b3l (n:=n) (x:=⟨p,d,b,ns⟩) hd hc))
 all_goals first
  |exact k1
  |exact k2
  |exact(EA (Nn k1 ‹_›)).1
  |exact a2e (EA (Nn k1 ‹_›)).1
  |exact Gp (Nn k1 ‹_›) ‹_›
  |exact a2f (Nn k1 ‹_›)
  |(have hh:=b3m (m:=[101,108,115,101]) k2 (show Ah s.sg _ (BC s.sg _) _ by assumption);exact hh)
  |exact Fi h1 ‹_›
  |exact b2Z hx ‹_› ‹_› ‹_› ‹_› ‹_› ‹_› ‹_›
  |exact b3a hx ‹_› ‹_› ‹_› ‹_› ‹_› ‹_› ‹_› ‹_›
  |exact b3b hx ‹_› ‹_› ‹_› ‹_› ‹_› ‹_› ‹_›
  |exact(EA (Nn (a2f (Nn k1 ‹_›)) ‹_›)).1
  |exact h1
  |skip)
end Go.My
end
section
namespace Go.My
open Go.Eng Go.Proofs
variable {G:GInv}
theorem b3q(n:Nat):Am G Go.Proofs.Tryz.prog 79 (Jo n):=by
 induction n with
 |zero=>exact Lq Tryz.func79 rfl (by decide) (fun x h=>by have h1:=h.1.1.1.2;have h2:=h.2;omega)
 |succ n ih=>exact b3p n ih
def Lz:Sig:= {X:=ST×Int×Int×Bool×List Nd,args:=fun x=>[srd x.1 (xg x)],pre:=fun x=>okQ x.1 (xg x),Y:=Int×Int×Int×Bool×List Nd,post:=fun x y=>Ah x.1.sg (xg x) (EN x.1.sg) (yS y),res:=fun x y=> .int .i64 y.1,outs:=fun x y=>[srd x.1 (yG y.2)],keep:=true}
theorem a2i{s:ST}{g:Gs}(h:okQ s g):okQ s g∧20-g.deep≤(stN:Int):=by
 have h1:=h.1.1.2.2.1.1
 exact⟨h,by unfold stN;omega⟩
theorem a2j:Am G Go.Proofs.Tryz.prog 47 Lz:=
 have c:=a2h (G:=G) stN (b3q stN)
 ⟨⟨c.1.1,fun x y hx hy=>c.1.2 x y (a2i hx) hy⟩,fun x hx=>c.2 x (a2i hx)⟩
theorem a2k{s:ST}{x:Gs}{v:List Int×Gs}(h:okQ s x)(hv:vlQ s.sg (BN s.sg) [41] [] (Av s.sg (Bg s.sg x 1) [40]) v):okQ s v.2:=by
 have a:=GL (m:=[40]) (Hn (k:=1) h.1.1 (by omega))
 have e:(Bg s.sg x 1).deep=x.deep:=by unfold Bg;split<;>rfl
 obtain⟨b1,b2,b3,b4⟩:=VC h.1.1.1 hv
 exact⟨⟨b1,by have:=h.1.2;omega⟩,h.2⟩
theorem a2l{s:ST}{x:Gs}{v:List Int×Gs}{q:Int×Gs}(h:okQ s x)(hv:vlQ s.sg (BN s.sg) [41] [] (Av s.sg (Bg s.sg x 1) [40]) v)(hq:Ah s.sg v.2 (EN s.sg) q):
 Ah s.sg x (Ef s.sg false) (AX q.2,As q.2 ⟨20,BA s.sg x 1,v.1++[q.1],false⟩):=by
 rw[HN.1] at hv;rw[HN.2]
 obtain⟨l,⟨a,b⟩,rfl⟩:=hv
 exact b0o (l:=l) h.1.1.1 h.1.1.2 a b hq
def clS(sg:List Sg)(x y:Gs)(ks:List Int)(N:Nat):Prop:=Kd sg (CJ sg) [125] (Av sg (Bg sg (Au x) 1) [123]) y ks N∧y.deep=x.deep
theorem a2m{s:ST}{x:Gs}(h:okQ s (Au x)):clS s.sg x (Av s.sg (Bg s.sg (Au x) 1) [123]) [] (s.sg.length+1):=by
 have a:=Hn (k:=1) h.1.1 (by omega)
 refine⟨a0R (GL a).1.2,?_⟩
 rw[(GL a).2];unfold Bg;split<;>rfl
theorem b3r{s:ST}{x:Gs}(h:okQ s x)(h1:isG s.sg x 1 [118,97,114]=false)(h2:isG s.sg (BE s.sg x [118,97,114]) 1 [99,108,97,115,115]=true):
 clS s.sg x (Av s.sg (Bg s.sg (BE s.sg (BE s.sg x [118,97,114]) [99,108,97,115,115]) 1) [123]) [] (s.sg.length+1):=by
 rw[Jm h1] at h2 ⊢
 rw[Jn h2];exact a2m (Gp h h2)
theorem b3s{s:ST}{x:Gs}(h:okQ s (Au x)):rOk s (Bg s.sg (Au x) 1)∧rOk s (Av s.sg (Bg s.sg (Au x) 1) [123]):=
 have a:=Hn (k:=1) h.1.1 (by omega)
 ⟨a,(GL a).1⟩
theorem Wc{s:ST}{x y:Gs}{ks:List Int}{N:Nat}(h:okQ s (Au x))(hj:clS s.sg x y ks N):okQ s y:=⟨⟨⟨h.1.1.1,hj.1.1.1⟩,by have:=hj.2;have:=h.1.2;simp only[Au] at*;omega⟩,h.2⟩
theorem a2n{s:ST}{x y:Gs}{ks:List Int}{N:Nat}(h:okQ s (Au x))(hj:clS s.sg x y ks N)(hb:y.bad=false)(hq:isG s.sg y 4 [125]=false):okQ s (Ax s.sg y [125])∧(Ax s.sg y [125]).bad=false:=by
 rw[Dw hq];exact⟨Wc h hj,hb⟩
theorem Wd{s:ST}{x y:Gs}{ks:List Int}{N:Nat}(h:okQ s (Au x))(hj:clS s.sg x y ks N):ks.length≤3001:=by
 have:=hj.1.2.2.1;have:=hj.1.1.1.1;have:=h.1.1.1.1;omega
theorem Kj{s:ST}{x y:Gs}{ks:List Int}{N:Nat}{b:Bool}{z:Int×Gs}(hj:clS s.sg x y ks N)(hb:y.bad=false)(hq:isG s.sg y 4 [125]=false)(hz:Ah s.sg (Ax s.sg y [125]) (CJ s.sg false) z)(e:b=(blG s.sg (Ax s.sg y [125])&&decide (0<(ks.length:Int)))):
 clS s.sg x (gBl z.2 z.1 b) (ks++[z.1]) (N-1)∧N-1<N:=by
 rw[Dw hq] at hz e
 rw[VW hb] at e
 have hz2:Ah s.sg y (CJ s.sg b) (z.1,gBl z.2 z.1 b):=VV VT hz
 subst e
 obtain⟨a,b⟩:=Na (a0V hj.1 hb hq (z:=(z.1,gBl z.2 z.1 ((pkG s.sg y 0).blank&&decide (0<(ks.length:Int))))) (by
  have:decide (0<ks.length)=decide (0<(ks.length:Int)):=by simp
  rw[this];exact hz2))
 have:=(CS hz2).1
 exact⟨⟨a,by have:=hj.2;simp only at*;omega⟩,b⟩
theorem a2o{s:ST}{x:Gs}{l:List Int×Gs}(h:okQ s (Au x))(hl:BG s.sg (Av s.sg (Bg s.sg (Au x) 1) [123]) (Cz s.sg (CJ s.sg) [125] (s.sg.length+1) []) l)(hll:l.1.length≤3001):
 Ah s.sg (Au x) (Gh s.sg false) (AX (Av s.sg l.2 [125]),As (Av s.sg l.2 [125]) ⟨21,BA s.sg (Au x) 1,l.1,false⟩):=by
 rw[HN.1] at hl;rw[HN.2]
 exact HM hl.1 (ET (Jg h.1.1.1) (by omega)) (b0p h.1.1.1 h.1.1.2 hl hll)
theorem b3t{s:ST}{x y:Gs}{ks:List Int}{N:Nat}(h:okQ s (Au x))(hj:clS s.sg x y ks N)(hq:isG s.sg y 4 [125]=true):
 Ah s.sg (Au x) (Gh s.sg false) (AX (Ax s.sg y [125]),As (Ax s.sg y [125]) ⟨21,BA s.sg (Au x) 1,ks,false⟩):=by
 rw[Ez hq,←Jj hq];exact a2o (l:=(ks,y)) h (a0U hj.1 hq) (Wd h hj)
theorem b3u{s:ST}{x y:Gs}{ks:List Int}{N:Nat}(h:okQ s (Au x))(hj:clS s.sg x y ks N)(hb:y.bad=true):
 Ah s.sg (Au x) (Gh s.sg false) (AX y,As y ⟨21,BA s.sg (Au x) 1,ks,false⟩):=by
 have a:=a2o (l:=(ks,y)) h (a0S hj.1 hb) (Wd h hj)
 simp only[Rx hb] at a;exact a
theorem b3v{s:ST}{x:Gs}(h:okQ s x)(hk:kdG s.sg x 5=true):Ah s.sg x (CJ s.sg false) (AX (Bg s.sg x 5),As (Bg s.sg x 5) ⟨19,BA s.sg x 5,[],false⟩):=by
 have hn:=hk
 rw[Pb (by omega)] at hn
 exact Ni h.1.1.1 h.1.1.2 (by omega) hk (b0q h.1.1.1 h.1.1.2 (by simpa using hn))
theorem b3w{s:ST}{x:Gs}(h:okQ s x)(hk:kdG s.sg x 5=true):Ah s.sg x (CN s.sg false) (AX (Bg s.sg x 5),As (Bg s.sg x 5) ⟨19,BA s.sg x 5,[],false⟩):=by
 have hn:=hk
 rw[Pb (by omega)] at hn
 exact Ni h.1.1.1 h.1.1.2 (by omega) hk (b0t h.1.1.1 h.1.1.2 (by simpa using hn))
theorem b3x{s:ST}{x:Gs}{z:Int×Gs}(h:okQ s x)(hk:kdG s.sg x 5=false)(hq:isG s.sg x 1 [118,97,114]=true)(hz:Ah s.sg (Au x) (CW s.sg false) z):Ah s.sg x (CJ s.sg false) z:=b0r h.1.1.2 (GN hk) hq hz
theorem b3y{s:ST}{x:Gs}{z:Int×Gs}(h:okQ s x)(hk:kdG s.sg x 5=false)(hq:isG s.sg x 1 [118,97,114]=true)(hz:Ah s.sg (Au x) (CW s.sg false) z):Ah s.sg x (CN s.sg false) z:=b0u h.1.1.2 (GN hk) hq hz
theorem b3z{s:ST}{x:Gs}{z:Int×Gs}(h:okQ s x)(hk:kdG s.sg x 5=false)(hq:isG s.sg x 1 [118,97,114]=false)(hz:Ah s.sg x (Ef s.sg false) z):Ah s.sg x (CJ s.sg false) z:=b0s h.1.1.2 (GN hk) hq hz
theorem b3A{s:ST}{x:Gs}{z:Int×Gs}(h:okQ s x)(hk:kdG s.sg x 5=false)(h1:isG s.sg x 1 [118,97,114]=false)(hq:isG s.sg x 1 [99,108,97,115,115]=false)(hz:Ah s.sg x (Ef s.sg false) z):Ah s.sg x (CN s.sg false) z:=b0w h.1.1.2 (GN hk) h1 hq hz
theorem a2p{s:ST}{x:Gs}{z:Int×Gs}(h:okQ s x)(hk:kdG s.sg x 5=false)(h1:isG s.sg x 1 [118,97,114]=false)(hq:isG s.sg x 1 [99,108,97,115,115]=true)(hz:Ah s.sg (Au x) (Gh s.sg false) z):Ah s.sg x (CN s.sg false) z:=b0v h.1.1.2 (GN hk) h1 hq hz
def a2q:Sig:= {X:=ST×Int×Int×Bool×List Nd,args:=fun x=>[srd x.1 (xg x),.bool false],pre:=fun x=>False,Y:=Int×Int×Int×Bool×List Nd,post:=fun x y=>True,res:=fun x y=> .int .i64 y.1,outs:=fun x y=>[srd x.1 (yG y.2),.top],keep:=true}
theorem b3B:Am G Go.Proofs.Tryz.prog 23 a2q:=Lq Tryz.func23 rfl (by decide) (fun x h=>h)
attribute [local irreducible] pE Bs Cy fnR Ah BG gsOk Av CK As Di Ev Ax DS Eh AX CL pkG isG nmG kdG Bg BA BN vlQ BE gBl blG CW GK Db Cg BC stR Cz okQ sgM clS CJ CN Ef Gh EN
def Jp:Sig:= {X:=ST×Int×Int×Bool×List Nd,args:=fun x=>[srd x.1 (xg x),.bool false],pre:=fun x=>okQ x.1 (xg x)∧(xg x).bad=false,Y:=Int×Int×Int×Bool×List Nd,post:=fun x y=>Ah x.1.sg (xg x) (CJ x.1.sg false) (yS y),res:=fun x y=> .int .i64 y.1,outs:=fun x y=>[srd x.1 (yG y.2),.top],keep:=true}
def b3C(x:ST×Int×Int×Bool×List Nd):LS:= {ι:=Int×Int×Bool×List Nd×List Int×Nat,inv:=fun i=>False,regs:=fun i=>[(0,srd x.1 (iG i)),(5,.str (BA x.1.sg (Au (xg x)) 1)),(6,Ab i.2.2.2.2.1)],als:=[],meas:=fun i=>i.2.2.2.2.2}
theorem b3D:Am G Tryz.prog 23 Jp:=
 vcFun_okP [(40,0,DV),(41,0,CC),(25,0,Bn),(42,0,EU),(43,0,GP),(44,0,BP),(45,0,Cd),(22,0,FS),(23,0,a2q),(24,0,Ei),(46,0,Gn),(47,0,Lz)] [(47,⟨Int,Bw⟩)] false (fun x=>[(9,b3C x)]) Tryz.func23 rfl (by decide) ⟨Rt,Kg,Hm,Vu,Wb,HL,Hl,Ru,b3B,Rv,VG,a2j,trivial⟩ (fun(x:ST×Int×Int×Bool×List Nd)=>True∧cA DV [srd x.1 (xg x),.int .i64 (5:Int)] fun x_1 y=>Aa (kdG x_1.1.sg (xh x_1) x_1.2.2.2.2.2) (cA CC [srd x_1.1 (xh x_1),.int .i64 (5:Int)] fun x_2 y=>cA Bn [srd x_2.1 (Bg x_2.1.sg (xh x_2) x_2.2.2.2.2.2),.int .i64 (19:Int),.str (BA x_2.1.sg (xh x_2) x_2.2.2.2.2.2),Ab []] fun x_3 y=>rA Jp x [.int .i64 (AX (xh x_3)),srd x_3.1 (As (xh x_3) {kind:=x_3.2.2.2.2.2.1,text:=x_3.2.2.2.2.2.2.1,kids:=x_3.2.2.2.2.2.2.2,blank:=false}),.top]) (cA EU [srd x_1.1 (xh x_1),.str #[(118:UInt8),(97:UInt8),(114:UInt8)].toList] fun x_2 y=>Aa (isG x_2.1.sg (xh x_2) (1:Int) x_2.2.2.2.2.2) (cA GP [srd x_2.1 (BE x_2.1.sg (xh x_2) x_2.2.2.2.2.2)] fun x_3 y=>rA Jp x [.int .i64 y.1,srd x_3.1 (yG y.2),.top]) (cA CC [srd x_2.1 (BE x_2.1.sg (xh x_2) x_2.2.2.2.2.2),.int .i64 (1:Int)] fun x_3 y=>cA Gn [srd x_3.1 (Bg x_3.1.sg (xh x_3) x_3.2.2.2.2.2)] fun x_4 y=>cA Lz [srd x_4.1 (yG y.2)] fun x_5 y_1=>∃(x_6:Int),y_1.1=x_6∧∃(zs:List Int),Ab [x_6]=Ab zs∧Bu Bw∧Ba (List.length y.1+List.length zs) (8:Nat)∧cA Bn [srd x_5.1 (yG y_1.2),.int .i64 (20:Int),.str (BA x_3.1.sg (xh x_3) x_3.2.2.2.2.2),Ab (y.1++zs)] fun x_7 y=>rA Jp x [.int .i64 (AX (xh x_7)),srd x_7.1 (As (xh x_7) {kind:=x_7.2.2.2.2.2.1,text:=x_7.2.2.2.2.2.2.1,kids:=x_7.2.2.2.2.2.2.2,blank:=false}),.top]))) (fun x=>by kernel_rfl) fun(x:ST×Int×Int×Bool×List Nd) (hx:okQ x.1 (xg x)∧(xg x).bad=false)=>(by
 dsimp only[cA,Bx,Ab,Bd,rA,Lz,DV,Jp,Gn,Bn,CC,GP,EU,Bv,sgs,srd,Aw,AR,mvL,lnL,mvE,lnE]
 obtain⟨s,p,d,b,ns⟩:=x;dsimp only[xg,xh] at hx ⊢
 obtain⟨hx,hb⟩:=hx
 have hx:okQ s ⟨p,d,b,ns⟩:=hx
 have hD:=EA hx;have hM:=Nm hx;have h1:=hD.1;have hs:=h1.1
 (repeat' first|(with_reducible first|rfl|exact True.intro|apply AM|apply And.intro|((first|apply AC|apply AK|apply AD|apply AL)<;>intro _))|(apply AB<;>intro _)|apply AJ|refine Ag () ?_ ?_|((first|apply AQ|apply AP|apply AO|apply AN|apply AI|apply AH|apply AG|apply AF|apply AE)<;>try dsimp only)|apply Ag|(refine Prod.forall.2 ?_;intro _;try dsimp only)|(intro _;try dsimp only))
 all_goals(try dsimp only[xg,xh,yG,yS,iG,iF] at*)
 all_goals(try simp only[Gk] at*)
 all_goals(try(have e:=Jm (show isG s.sg ⟨p,d,b,ns⟩ 1 [118,97,114]=false by assumption);simp only[e] at*))
 all_goals(try(have e:=Jn (show isG s.sg ⟨p,d,b,ns⟩ 1 [118,97,114]=true by assumption);simp only[e] at*))
 all_goals first
  |rfl
  |exact h1
  |omega
  |contradiction
  |exact b3v hx ‹_›
  |exact Hn h1 (by omega)
  |exact Gp hx ‹_›
  |exact b3x hx ‹_› ‹_› ‹_›
  |exact a2k hx ‹_›
  |exact Fi h1 ‹_›
  |exact b3z hx ‹_› ‹_› (a2l hx ‹_› ‹_›)
  |(have hq:=VJ hs (show vlQ _ _ _ [] _ _ by assumption);(try simp only[Ba,List.length_append,List.length_cons,List.length_nil] at*);omega)
  |skip)
def HR:Sig:= {X:=ST×Int×Int×Bool×List Nd,args:=fun x=>[srd x.1 (xg x),.bool true],pre:=fun x=>okQ x.1 (xg x)∧(xg x).bad=false,Y:=Int×Int×Int×Bool×List Nd,post:=fun x y=>Ah x.1.sg (xg x) (CN x.1.sg false) (yS y),res:=fun x y=> .int .i64 y.1,outs:=fun x y=>[srd x.1 (yG y.2),.top],keep:=true}
def Pf(x:ST×Int×Int×Bool×List Nd):LS:= {ι:=Int×Int×Bool×List Nd×List Int×Nat,inv:=fun i=>clS x.1.sg (xg x) (iG i) i.2.2.2.2.1 i.2.2.2.2.2,regs:=fun i=>[(0,srd x.1 (iG i)),(5,.str (BA x.1.sg (Au (xg x)) 1)),(6,Ab i.2.2.2.2.1)],als:=[],meas:=fun i=>i.2.2.2.2.2}
theorem b3E:Am G Tryz.prog 23 HR:=
 vcFun_okP [(40,0,DV),(41,0,CC),(25,0,Bn),(42,0,EU),(43,0,GP),(44,0,BP),(45,0,Cd),(22,0,FS),(23,0,Jp),(24,0,Ei),(46,0,Gn),(47,0,Lz)] [(47,⟨Int,Bw⟩)] false (fun x=>[(9,Pf x)]) Tryz.func23 rfl (by decide) ⟨Rt,Kg,Hm,Vu,Wb,HL,Hl,Ru,b3D,Rv,VG,a2j,trivial⟩ (fun(x:ST×Int×Int×Bool×List Nd)=>True∧cA DV [srd x.1 (xg x),.int .i64 (5:Int)] fun x_1 y=>Aa (kdG x_1.1.sg (xh x_1) x_1.2.2.2.2.2) (cA CC [srd x_1.1 (xh x_1),.int .i64 (5:Int)] fun x_2 y=>cA Bn [srd x_2.1 (Bg x_2.1.sg (xh x_2) x_2.2.2.2.2.2),.int .i64 (19:Int),.str (BA x_2.1.sg (xh x_2) x_2.2.2.2.2.2),Ab []] fun x_3 y=>rA HR x [.int .i64 (AX (xh x_3)),srd x_3.1 (As (xh x_3) {kind:=x_3.2.2.2.2.2.1,text:=x_3.2.2.2.2.2.2.1,kids:=x_3.2.2.2.2.2.2.2,blank:=false}),.top]) (cA EU [srd x_1.1 (xh x_1),.str #[(118:UInt8),(97:UInt8),(114:UInt8)].toList] fun x_2 y=>Aa (isG x_2.1.sg (xh x_2) (1:Int) x_2.2.2.2.2.2) (cA GP [srd x_2.1 (BE x_2.1.sg (xh x_2) x_2.2.2.2.2.2)] fun x_3 y=>rA HR x [.int .i64 y.1,srd x_3.1 (yG y.2),.top]) (cA EU [srd x_2.1 (BE x_2.1.sg (xh x_2) x_2.2.2.2.2.2),.str #[(99:UInt8),(108:UInt8),(97:UInt8),(115:UInt8),(115:UInt8)].toList] fun x_3 y=>Aa (isG x_3.1.sg (xh x_3) (1:Int) x_3.2.2.2.2.2) (cA CC [srd x_3.1 (BE x_3.1.sg (xh x_3) x_3.2.2.2.2.2),.int .i64 (1:Int)] fun x_4 y=>cA BP [srd x_4.1 (Bg x_4.1.sg (xh x_4) x_4.2.2.2.2.2),.str #[(123:UInt8)].toList] fun x_5 y=>eA (Pf x) [srd x_5.1 (Av x_5.1.sg (xh x_5) x_5.2.2.2.2.2),.str (BA x_4.1.sg (xh x_4) x_4.2.2.2.2.2),Ab []]∧∀(i:Int×Int×Bool×List Nd×List Int×Nat),clS x.1.sg (xg x) (iG i) i.2.2.2.2.1 i.2.2.2.2.2→Aa (!(iG i).bad) (cA Cd [srd x.1 (iG i),.str #[(125:UInt8)].toList] fun x_6 y=>Aa (!isG x_6.1.sg (xh x_6) (4:Int) x_6.2.2.2.2.2) (cA FS [srd x_6.1 (Ax x_6.1.sg (xh x_6) x_6.2.2.2.2.2)] fun x_7 y=>Aa (blG x_7.1.sg (xg x_7)) (cA Jp [srd x_7.1 (xg x_7),.bool false] fun x_8 y=>cA Ei [srd x_8.1 (yG y.2),.int .i64 y.1,.bool (decide ((↑(List.length i.2.2.2.2.1):Int)>(0:Int)))] fun x_9 y_1=>∃(x_10:Int),y.1=x_10∧∃(zs:List Int),Ab [x_10]=Ab zs∧Bu Bw∧Ba (List.length i.2.2.2.2.1+List.length zs) (8:Nat)∧eN (Pf x) i [srd x_9.1 (gBl (xh x_9) x_9.2.2.2.2.2.1 x_9.2.2.2.2.2.2),.str (BA x.1.sg (Au (xg x)) (1:Int)),Ab (i.2.2.2.2.1++zs)]) (cA Jp [srd x_7.1 (xg x_7),.bool false] fun x_8 y=>cA Ei [srd x_8.1 (yG y.2),.int .i64 y.1,.bool false] fun x_9 y_1=>∃(x_10:Int),y.1=x_10∧∃(zs:List Int),Ab [x_10]=Ab zs∧Bu Bw∧Ba (List.length i.2.2.2.2.1+List.length zs) (8:Nat)∧eN (Pf x) i [srd x_9.1 (gBl (xh x_9) x_9.2.2.2.2.2.1 x_9.2.2.2.2.2.2),.str (BA x.1.sg (Au (xg x)) (1:Int)),Ab (i.2.2.2.2.1++zs)])) (cA Bn [srd x_6.1 (Ax x_6.1.sg (xh x_6) x_6.2.2.2.2.2),.int .i64 (21:Int),.str (BA x.1.sg (Au (xg x)) (1:Int)),Ab i.2.2.2.2.1] fun x_7 y=>rA HR x [.int .i64 (AX (xh x_7)),srd x_7.1 (As (xh x_7) {kind:=x_7.2.2.2.2.2.1,text:=x_7.2.2.2.2.2.2.1,kids:=x_7.2.2.2.2.2.2.2,blank:=false}),.top])) (cA Bn [srd x.1 (iG i),.int .i64 (21:Int),.str (BA x.1.sg (Au (xg x)) (1:Int)),Ab i.2.2.2.2.1] fun x_6 y=>rA HR x [.int .i64 (AX (xh x_6)),srd x_6.1 (As (xh x_6) {kind:=x_6.2.2.2.2.2.1,text:=x_6.2.2.2.2.2.2.1,kids:=x_6.2.2.2.2.2.2.2,blank:=false}),.top])) (cA CC [srd x_3.1 (BE x_3.1.sg (xh x_3) x_3.2.2.2.2.2),.int .i64 (1:Int)] fun x_4 y=>cA Gn [srd x_4.1 (Bg x_4.1.sg (xh x_4) x_4.2.2.2.2.2)] fun x_5 y=>cA Lz [srd x_5.1 (yG y.2)] fun x_6 y_1=>∃(x_7:Int),y_1.1=x_7∧∃(zs:List Int),Ab [x_7]=Ab zs∧Bu Bw∧Ba (List.length y.1+List.length zs) (8:Nat)∧cA Bn [srd x_6.1 (yG y_1.2),.int .i64 (20:Int),.str (BA x_4.1.sg (xh x_4) x_4.2.2.2.2.2),Ab (y.1++zs)] fun x_8 y=>rA HR x [.int .i64 (AX (xh x_8)),srd x_8.1 (As (xh x_8) {kind:=x_8.2.2.2.2.2.1,text:=x_8.2.2.2.2.2.2.1,kids:=x_8.2.2.2.2.2.2.2,blank:=false}),.top])))) (fun x=>by kernel_rfl) fun(x:ST×Int×Int×Bool×List Nd) (hx:okQ x.1 (xg x)∧(xg x).bad=false)=>(by
 dsimp only[cA,eA,eN,Pf,Bx,Ab,Bd,rA,Lz,FS,Ei,DV,Cd,HR,Jp,Gn,Bn,CC,GP,BP,EU,Bv,sgs,srd,Aw,AR,mvL,lnL,mvE,lnE,Br]
 obtain⟨s,p,d,b,ns⟩:=x;dsimp only[xg,xh] at hx ⊢
 obtain⟨hx,hb⟩:=hx
 have hx:okQ s ⟨p,d,b,ns⟩:=hx
 have hD:=EA hx;have hM:=Nm hx;have h1:=hD.1;have hs:=h1.1
 (repeat' first|(with_reducible first|rfl|exact True.intro|apply AM|apply And.intro|((first|apply AC|apply AK|apply AD|apply AL)<;>intro _))|(apply AB<;>intro _)|apply AJ|refine Ag () ?_ ?_|((first|apply AQ|apply AP|apply AO|apply AN|apply AI|apply AH|apply AG|apply AF|apply AE)<;>try dsimp only)|apply Ag|(refine Prod.forall.2 ?_;intro _;try dsimp only)|(intro _;try dsimp only))
 all_goals(try dsimp only[xg,xh,yG,yS,iG,iF] at*)
 all_goals(try simp only[Gk] at*)
 all_goals first
  |(show Nat;skip)
  |exact b3r hx ‹_› ‹_›
  |exact(Kj ‹_› ‹_› ‹_› ‹_› (Ke ‹_›)).1
  |exact(Kj ‹_› ‹_› ‹_› ‹_› (Kf ‹_›)).1
  |skip
 all_goals(try(first|exact(Kj ‹_› ‹_› ‹_› ‹_› (Ke ‹_›)).2|exact(Kj ‹_› ‹_› ‹_› ‹_› (Kf ‹_›)).2))
 all_goals(try(have e:=Jm (show isG s.sg ⟨p,d,b,ns⟩ 1 [118,97,114]=false by assumption);simp only[e] at*))
 all_goals(try(have e:=Jn (show isG s.sg ⟨p,d,b,ns⟩ 1 [118,97,114]=true by assumption);simp only[e] at*))
 all_goals(try(have e:=Jm (show isG s.sg ⟨p,d,b,ns⟩ 1 [99,108,97,115,115]=false by assumption);simp only[e] at*))
 all_goals(try(have e:=Jn (show isG s.sg ⟨p,d,b,ns⟩ 1 [99,108,97,115,115]=true by assumption);simp only[e] at*))
 all_goals(try(have hw:=Gp hx (show isG s.sg ⟨p,d,b,ns⟩ 1 [99,108,97,115,115]=true by assumption)))
 all_goals first
  |(show Nat;skip)
  |rfl
  |exact h1
  |omega
  |contradiction
  |exact b3w hx ‹_›
  |exact Hn h1 (by omega)
  |exact Gp hx ‹_›
  |exact b3y hx ‹_› ‹_› ‹_›
  |exact a2k hx ‹_›
  |exact(EA hw).1
  |exact(b3s hw).1
  |exact a2m hw
  |exact(EA (Wc hw ‹_›)).1
  |exact(a2n hw ‹_› ‹_› ‹_›).1
  |exact(a2n hw ‹_› ‹_› ‹_›).2
  |exact Fx (EA (Wc hw ‹_›)).1
  |exact Fi h1 ‹_›
  |exact Nl VT ‹_›
  |exact Nl VT ‹_› ‹_›
  |exact(Kj ‹_› ‹_› ‹_› ‹_› (Ke ‹_›)).1
  |exact(Kj ‹_› ‹_› ‹_› ‹_› (Kf ‹_›)).1
  |exact a2p hx ‹_› ‹_› ‹_› (b3t hw ‹_› ‹_›)
  |exact a2p hx ‹_› ‹_› ‹_› (b3u hw ‹_› ‹_›)
  |exact b3A hx ‹_› ‹_› ‹_› (a2l hx ‹_› ‹_›)
  |(have hq:=VJ hs (show vlQ _ _ _ [] _ _ by assumption);(try simp only[Ba,List.length_append,List.length_cons,List.length_nil] at*);omega)
  |(have hq:=Wd hw (show clS _ _ _ _ _ by assumption);(try simp only[Ba,List.length_append,List.length_cons,List.length_nil]);omega)
  |skip
 all_goals first
  |exact(Kj ‹_› ‹_› ‹_› ‹_› (Ke ‹_›)).2
  |exact(Kj ‹_› ‹_› ‹_› ‹_› (Kf ‹_›)).2
  |skip)
end Go.My
end
section
namespace Go.My
open Go.Eng Go.Proofs
variable {G:GInv}
theorem a2r{c:UInt8}(h1:Cf c=false)(h2:Bj c=false):BD c=false:=by simp [BD,h1,h2]
theorem b3F{c:UInt8}(h1:Cf c=true):BD c=true:=by simp [BD,h1]
theorem b3G{c:UInt8}(h1:Bj c=true):BD c=true:=by simp [BD,h1]
theorem b3H{s:List UInt8}:CB s≤s.length:=by
 unfold CB
 cases h:CI isQ (s.drop 1) with
 |none=>simp
 |some i=>
  simp only
  split
  ·have:=Qp h;simp at this;omega
  ·omega
theorem b3I{s:List UInt8}:Cs s≤s.length:=by
 unfold Cs
 split
 ·split
  ·exact Rn
  ·omega
 ·omega
theorem b3J{s:List UInt8}:(FR s).length≤2:=by
 rw[a1o]
 split
 ·simp;omega
 ·split
  ·simp;omega
  ·simp
theorem b3K{x:List UInt8×Int}(h0:0≤x.2)(h1:x.2<x.1.length):(Cs (x.1.drop x.2.toNat):Int)≤x.1.length-x.2∧(CB (x.1.drop x.2.toNat):Int)≤x.1.length-x.2:=by
 have a:= @b3I (x.1.drop x.2.toNat);have b:= @b3H (x.1.drop x.2.toNat)
 simp at a b;omega
theorem a2s{x:List UInt8×Int}{i:Int}{c d e:UInt8}(h0:0≤x.2)(hf:Cf c=false)(hc:x.1[x.2.toNat]? =some c)(hg:Bj d=true)(hd:x.1[x.2.toNat]? =some d)(h:rwI Bj x i)(hz:Bj e=false)(he:x.1[i.toNat]? =some e):
 (i-x.2>12→sgR x 0 [] 0 false 0)∧(¬i-x.2>12→sgR x 2 (List.drop (Int.toNat x.2) (List.take (Int.toNat i) x.1)) x.2 false (i-x.2)):=by
 rw[hc] at hd;cases hd
 exact OZ h0 hc hf hg h (.inr ⟨_,he,hz⟩)
theorem a2t{t:List UInt8}{i br:Int}{l:List Sg}{n:Nat}{c c2:UInt8}{k p m:Int}{tx:List UInt8}{b:Bool}(h32:(c.toNat:Int)≠32)(hc:t[i.toNat]? =some c)(h10:(c2.toNat:Int)≠10)(hc2:t[i.toNat]? =some c2)(h:sgJ t i br l n)(hi:i<t.length)(hs:sgR (t,i) k tx p b m)(hm:m≠0):
 sgJ t (i+m) 0 (l++[⟨k,tx,p,decide (br>1)⟩]) (n-1)∧n-1<n:=by
 rw[hc] at hc2;cases hc2
 rcases hs with⟨h1,⟨rfl,rfl,rfl,rfl⟩,rfl⟩|hs
 ·exact b0W hc h hi (by omega) (by omega) h1
 ·exact(hm hs.2).elim
theorem a2u{t:List UInt8}{i br:Int}{l:List Sg}{n:Nat}{c c2:UInt8}{k p m:Int}{tx:List UInt8}{b:Bool}(h32:(c.toNat:Int)≠32)(hc:t[i.toNat]? =some c)(h10:(c2.toNat:Int)≠10)(hc2:t[i.toNat]? =some c2)(h:sgJ t i br l n)(hi:i<t.length)(hs:sgR (t,i) k tx p b m)(hm:m=0):Cj t=none:=by
 rw[hc] at hc2;cases hc2
 rcases hs with⟨h1,_,h2⟩|hs
 ·have a:=(a1e h1).1;rw[hm] at h2;rw[←h2] at a;omega
 ·exact b0X hc h hi (by omega) (by omega) hs.1
theorem b3L{t:List UInt8}{i br:Int}{l:List Sg}{n:Nat}{k p m:Int}{tx:List UInt8}{b:Bool}(h:sgJ t i br l n)(hs:sgR (t,i) k tx p b m):0≤m∧m≤t.length-i:=by
 rcases hs with⟨h1,_,h2⟩|hs
 ·have a:=a1h h h1;simp only at h2;omega
 ·have:=Nc h;omega
attribute [local irreducible] rwI sgR Be Cs CB FR
def RO:Sig:= {X:=List UInt8×Int,args:=fun x=>[.str x.1,.int .i64 x.2],pre:=fun x=>0≤x.2∧x.2<x.1.length∧x.1.length<2^62,Y:=Int×List UInt8×Int×Bool×Int,post:=fun x y=>sgR x y.1 y.2.1 y.2.2.1 y.2.2.2.1 y.2.2.2.2,res:=fun x y=> .tup [.agg [.int .i64 y.1,.str y.2.1,.int .i64 y.2.2.1,.bool y.2.2.2.1],.int .i64 y.2.2.2.2],outs:=fun x y=>[.top,.top],keep:=false}
def Pg(x:List UInt8×Int):LS:= {ι:=Int,inv:=fun i=>rwI BD x i,regs:=fun i=>[(0,.str x.1),(1,.int .i64 x.2),(4,.box 0 [.int .i64 0,.str [],.int .i64 0,.bool false]),(6,.int .i64 i)],als:=[],meas:=fun i=>x.1.length-i.toNat}
def RP(x:List UInt8×Int):LS:= {ι:=Int,inv:=fun i=>rwI Bj x i,regs:=fun i=>[(0,.str x.1),(1,.int .i64 x.2),(4,.box 0 [.int .i64 0,.str [],.int .i64 0,.bool false]),(6,.int .i64 i)],als:=[],meas:=fun i=>x.1.length-i.toNat}
theorem b3M:Am G Tryz.prog 27 RO:=
 vcFun_okP [(50,0,GC),(51,0,Im),(52,0,Fe),(53,0,FH),(54,0,HE),(55,0,Ls)] [] false (fun x=>[(6,Pg x),(12,RP x)]) Tryz.func27 rfl (by decide) ⟨YY,YU,YH,Uz,YX,b1n,trivial⟩ (fun(x:List UInt8×Int)=>(∀(y:Int×List UInt8×Int×Bool×Int),sgR x y.1 y.2.1 y.2.2.1 y.2.2.2.1 y.2.2.2.2→((True∧True∧True∧True∧True)∧True∧True)∧True∧True∧True)∧cA GC [.str x.1,.int .i64 x.2] fun x_1 y=>Aa (decide ((↑(Cs (List.drop (Int.toNat x_1.2) x_1.1)):Int)>(0:Int))) (inR IntKind.i64 (x.2+(↑(Cs (List.drop (Int.toNat x_1.2) x_1.1)):Int))∧((0:Int)≤x.2∧x.2≤x.2+(↑(Cs (List.drop (Int.toNat x_1.2) x_1.1)):Int)∧x.2+(↑(Cs (List.drop (Int.toNat x_1.2) x_1.1)):Int)≤(↑(List.length x.1):Int))∧cA Im [.str (List.drop (Int.toNat x.2) (List.take (Int.toNat (x.2+(↑(Cs (List.drop (Int.toNat x_1.2) x_1.1)):Int))) x.1))] fun x_2 y=>∃(y:Int×List UInt8×Int×Bool×Int),sgR x y.1 y.2.1 y.2.2.1 y.2.2.2.1 y.2.2.2.2∧(5:Int)=y.1∧Ca x_2=y.2.1∧x.2=y.2.2.1∧false=y.2.2.2.1∧(↑(Cs (List.drop (Int.toNat x_1.2) x_1.1)):Int)=y.2.2.2.2∧True) (((0:Int)≤x.2∧x.2<(↑(List.length x.1):Int))∧∀(c:UInt8),x.1[Int.toNat x.2]? =some c→cA Fe [AV.int IntKind.u8 (↑(UInt8.toNat c):Int)] fun x_2 y=>Aa (Cf x_2) (eA (Pg x) [.str x.1,.int .i64 x.2,.box 0 [.int .i64 (0:Int),.str #[].toList,.int .i64 (0:Int),.bool false],.int .i64 x.2]∧∀(i:Int),rwI BD x i→Aa (decide (i<(↑(List.length x.1):Int))) (((0:Int)≤i∧i<(↑(List.length x.1):Int))∧∀(c:UInt8),x.1[Int.toNat i]? =some c→cA Fe [AV.int IntKind.u8 (↑(UInt8.toNat c):Int)] fun x_3 y=>Aa (Cf x_3) (inR IntKind.i64 (i+(1:Int))∧eN (Pg x) i [.str x.1,.int .i64 x.2,.box 0 [.int .i64 (0:Int),.str [],.int .i64 (0:Int),.bool false],.int .i64 (i+(1:Int))]) (((0:Int)≤i∧i<(↑(List.length x.1):Int))∧∀(c:UInt8),x.1[Int.toNat i]? =some c→cA FH [AV.int IntKind.u8 (↑(UInt8.toNat c):Int)] fun x_4 y=>Aa (Bj x_4) (inR IntKind.i64 (i+(1:Int))∧eN (Pg x) i [.str x.1,.int .i64 x.2,.box 0 [.int .i64 (0:Int),.str [],.int .i64 (0:Int),.bool false],.int .i64 (i+(1:Int))]) (inR IntKind.i64 (i-x.2)∧Aa (decide (i-x.2>(30:Int))) (∃(y:Int×List UInt8×Int×Bool×Int),sgR x y.1 y.2.1 y.2.2.1 y.2.2.2.1 y.2.2.2.2∧(0:Int)=y.1∧ #[].toList=y.2.1∧(0:Int)=y.2.2.1∧false=y.2.2.2.1∧(0:Int)=y.2.2.2.2∧True) (((0:Int)≤x.2∧x.2≤i∧i≤(↑(List.length x.1):Int))∧inR IntKind.i64 (i-x.2)∧∃(y:Int×List UInt8×Int×Bool×Int),sgR x y.1 y.2.1 y.2.2.1 y.2.2.2.1 y.2.2.2.2∧(1:Int)=y.1∧List.drop (Int.toNat x.2) (List.take (Int.toNat i) x.1)=y.2.1∧x.2=y.2.2.1∧false=y.2.2.2.1∧i-x.2=y.2.2.2.2∧True)))) (inR IntKind.i64 (i-x.2)∧Aa (decide (i-x.2>(30:Int))) (∃(y:Int×List UInt8×Int×Bool×Int),sgR x y.1 y.2.1 y.2.2.1 y.2.2.2.1 y.2.2.2.2∧(0:Int)=y.1∧ #[].toList=y.2.1∧(0:Int)=y.2.2.1∧false=y.2.2.2.1∧(0:Int)=y.2.2.2.2∧True) (((0:Int)≤x.2∧x.2≤i∧i≤(↑(List.length x.1):Int))∧inR IntKind.i64 (i-x.2)∧∃(y:Int×List UInt8×Int×Bool×Int),sgR x y.1 y.2.1 y.2.2.1 y.2.2.2.1 y.2.2.2.2∧(1:Int)=y.1∧List.drop (Int.toNat x.2) (List.take (Int.toNat i) x.1)=y.2.1∧x.2=y.2.2.1∧false=y.2.2.2.1∧i-x.2=y.2.2.2.2∧True))) (((0:Int)≤x.2∧x.2<(↑(List.length x.1):Int))∧∀(c:UInt8),x.1[Int.toNat x.2]? =some c→cA FH [AV.int IntKind.u8 (↑(UInt8.toNat c):Int)] fun x_3 y=>Aa (Bj x_3) (eA (RP x) [.str x.1,.int .i64 x.2,.box 0 [.int .i64 (0:Int),.str #[].toList,.int .i64 (0:Int),.bool false],.int .i64 x.2]∧∀(i:Int),rwI Bj x i→Aa (decide (i<(↑(List.length x.1):Int))) (((0:Int)≤i∧i<(↑(List.length x.1):Int))∧∀(c:UInt8),x.1[Int.toNat i]? =some c→cA FH [AV.int IntKind.u8 (↑(UInt8.toNat c):Int)] fun x_4 y=>Aa (Bj x_4) (inR IntKind.i64 (i+(1:Int))∧eN (RP x) i [.str x.1,.int .i64 x.2,.box 0 [.int .i64 (0:Int),.str [],.int .i64 (0:Int),.bool false],.int .i64 (i+(1:Int))]) (inR IntKind.i64 (i-x.2)∧Aa (decide (i-x.2>(12:Int))) (∃(y:Int×List UInt8×Int×Bool×Int),sgR x y.1 y.2.1 y.2.2.1 y.2.2.2.1 y.2.2.2.2∧(0:Int)=y.1∧ #[].toList=y.2.1∧(0:Int)=y.2.2.1∧false=y.2.2.2.1∧(0:Int)=y.2.2.2.2∧True) (((0:Int)≤x.2∧x.2≤i∧i≤(↑(List.length x.1):Int))∧inR IntKind.i64 (i-x.2)∧∃(y:Int×List UInt8×Int×Bool×Int),sgR x y.1 y.2.1 y.2.2.1 y.2.2.2.1 y.2.2.2.2∧(2:Int)=y.1∧List.drop (Int.toNat x.2) (List.take (Int.toNat i) x.1)=y.2.1∧x.2=y.2.2.1∧false=y.2.2.2.1∧i-x.2=y.2.2.2.2∧True))) (inR IntKind.i64 (i-x.2)∧Aa (decide (i-x.2>(12:Int))) (∃(y:Int×List UInt8×Int×Bool×Int),sgR x y.1 y.2.1 y.2.2.1 y.2.2.2.1 y.2.2.2.2∧(0:Int)=y.1∧ #[].toList=y.2.1∧(0:Int)=y.2.2.1∧false=y.2.2.2.1∧(0:Int)=y.2.2.2.2∧True) (((0:Int)≤x.2∧x.2≤i∧i≤(↑(List.length x.1):Int))∧inR IntKind.i64 (i-x.2)∧∃(y:Int×List UInt8×Int×Bool×Int),sgR x y.1 y.2.1 y.2.2.1 y.2.2.2.1 y.2.2.2.2∧(2:Int)=y.1∧List.drop (Int.toNat x.2) (List.take (Int.toNat i) x.1)=y.2.1∧x.2=y.2.2.1∧false=y.2.2.2.1∧i-x.2=y.2.2.2.2∧True))) (((0:Int)≤x.2∧x.2<(↑(List.length x.1):Int))∧∀(c:UInt8),x.1[Int.toNat x.2]? =some c→Aa ((↑(UInt8.toNat c):Int)==(39:Int)) (cA HE [.str x.1,.int .i64 x.2] fun x_4 y=>inR IntKind.i64 (x.2+(↑(CB (List.drop (Int.toNat x_4.2) x_4.1)):Int))∧((0:Int)≤x.2∧x.2≤x.2+(↑(CB (List.drop (Int.toNat x_4.2) x_4.1)):Int)∧x.2+(↑(CB (List.drop (Int.toNat x_4.2) x_4.1)):Int)≤(↑(List.length x.1):Int))∧∃(y:Int×List UInt8×Int×Bool×Int),sgR x y.1 y.2.1 y.2.2.1 y.2.2.2.1 y.2.2.2.2∧(3:Int)=y.1∧List.drop (Int.toNat x.2) (List.take (Int.toNat (x.2+(↑(CB (List.drop (Int.toNat x_4.2) x_4.1)):Int))) x.1)=y.2.1∧x.2=y.2.2.1∧false=y.2.2.2.1∧(↑(CB (List.drop (Int.toNat x_4.2) x_4.1)):Int)=y.2.2.2.2∧True) (cA Ls [.str x.1,.int .i64 x.2] fun x_4 y=>∃(y:Int×List UInt8×Int×Bool×Int),sgR x y.1 y.2.1 y.2.2.1 y.2.2.2.1 y.2.2.2.2∧(4:Int)=y.1∧FR (List.drop (Int.toNat x_4.2) x_4.1)=y.2.1∧x.2=y.2.2.1∧false=y.2.2.2.1∧(↑(List.length (FR (List.drop (Int.toNat x_4.2) x_4.1))):Int)=y.2.2.2.2∧True))))) (fun x=>by kernel_rfl) fun(x:List UInt8×Int) (hx:0≤x.2∧x.2<x.1.length∧x.1.length<2^62)=>(by
 dsimp only[cA,eA,eN,RP,Pg,FH,Fe,GC,HE,Ls,Im,Aw,AR,mvL,lnL,mvE,lnE,Br]
 obtain⟨h1,h2,h3⟩:=hx
 have hn:=b3K h1 h2
 (repeat' first|(with_reducible first|rfl|exact True.intro|apply AM|apply And.intro|((first|apply AC|apply AK|apply AD|apply AL)<;>intro _))|(apply AB<;>intro _)|apply AJ|refine Ag () ?_ ?_|((first|apply AQ|apply AP|apply AO|apply AN|apply AI|apply AH|apply AG|apply AF|apply AE)<;>try dsimp only)|apply Ag|(refine Prod.forall.2 ?_;intro _;try dsimp only)|(intro _;try dsimp only))
 all_goals(try((repeat(rename x.1[_]? =some _=>hq;revert hq;rename x.1[_]? =some _=>hr;intro hq;rw[hr] at hq;cases hq))))
 all_goals first
  |rfl
  |omega
  |exact b1q h1 ‹_›
  |exact b1o (by omega)
  |exact Vs h1 ‹_› ‹_› ‹_› (b3F ‹_›)
  |exact Vs h1 ‹_› ‹_› ‹_› (b3G ‹_›)
  |exact Vs h1 ‹_› ‹_› ‹_› ‹_›
  |exact(Rr h1 ‹_› ‹_› ‹_› (.inl ‹_›)).1 ‹_›
  |exact(Rr h1 ‹_› ‹_› ‹_› (.inl ‹_›)).2 ‹_›
  |exact(Rr h1 ‹_› ‹_› ‹_› (.inr ⟨_,by assumption,a2r ‹_› ‹_›⟩)).1 ‹_›
  |exact(Rr h1 ‹_› ‹_› ‹_› (.inr ⟨_,by assumption,a2r ‹_› ‹_›⟩)).2 ‹_›
  |exact(OZ h1 ‹_› ‹_› ‹_› ‹_› (.inl ‹_›)).1 ‹_›
  |exact(OZ h1 ‹_› ‹_› ‹_› ‹_› (.inl ‹_›)).2 ‹_›
  |exact(OZ h1 ‹_› ‹_› ‹_› ‹_› (.inr ⟨_,by assumption,by assumption⟩)).1 ‹_›
  |exact(OZ h1 ‹_› ‹_› ‹_› ‹_› (.inr ⟨_,by assumption,by assumption⟩)).2 ‹_›
  |exact(a2s h1 ‹_› ‹_› ‹_› ‹_› ‹_› ‹_› ‹_›).1 ‹_›
  |exact(a2s h1 ‹_› ‹_› ‹_› ‹_› ‹_› ‹_› ‹_›).2 ‹_›
  |exact b1s h1 ‹_› ‹_› ‹_› ‹_›
  |exact b1t h1 ‹_› ‹_› ‹_› ‹_› ‹_›
  |(have hq:=b1p (show rwI _ _ _ by assumption);(try simp only[AS]);omega)
  |(have hq:= @b3J (x.1.drop x.2.toNat);(try simp only[AS]);omega)
  |(simp only[List.length_drop,List.length_take];omega)
  |skip)
attribute [local irreducible] sgJ Cj
def Gt:Sig:= {X:=List UInt8,args:=fun x=>[.str x],pre:=fun x=>x.length<2^62,Y:=List Sg×Int,post:=fun x y=>sgQ x y.1,res:=fun x y=> .tup [sgs y.1,.int .i64 y.2,.bool (Cj x).isSome],outs:=fun x y=>[.top],keep:=true}
def No(x:List UInt8):LS:= {ι:=Int×Int×List Sg×Nat,inv:=fun i=>sgJ x i.1 i.2.1 i.2.2.1 i.2.2.2,regs:=fun i=>[(0,.str x),(5,Ad i.2.2.1),(6,.int .i64 i.1),(7,.int .i64 i.2.1)],als:=[],meas:=fun i=>i.2.2.2}
theorem We:Am G Tryz.prog 7 Gt:=
 vcFun_okP [(27,0,RO)] [(28,⟨Sg,sgA⟩)] false (fun x=>[(6,No x)]) Tryz.func7 rfl (by decide) ⟨b3M,trivial⟩ (fun(x:List UInt8)=>True∧Aa (decide ((↑(List.length x):Int)>(3000:Int))) (rA Gt x [.tup [Ad [],.int .i64 (3000:Int),.bool false],.top]) (eA (No x) [.str x,Ad [],.int .i64 (0:Int),.int .i64 (0:Int)]∧∀(i:Int×Int×List Sg×Nat),sgJ x i.1 i.2.1 i.2.2.1 i.2.2.2→Aa (decide (i.1<(↑(List.length x):Int))) (((0:Int)≤i.1∧i.1<(↑(List.length x):Int))∧∀(c:UInt8),x[Int.toNat i.1]? =some c→Aa ((↑(UInt8.toNat c):Int)==(32:Int)) (inR IntKind.i64 (i.1+(1:Int))∧eN (No x) i [.str x,Ad i.2.2.1,.int .i64 (i.1+(1:Int)),.int .i64 i.2.1]) (((0:Int)≤i.1∧i.1<(↑(List.length x):Int))∧∀(c:UInt8),x[Int.toNat i.1]? =some c→Aa ((↑(UInt8.toNat c):Int)==(10:Int)) (inR IntKind.i64 (i.2.1+(1:Int))∧inR IntKind.i64 (i.1+(1:Int))∧eN (No x) i [.str x,Ad i.2.2.1,.int .i64 (i.1+(1:Int)),.int .i64 (i.2.1+(1:Int))]) (cA RO [.str x,.int .i64 i.1] fun x_1 y=>Aa (y.2.2.2.2==(0:Int)) (rA Gt x [.tup [Ad [],.int .i64 i.1,.bool false],.top]) (∃(x_2:Sg),y.1=x_2.kind∧y.2.1=x_2.text∧y.2.2.1=x_2.pos∧decide (i.2.1>(1:Int))=x_2.blank∧∃(zs:List Sg),Ad [x_2]=Ad zs∧Bu sgA∧Ba (List.length i.2.2.1+List.length zs) (40:Nat)∧inR IntKind.i64 (i.1+y.2.2.2.2)∧eN (No x) i [.str x,Ad (i.2.2.1++zs),.int .i64 (i.1+y.2.2.2.2),.int .i64 (0:Int)])))) (rA Gt x [.tup [Ad i.2.2.1,.int .i64 (0:Int),.bool true],.top]))) (fun x=>by kernel_rfl) fun(x:List UInt8) (hx:x.length<2^62)=>(by
 dsimp only[cA,eA,eN,No,Ad,rA,RO,Gt,Bv,sgs,Aw,AR,mvL,lnL,mvE,lnE,Br]
 have hx:x.length<2^62:=hx
 (repeat' first|(with_reducible first|rfl|exact True.intro|apply AM|apply And.intro|((first|apply AC|apply AK|apply AD|apply AL)<;>intro _))|(apply AB<;>intro _)|apply AJ|refine Ag () ?_ ?_|((first|apply AQ|apply AP|apply AO|apply AN|apply AI|apply AH|apply AG|apply AF|apply AE)<;>try dsimp only)|apply Ag|(refine Prod.forall.2 ?_;intro _;try dsimp only)|(intro _;try dsimp only))
 all_goals first
  |(show Nat;skip)
  |rfl
  |exact b0V ‹_›
  |exact(Ro (a1j ‹_›)).2
  |exact(Ro (a1j ‹_›)).1.symm
  |exact(a1f ‹_› ‹_› ‹_› (by omega)).1
  |exact(a1g ‹_› ‹_› ‹_› (by omega)).1
  |exact(a2t ‹_› ‹_› ‹_› ‹_› ‹_› ‹_› ‹_› ‹_›).1
  |exact(Ro (a2u ‹_› ‹_› ‹_› ‹_› ‹_› ‹_› ‹_› ‹_›)).2
  |exact(Ro (a2u ‹_› ‹_› ‹_› ‹_› ‹_› ‹_› ‹_› ‹_›)).1.symm
  |exact(a1i ‹_› ‹_›).2
  |exact(a1i ‹_› ‹_›).1.symm
  |(have hq:=Nc (show sgJ _ _ _ _ _ by assumption);(try simp only[AS]);omega)
  |(have hj:=(show sgJ _ _ _ _ _ by assumption);have hq:=Nc hj;have hz:=b3L hj ‹_›;(try simp only[AS]);omega)
  |(have hq:=Nc (show sgJ _ _ _ _ _ by assumption);(try simp only[Ba,List.length_append,List.length_cons,List.length_nil]);omega)
  |(simp [Ba];done)
  |skip
 all_goals first
  |exact(a1f ‹_› ‹_› ‹_› (by omega)).2
  |exact(a1g ‹_› ‹_› ‹_› (by omega)).2
  |exact(a2t ‹_› ‹_› ‹_› ‹_› ‹_› ‹_› ‹_› ‹_›).2
  |rfl
  |skip)
end Go.My
end
section
namespace Go.My
open Go.Eng Go.Proofs
variable {G:GInv}
theorem b3N{s:List UInt8}:Ca s <+: s:=by
 have h:=List.dropWhile_suffix (fun c:UInt8=>decide (c.toNat=32)) (l:=s.reverse)
 unfold Ca
 rw[←List.reverse_suffix,List.reverse_reverse];exact h
theorem Wf{c:UInt8}{a s t:List UInt8}(h:t <+: c::s)(ht:t=a)(ha:a≠[]):a.head? =some c:=by
 subst ht
 match t with
 |[]=>exact(ha rfl).elim
 |d::r=>
  obtain⟨k,hk⟩:=h
  simp at hk
  simp [hk.1]
theorem b3O{s:List UInt8}(h:(Be s).ok=true)(ht:(Be s).text=[41]∨(Be s).text=[61,62]∨(Be s).text=[44]):(Be s).kind=4:=by
 match s with
 |[]=>cases h
 |b::s=>
  have key:∀t:List UInt8,t <+: b::s→(t=[41]∨t=[61,62]∨t=[44])→b=41∨b=61∨b=44:=by
   intro t hp ht
   rcases ht with ht|ht|ht
   ·have:=Wf hp ht (by simp);simp at this;exact .inl this.symm
   ·have:=Wf hp ht (by simp);simp at this;exact .inr (.inl this.symm)
   ·have:=Wf hp ht (by simp);simp at this;exact .inr (.inr this.symm)
  unfold Be at h ht ⊢
  simp only at h ht ⊢
  split
  ·rename_i hb
   rw[if_pos hb] at ht
   rcases key _ (List.takeWhile_prefix _) ht with rfl|rfl|rfl<;>exact absurd hb (by decide)
  ·rename_i hb
   rw[if_neg hb] at h ht
   split
   ·rename_i hb2
    rw[if_pos hb2] at ht
    rcases key _ (List.takeWhile_prefix _) ht with rfl|rfl|rfl<;>exact absurd hb2 (by decide)
   ·rename_i hb2
    rw[if_neg hb2] at h ht
    split
    ·rename_i hb3
     rw[if_pos hb3] at ht h
     simp only at ht h
     have hp:(CY (b::s)).1 <+: b::s:=by
      unfold CY;split
      ·exact List.nil_prefix
      ·exact List.take_prefix _ _
     rcases key _ hp ht with rfl|rfl|rfl<;>exact absurd hb3 (by decide)
    ·rename_i hb3
     rw[if_neg hb3] at h ht
     split
     ·rename_i hb4
      rw[if_pos hb4] at ht
      have hb5:b=47:=by
       cases s with
       |nil=>simp at hb4
       |cons c s=>simp at hb4;exact hb4.1
      rcases key _ (b3N.trans (List.takeWhile_prefix _)) ht with rfl|rfl|rfl<;>exact absurd hb5 (by decide)
     ·rename_i hb4
      rw[if_neg hb4] at h
      split
      ·rfl
      ·rename_i hb5
       rw[if_neg hb5] at h
       split
       ·rfl
       ·rename_i hb6
        rw[if_neg hb6] at h;cases h
theorem RQ{t:List UInt8}:∀(n:Nat) (i br:Int) (l:List Sg),Dn t n i br=some l→sgM l
 |0,_,_,_,h=>by cases h
 |n+1,i,br,l,h=>by
  rw[Dn] at h
  split at h
  ·simp at h;subst h;intro e he;simp at he
  ·split at h
   ·exact RQ n _ _ _ h
   ·split at h
    ·exact RQ n _ _ _ h
    ·split at h
     ·rename_i hok
      rw[Option.map_eq_some_iff] at h
      obtain⟨l',h1,rfl⟩:=h
      intro e he ht
      simp only[List.mem_cons] at he
      rcases he with rfl|he
      ·exact b3O hok ht
      ·exact RQ n _ _ _ h1 e he ht
     ·cases h
theorem b3P{t:List UInt8}{l:List Sg}(h:Cj t=some l):sgM l:=by
 rw[Cj] at h
 split at h
 ·cases h
 ·exact RQ _ _ _ _ h
def frI(t:List UInt8)(l:List Sg)(y:Gs)(ks:List Int)(ms:List (Int×Int))(N:Nat):Prop:=(Cj t=some l∧sgB l)∧Fw l y ks ms N
theorem b3Q{t:List UInt8}{l:List Sg}(h:sgQ t l)(hn:(Cj t).isSome=true):frI t l ⟨0,0,false,[]⟩ [] [] (l.length+1):=⟨Nf h hn,b0Y⟩
theorem Wg{t:List UInt8}{s:ST}{y:Gs}{ks:List Int}{ms:List (Int×Int)}{N:Nat}(h:frI t s.sg y ks ms N):okQ s y:=⟨b1a h.1.2 h.2,b3P h.1.1⟩
theorem RR{t:List UInt8}{l:List Sg}{y:Gs}{ks:List Int}{ms:List (Int×Int)}{N:Nat}{b:Bool}{z:Int×Gs}(h:frI t l y ks ms N)(hb:y.bad=false)(hl:y.pos<l.length)(hz:Ah l y (CN l false) z)(e:b=(blG l y&&decide (0<(ks.length:Int)))):
 frI t l (gBl z.2 z.1 b) (ks++[z.1]) (ms++[(y.pos,(gBl z.2 z.1 b).pos)]) (N-1)∧N-1<N:=by
 rw[VW hb] at e
 have hz2:Ah l y (CN l b) (z.1,gBl z.2 z.1 b):=VV VU hz
 obtain⟨a,c⟩:=b0Z h.2 hb hl hz2 e
 exact⟨⟨h.1,a⟩,c⟩
theorem b3R{t:List UInt8}{l:List Sg}{y:Gs}{ks:List Int}{ms:List (Int×Int)}{N:Nat}(h:frI t l y ks ms N):ks.length≤3001∧0≤y.pos∧y.pos≤l.length:=by
 have:=a1k h.1.2 h.2;omega
def frE(l:List Sg)(y:Gs):Prop:=y.bad=true∨¬y.pos<l.length
theorem Np{l:List Sg}{y:Gs}(h:y.bad=true):frE l y:= .inl h
theorem Nq{l:List Sg}{y:Gs}(h:¬y.pos<l.length):frE l y:= .inr h
theorem Nr:Bi []:=⟨by simp,by simp⟩
theorem RT{t:List UInt8}{l:List Sg}{y:Gs}{ks:List Int}{ms:List (Int×Int)}{N:Nat}(h:frI t l y ks ms N):sgQ t l∧(Cj t).isSome=true:=⟨.inl h.1,by rw[h.1.1];rfl⟩
theorem RU{t:List UInt8}{l:List Sg}{y:Gs}{ks:List Int}{ms:List (Int×Int)}{N:Nat}(h:frI t l y ks ms N)(he:frE l y)(hb:(As y ⟨22,[],ks,false⟩).bad=true):Cp t=none:=a1n (b1b (RT h).1 (RT h).2 ⟨h.2,he⟩ hb) hb
theorem Kk{t:List UInt8}{l:List Sg}{y:Gs}{ks:List Int}{ms:List (Int×Int)}{N:Nat}(h:frI t l y ks ms N)(he:frE l y)(hb:(As y ⟨22,[],ks,false⟩).bad=false):
 (BO (As y ⟨22,[],ks,false⟩).nodes=false→Cp t=none)∧(BO (As y ⟨22,[],ks,false⟩).nodes=true→Cp t=some (As y ⟨22,[],ks,false⟩).nodes):=by
 have a:=b1c (RT h).1 (RT h).2 ⟨h.2,he⟩ hb
 refine⟨fun h2=>a1n a (by simp only[Fj,h2];rfl),fun h2=>(b1d a (by simp only[Fj,h2];rfl)).1⟩
theorem Ph{t:List UInt8}{l:List Sg}{y:Gs}{ks:List Int}{ms:List (Int×Int)}{N:Nat}(h:frI t l y ks ms N):Bi (As y ⟨22,[],ks,false⟩).nodes∧(As y ⟨22,[],ks,false⟩).nodes.length≤1073741824∧0≤(As y ⟨22,[],ks,false⟩).pos:=by
 have a:=OM h.2.1 (a1m h.1.2 h.2)
 have b:=a1l a
 exact⟨b.1,by omega,a.1.1⟩
theorem a2v{t:List UInt8}(h:(Cj t).isSome=false):Cp t=none:=by
 rw[Cp]
 cases hs:Cj t with
 |none=>rfl
 |some l=>rw[hs] at h;cases h
theorem b3S{T0 T1 T2 T3:Type}{p q:ST×T0×T1×T2×T3→Prop}(a:List Sg)(v0:T0)(v1:T1)(v2:T2)(v3:T3)(h2:q (⟨a,0,[]⟩,v0,v1,v2,v3))(h1:p (⟨a,0,[]⟩,v0,v1,v2,v3)):∃x,p x∧q x:=⟨_,h1,h2⟩
theorem b3T{T0 T1 T2 T3 T4 T5:Type}{p q:ST×T0×T1×T2×T3×T4×T5→Prop}(a:List Sg)(v0:T0)(v1:T1)(v2:T2)(v3:T3)(v4:T4)(v5:T5)(h2:q (⟨a,0,[]⟩,v0,v1,v2,v3,v4,v5))(h1:p (⟨a,0,[]⟩,v0,v1,v2,v3,v4,v5)):∃x,p x∧q x:=⟨_,h1,h2⟩
theorem b3U{T0 T1 T2 T3 T4 T5 T6:Type}{p q:ST×T0×T1×T2×T3×T4×T5×T6→Prop}(a:List Sg)(v0:T0)(v1:T1)(v2:T2)(v3:T3)(v4:T4)(v5:T5)(v6:T6)(h2:q (⟨a,0,[]⟩,v0,v1,v2,v3,v4,v5,v6))(h1:p (⟨a,0,[]⟩,v0,v1,v2,v3,v4,v5,v6)):∃x,p x∧q x:=⟨_,h1,h2⟩
attribute [local irreducible] frI frE gBl blG As AX gsOk Ah CN Cp Cj BO sgM okQ
def DG:Sig:= {X:=List UInt8,args:=fun x=>[.str x],pre:=fun x=>x.length<2^62,Y:=List Nd×Int,post:=fun x y=>y.1=(Cp x).getD []∧Bi y.1,res:=fun x y=> .tup [nds y.1,.int .i64 y.2,.bool (Cp x).isSome],outs:=fun x y=>[.top],keep:=true}
def Pi(x:List UInt8):LS:= {ι:=List Sg×Int×Int×Bool×List Nd×List Int×List (Int×Int)×Nat,inv:=fun i=>frI x i.1 (iF i.2) i.2.2.2.2.2.1 i.2.2.2.2.2.2.1 i.2.2.2.2.2.2.2,regs:=fun i=>[(0,.str x),(5,Bd []),(6,sgs i.1),(9,srd ⟨i.1,0,[]⟩ (iF i.2)),(10,Ab i.2.2.2.2.2.1)],als:=[],meas:=fun i=>i.2.2.2.2.2.2.2}
theorem Wh:Am G Tryz.prog 6 DG:=
 vcFun_okP [(7,0,Gt),(22,0,FS),(23,0,HR),(24,0,Ei),(25,0,Bn),(26,0,Gf)] [(28,⟨Sg,sgA⟩),(47,⟨Int,Bw⟩),(25,⟨Nd,ndA true⟩)] false (fun x=>[(7,Pi x)]) Tryz.func6 rfl (by decide) ⟨We,Ru,b3E,Rv,Hm,ZZ,trivial⟩ (fun(x:List UInt8)=>True∧cA Gt [.str x] fun x_1 y=>Aa (!Option.isSome (Cj x_1)) (rA DG x [.tup [Bd [],.int .i64 y.2,.bool false],.top]) (eA (Pi x) [.str x,Bd [],sgs y.1,.box 0 [sgs y.1,.int .i64 (0:Int),.bool false,.int .i64 (0:Int),.nil],Ab []]∧∀(i:List Sg×Int×Int×Bool×List Nd×List Int×List (Int×Int)×Nat),frI x i.1 (iF i.2) i.2.2.2.2.2.1 i.2.2.2.2.2.2.1 i.2.2.2.2.2.2.2→Aa (!(iF i.2).bad) (Aa (decide ((iF i.2).pos<(↑(List.length i.1):Int))) (cA FS [.box 0 [sgs i.1,.int .i64 (iF i.2).pos,.bool (iF i.2).bad,.int .i64 (iF i.2).deep,Bd (iF i.2).nodes]] fun x_2 y=>Aa (blG x_2.1.sg (xg x_2)) (cA HR [srd x_2.1 (xg x_2),.bool true] fun x_3 y=>cA Ei [srd x_3.1 (yG y.2),.int .i64 y.1,.bool (decide ((↑(List.length i.2.2.2.2.2.1):Int)>(0:Int)))] fun x_4 y_1=>∃(x_5:Int),y.1=x_5∧∃(zs:List Int),Ab [x_5]=Ab zs∧Bu Bw∧Ba (List.length i.2.2.2.2.2.1+List.length zs) (8:Nat)∧eN (Pi x) i [.str x,Bd [],sgs i.1,srd x_4.1 (gBl (xh x_4) x_4.2.2.2.2.2.1 x_4.2.2.2.2.2.2),Ab (i.2.2.2.2.2.1++zs)]) (cA HR [srd x_2.1 (xg x_2),.bool true] fun x_3 y=>cA Ei [srd x_3.1 (yG y.2),.int .i64 y.1,.bool false] fun x_4 y_1=>∃(x_5:Int),y.1=x_5∧∃(zs:List Int),Ab [x_5]=Ab zs∧Bu Bw∧Ba (List.length i.2.2.2.2.2.1+List.length zs) (8:Nat)∧eN (Pi x) i [.str x,Bd [],sgs i.1,srd x_4.1 (gBl (xh x_4) x_4.2.2.2.2.2.1 x_4.2.2.2.2.2.2),Ab (i.2.2.2.2.2.1++zs)])) (cA Bn [.box 0 [sgs i.1,.int .i64 (iF i.2).pos,.bool (iF i.2).bad,.int .i64 (iF i.2).deep,Bd (iF i.2).nodes],.int .i64 (22:Int),.str #[].toList,Ab i.2.2.2.2.2.1] fun x_2 y=>Aa (As (xh x_2) {kind:=x_2.2.2.2.2.2.1,text:=x_2.2.2.2.2.2.2.1,kids:=x_2.2.2.2.2.2.2.2,blank:=false}).bad (Aa (decide ((As (xh x_2) {kind:=x_2.2.2.2.2.2.1,text:=x_2.2.2.2.2.2.2.1,kids:=x_2.2.2.2.2.2.2.2,blank:=false}).pos<(↑(List.length i.1):Int))) (true=true∧true=true∧((0:Int)≤(As (xh x_2) {kind:=x_2.2.2.2.2.2.1,text:=x_2.2.2.2.2.2.2.1,kids:=x_2.2.2.2.2.2.2.2,blank:=false}).pos∧(As (xh x_2) {kind:=x_2.2.2.2.2.2.1,text:=x_2.2.2.2.2.2.2.1,kids:=x_2.2.2.2.2.2.2.2,blank:=false}).pos<(↑(List.length i.1):Int))∧∀(e:Sg),i.1[Int.toNat (As (xh x_2) {kind:=x_2.2.2.2.2.2.1,text:=x_2.2.2.2.2.2.2.1,kids:=x_2.2.2.2.2.2.2.2,blank:=false}).pos]? =some e→rA DG x [.tup [Bd [],.int .i64 e.pos,.bool false],.top]) (rA DG x [.tup [Bd [],.int .i64 (↑(List.length x):Int),.bool false],.top])) (cA Gf [Bd (As (xh x_2) {kind:=x_2.2.2.2.2.2.1,text:=x_2.2.2.2.2.2.2.1,kids:=x_2.2.2.2.2.2.2.2,blank:=false}).nodes] fun x_3 y=>Aa (!BO x_3) (rA DG x [.tup [Bd [],.int .i64 (0:Int),.bool false],.top]) (rA DG x [.tup [Bd (As (xh x_2) {kind:=x_2.2.2.2.2.2.1,text:=x_2.2.2.2.2.2.2.1,kids:=x_2.2.2.2.2.2.2.2,blank:=false}).nodes,.int .i64 (0:Int),.bool true],.top])))) (cA Bn [.box 0 [sgs i.1,.int .i64 (iF i.2).pos,.bool (iF i.2).bad,.int .i64 (iF i.2).deep,Bd (iF i.2).nodes],.int .i64 (22:Int),.str #[].toList,Ab i.2.2.2.2.2.1] fun x_2 y=>Aa (As (xh x_2) {kind:=x_2.2.2.2.2.2.1,text:=x_2.2.2.2.2.2.2.1,kids:=x_2.2.2.2.2.2.2.2,blank:=false}).bad (Aa (decide ((As (xh x_2) {kind:=x_2.2.2.2.2.2.1,text:=x_2.2.2.2.2.2.2.1,kids:=x_2.2.2.2.2.2.2.2,blank:=false}).pos<(↑(List.length i.1):Int))) (true=true∧true=true∧((0:Int)≤(As (xh x_2) {kind:=x_2.2.2.2.2.2.1,text:=x_2.2.2.2.2.2.2.1,kids:=x_2.2.2.2.2.2.2.2,blank:=false}).pos∧(As (xh x_2) {kind:=x_2.2.2.2.2.2.1,text:=x_2.2.2.2.2.2.2.1,kids:=x_2.2.2.2.2.2.2.2,blank:=false}).pos<(↑(List.length i.1):Int))∧∀(e:Sg),i.1[Int.toNat (As (xh x_2) {kind:=x_2.2.2.2.2.2.1,text:=x_2.2.2.2.2.2.2.1,kids:=x_2.2.2.2.2.2.2.2,blank:=false}).pos]? =some e→rA DG x [.tup [Bd [],.int .i64 e.pos,.bool false],.top]) (rA DG x [.tup [Bd [],.int .i64 (↑(List.length x):Int),.bool false],.top])) (cA Gf [Bd (As (xh x_2) {kind:=x_2.2.2.2.2.2.1,text:=x_2.2.2.2.2.2.2.1,kids:=x_2.2.2.2.2.2.2.2,blank:=false}).nodes] fun x_3 y=>Aa (!BO x_3) (rA DG x [.tup [Bd [],.int .i64 (0:Int),.bool false],.top]) (rA DG x [.tup [Bd (As (xh x_2) {kind:=x_2.2.2.2.2.2.1,text:=x_2.2.2.2.2.2.2.1,kids:=x_2.2.2.2.2.2.2.2,blank:=false}).nodes,.int .i64 (0:Int),.bool true],.top]))))) (fun x=>by kernel_rfl) fun(x:List UInt8) (hx:x.length<2^62)=>(by
 dsimp only[cA,eA,eN,Pi,Bx,nds,Ab,Bd,Ad,rA,FS,Ei,HR,Bn,DG,Gt,Gf,Bv,sgs,srd,Aw,AR,mvL,lnL,mvE,lnE,Br]
 have hx:x.length<2^62:=hx
 (repeat' first|(apply b3U<;>try dsimp only)|(apply b3T<;>try dsimp only)|(apply b3S<;>try dsimp only)|(with_reducible first|rfl|exact True.intro|apply AM|apply And.intro|((first|apply AC|apply AK|apply AD|apply AL)<;>intro _))|(apply AB<;>intro _)|apply AJ|refine Ag () ?_ ?_|((first|apply AQ|apply AP|apply AO|apply AN|apply AI|apply AH|apply AG|apply AF|apply AE)<;>try dsimp only)|apply Ag|(refine Prod.forall.2 ?_;intro _;try dsimp only)|(intro _;try dsimp only))
 all_goals(try dsimp only[xg,xh,yG,yS,iG,iF] at*)
 all_goals(try simp only[Gk] at*)
 all_goals first
  |(show Nat;skip)
  |(show List (Int×Int);skip)
  |rfl
  |exact hx
  |exact b3Q ‹_› ‹_›
  |(rw[a2v ‹_›];rfl)
  |(rw[a2v ‹_›];exact Nr)
  |exact(RR ‹_› ‹_› ‹_› ‹_› (Ke ‹_›)).1
  |exact(RR ‹_› ‹_› ‹_› ‹_› (Kf ‹_›)).1
  |exact Wg (s:=⟨_,0,[]⟩) ‹_›
  |exact(EA (Wg (s:=⟨_,0,[]⟩) ‹_›)).1
  |exact Fi (EA (Wg (s:=⟨_,0,[]⟩) ‹_›)).1 ‹_›
  |exact Nl VU ‹_›
  |exact Nl VU ‹_› ‹_›
  |assumption
  |omega
  |exact(Ph ‹_›).1
  |exact(Ph ‹_›).2.1
  |(rw[RU ‹_› (Np ‹_›) ‹_›];rfl)
  |(rw[RU ‹_› (Np ‹_›) ‹_›];exact Nr)
  |(rw[(Kk ‹_› (Np ‹_›) ‹_›).1 ‹_›];rfl)
  |(rw[(Kk ‹_› (Np ‹_›) ‹_›).2 ‹_›];rfl)
  |(rw[(Kk ‹_› (Np ‹_›) ‹_›).1 ‹_›];exact Nr)
  |(rw[(Kk ‹_› (Np ‹_›) ‹_›).2 ‹_›];exact(Ph ‹_›).1)
  |(rw[RU ‹_› (Nq ‹_›) ‹_›];rfl)
  |(rw[RU ‹_› (Nq ‹_›) ‹_›];exact Nr)
  |(rw[(Kk ‹_› (Nq ‹_›) ‹_›).1 ‹_›];rfl)
  |(rw[(Kk ‹_› (Nq ‹_›) ‹_›).2 ‹_›];rfl)
  |(rw[(Kk ‹_› (Nq ‹_›) ‹_›).1 ‹_›];exact Nr)
  |(rw[(Kk ‹_› (Nq ‹_›) ‹_›).2 ‹_›];exact(Ph ‹_›).1)
  |(have hq:=(Ph (show frI _ _ _ _ _ _ by assumption)).2.2;omega)
  |exact Nr
  |(simp [Ba];done)
  |(have hq:=b3R (show frI _ _ _ _ _ _ by assumption);(try simp only[Ba,List.length_append,List.length_cons,List.length_nil]);omega)
  |skip
 all_goals first
  |exact(RR ‹_› ‹_› ‹_› ‹_› (Ke ‹_›)).2
  |exact(RR ‹_› ‹_› ‹_› ‹_› (Kf ‹_›)).2
  |rfl
  |skip)
end Go.My
end
