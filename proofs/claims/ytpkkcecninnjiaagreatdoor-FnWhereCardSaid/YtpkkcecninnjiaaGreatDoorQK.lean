/- joined -/
import Derived.Test.YtpkkcecninnjiaaGreatDoorQJ
import Derived.Lib.Repeat
import Derived.Lib.Join
import Derived.Test.YtpkkcecninnjiaaGreatDoorProg
import Derived.ProofKit
set_option linter.unusedSimpArgs false
set_option linter.unusedVariables false
section
namespace Go.My
open Go.Eng
variable {b s t:Aa}{j:Nat}{ns:List Nd}{q q':List Gp}{sp:Bool}{v v':List Sg}{w:List KT}{x:Nd}
theorem YD{i:Int}(h:LX s w):LX (blk i++s) w:=by
 unfold blk
 induction i.toNat with
 |zero=>exact h
 |succ n ih=>rw[List.replicate_succ,EW];exact DM (.inl rfl) ih
theorem Sz{nl:Aa}:∀ {q q':List Gp} {t:Aa} {j:Nat},Ren nl (q++q') t j→∃t1 t2 j1 j2,t=t1++t2∧Ren nl q t1 j1∧Ren nl q' t2 j2
 |[],q',t,j,h=>⟨[],t,0,j,rfl,.nil,h⟩
 |x::q,q',t,j,h=>by
  rw[EW] at h
  cases h with
  | @put b _ u _ h=>
    obtain⟨t1,t2,j1,j2,rfl,h1,h2⟩:=Sz h
    exact⟨b++t1,t2,j1,j2,by simp,.put h1,h2⟩
  | @flat sp _ u _ h=>
    obtain⟨t1,t2,j1,j2,rfl,h1,h2⟩:=Sz h
    exact⟨fsp sp++t1,t2,j1,j2,by simp,.flat h1,h2⟩
  | @brk sp n _ u _ h=>
    obtain⟨t1,t2,j1,j2,rfl,h1,h2⟩:=Sz h
    exact⟨nl++(blk n++t1),t2,j1+1,j2,by simp,.brk h1,h2⟩
theorem Oh{nl:Aa}(h:Ren nl [] t j):t=[]:=by cases h;rfl
theorem YE{nl:Aa}(h:Ren nl (.t b::q) t j):∃u i,t=b++u∧Ren nl q u i:=by
 cases h with| @put _ _ u _ h=>exact⟨u,_,rfl,h⟩
theorem a4x(h:Ren [10] (.g sp::q) t j):∃u i,(t=fsp sp++u∨∃n,t=10::(blk n++u))∧Ren [10] q u i:=by
 cases h with
 | @flat _ _ u _ h=>exact⟨u,_,.inl rfl,h⟩
 | @brk _ n _ u _ h=>exact⟨u,_,.inr ⟨n,rfl⟩,h⟩
theorem b2C(h:LX s w):LX (fsp sp++s) w:=by
 cases sp with
 |true=>exact DM (.inl rfl) h
 |false=>exact h
def RA(q:List Gp)(v:List Sg):Prop:=∀t j s w,Ren [10] q t j→LX s w→LX (t++s) (v.map kt++w)
def RL(q:List Gp)(v:List Sg):Prop:=∀t j s w,Ren [10] q t j→Nx s→LX s w→LX (t++s) (v.map kt++w)
def HX(q:List Gp):Prop:=∀t j s,Ren [10] q t j→Nx s→Nx (t++s)
theorem LB(h:RA q v):RL q v:=fun t j s w hr _ hl=>h t j s w hr hl
theorem Oi(h:RA q v)(h':RA q' v'):RA (q++q') (v++v'):=fun t j s w hr hl=>by
 obtain⟨t1,t2,j1,j2,rfl,h1,h2⟩:=Sz hr
 rw[Bz,FJ,Bz]
 exact h _ _ _ _ h1 (h' _ _ _ _ h2 hl)
theorem Oj(h:RA q v)(h':RL q' v'):RL (q++q') (v++v'):=fun t j s w hr hs hl=>by
 obtain⟨t1,t2,j1,j2,rfl,h1,h2⟩:=Sz hr
 rw[Bz,FJ,Bz]
 exact h _ _ _ _ h1 (h' _ _ _ _ h2 hs hl)
theorem Jh(h:RL q v)(hx:HX q')(h':RL q' v'):RL (q++q') (v++v'):=fun t j s w hr hs hl=>by
 obtain⟨t1,t2,j1,j2,rfl,h1,h2⟩:=Sz hr
 rw[Bz,FJ,Bz]
 exact h _ _ _ _ h1 (hx _ _ _ h2 hs) (h' _ _ _ _ h2 hs hl)
theorem YF:HX []:=fun t j s hr hs=>by rw[Oh hr];exact hs
theorem JY{b:UInt8}{r:Aa}(h:BA b=false):HX (.t (b::r)::q):=fun t j s hr hs=>by
 obtain⟨u,i,rfl,_⟩:=YE hr
 exact FZ h
theorem YG(h:HX q):HX (.g sp::q):=fun t j s hr hs=>by
 obtain⟨u,i,rfl|⟨n,rfl⟩,h1⟩:=a4x hr
 ·cases sp with
  |true=>exact FZ (by decide)
  |false=>exact h _ _ _ h1 hs
 ·exact FZ (by decide)
theorem SA:RA [] []:=fun t j s w hr hl=>by rw[Oh hr];exact hl
theorem PI:RA [.g sp] []:=fun t j s w hr hl=>by
 obtain⟨u,i,rfl|⟨n,rfl⟩,h1⟩:=a4x hr
 ·rw[Oh h1,GE];exact b2C hl
 ·rw[Oh h1,GE];exact DM (.inr rfl) (YD hl)
theorem PJ(h:∀s w,LX s w→LX (b++s) (v.map kt++w)):RA [.t b] v:=fun t j s w hr hl=>by
 obtain⟨u,i,rfl,h1⟩:=YE hr
 rw[Oh h1,GE];exact h _ _ hl
theorem YH(h:∀s w,Nx s→LX s w→LX (b++s) (v.map kt++w)):RL [.t b] v:=fun t j s w hr hs hl=>by
 obtain⟨u,i,rfl,h1⟩:=YE hr
 rw[Oh h1,GE];exact h _ _ hs hl
theorem PK{b:UInt8}(hb:b∈MH):RA [.t [b]] [mkS [b]]:=PJ fun s w h=>FE hb h
theorem a4y{b:UInt8}(hb:b∈MH):BA b=false:=(b1B hb).1
section
variable {q:Int→List Gp} {f:Int→List Sg}
theorem b2D{l:Ad}:HX (qL q l false):=by
 cases l with
 |nil=>exact YF
 |cons c l=>exact JY (by decide)
theorem b2E:∀ {l:Ad},(∀c∈l,RL (q c) (f c))→RL (qL q l false) (l.flatMap fun d=>mkS [44]::f d)
 |[],_=>LB SA
 |c::l,h=>by
  rw[qL,GV]
  have h1:=Jh (h c (by simp)) b2D (b2E (l:=l) fun d hd=>h d (by simp [hd]))
  exact Oj (v:=[mkS [44]]) (Oi (q:=[.t [44]]) (v':=[]) (PK (by decide)) PI) h1
theorem c7e:∀ {l:Ad},(∀c∈l,RL (q c) (f c))→RL (qL q l true) (BH f [44] l)
 |[],_=>LB SA
 |c::l,h=>by
  rw[qL,BH]
  show RL (q c++qL q l false) _
  exact Jh (h c (by simp)) b2D (b2E (l:=l) fun d hd=>h d (by simp [hd]))
theorem b2F{op en:UInt8}(ho:op∈MH)(he:en∈MH){l:Ad}(h:∀c∈l,RL (q c) (f c)):RL (Og q [op] l [en]) ([mkS [op]]++(BH f [44] l++[mkS [en]])):=by
 unfold Og
 split
 ·rename_i e
  subst e
  exact LB (Oi (q:=[.t [op]]) (PK ho) (PK he))
 ·refine Oj (Oi (q:=[.t [op]]) (v:=[mkS [op]]) (v':=[]) (PK ho) PI) ?_
  refine Jh (c7e h) (YG (JY (a4y he))) ?_
  exact LB (Oi (q:=[.g false]) (v:=[]) PI (PK he))
theorem c7f{op en:UInt8}(ho:op∈MH){l:Ad}:HX (Og q [op] l [en]):=by
 unfold Og
 split
 ·exact JY (a4y ho)
 ·exact JY (a4y ho)
theorem b2G{t:Aa}{l:Ad}:HX (qCh q t l false):=by
 cases l with
 |nil=>exact YF
 |cons c l=>exact JY (by decide)
theorem c7g{t:Aa}(ht:HV t=true):RA [.t (32::t)] [mkS t]:=PJ fun s w h=>DM (.inl rfl) (c5P ht h)
theorem b2H{t:Aa}(ht:HV t=true):∀ {l:Ad},(∀c∈l,RL (q c) (f c))→RL (qCh q t l false) (l.flatMap fun d=>mkS t::f d)
 |[],_=>LB SA
 |c::l,h=>by
  rw[qCh,GV]
  have h1:=Jh (h c (by simp)) b2G (b2H ht (l:=l) fun d hd=>h d (by simp [hd]))
  exact Oj (v:=[mkS t]) (Oi (q:=[.t (32::t)]) (v':=[]) (c7g ht) PI) h1
theorem c7h{t:Aa}(ht:HV t=true):∀ {l:Ad},(∀c∈l,RL (q c) (f c))→RL (qCh q t l true) (BH f t l)
 |[],_=>LB SA
 |c::l,h=>by
  rw[qCh,BH]
  show RL (q c++qCh q t l false) _
  exact Jh (h c (by simp)) b2G (b2H ht (l:=l) fun d hd=>h d (by simp [hd]))
theorem b2I{l:Ad}:HX (qCa q l):=by
 cases l with
 |nil=>exact YF
 |cons c l=>exact YG (JY (by decide))
theorem b2J:∀ {l:Ad},(∀c∈l,RL (q c) (f c))→RL (qCa q l) (l.flatMap fun d=>mkS [46,46]::f d)
 |[],_=>LB SA
 |c::l,h=>by
  rw[qCa,GV]
  have h1:=Jh (h c (by simp)) b2I (b2J (l:=l) fun d hd=>h d (by simp [hd]))
  exact Oj (v:=[mkS [46,46]]) (Oi (q:=[.g false]) (v:=[]) PI (PJ fun s w h=>UR (by decide) h)) h1
theorem b2K{b:UInt8}{c:Int}{q':List Gp}{v':List Sg}(hb:b∈MH)(hc:RL (q c) (f c))(hx:HX q')(h':RL q' v'):RL ([.g true,.t [b,32]]++(q c++q')) ([mkS [b]]++(f c++v')):=
 Oj (Oi (q:=[.g true]) (v:=[]) PI (PJ fun s w h=>FE hb (DM (.inl rfl) h))) (Jh hc hx h')
theorem c7i{a b c:Int}(ha:RL (q a) (f a))(hb:RL (q b) (f b))(hc:RL (q c) (f c)):RL (qPk q [a,b,c] 0) (f a++([mkS [63]]++(f b++([mkS [58]]++(f c++[]))))):=by
 have h3:=b2K (q:=q) (f:=f) (b:=58) (q':=[]) (v':=[]) (by decide) hc YF (LB SA)
 have h2:=b2K (q:=q) (f:=f) (b:=63) (by decide) hb (YG (JY (b:=58) (by decide))) h3
 show RL (q a++([.g true,.t [63,32]]++(q b++([.g true,.t [58,32]]++(q c++[]))))) _
 exact Jh ha (YG (JY (b:=63) (by decide))) h2
end
theorem b2L{l:Ad}(hs:Nx s):Nx (Fg ns l false++s):=by
 cases l with
 |nil=>exact hs
 |cons c l=>exact FZ (by decide)
theorem b2M{ns:List Nd}{f:Int→List Sg}{s:Aa}{w:List KT}(hs:Nx s)(h:LX s w):∀ {l:Ad},(∀c∈l,DK (Ab ns c).text=true∧f c=[wdS (Ab ns c).text])→LX (Fg ns l false++s) ((l.flatMap fun d=>mkS [44]::f d).map kt++w)
 |[],_=>h
 |c::l,hl=>by
  have h1:=b2M (f:=f) hs h (l:=l) fun d hd=>hl d (by simp [hd])
  obtain⟨h2,h3⟩:=hl c (by simp)
  rw[Fg,GV,h3]
  have h4:=FE (b:=44) (by decide) (DM (.inl rfl) (MI h2 (b2L hs) h1))
  simpa [kt,mkS,wdS,sg0,Bz] using h4
theorem b2N{f:Int→List Sg}(hs:Nx s)(h:LX s w):∀ {l:Ad},(∀c∈l,DK (Ab ns c).text=true∧f c=[wdS (Ab ns c).text])→LX (Fg ns l true++s) ((BH f [44] l).map kt++w)
 |[],_=>h
 |c::l,hl=>by
  have h1:=b2M (f:=f) hs h (l:=l) fun d hd=>hl d (by simp [hd])
  obtain⟨h2,h3⟩:=hl c (by simp)
  rw[Fg,BH,h3]
  have h4:=MI h2 (b2L hs) h1
  simpa [kt,mkS,wdS,sg0,Bz] using h4
theorem YI{k:Int}(h:BB ns k):Fz (Ab ns k).kind (Ab ns k).text=true:=(CU (DE h)).2.2.1
theorem a4z{ns:List Nd}{k:Int}(h:BB ns k)(hk:(Ab ns k).kind=1∨(Ab ns k).kind=6∨(Ab ns k).kind=12∨(Ab ns k).kind=13∨(Ab ns k).kind=20∨(Ab ns k).kind=21):DK (Ab ns k).text=true:=by
 have:=YI h
 rw[Fz,if_pos hk] at this;exact this
theorem b2O(hu:KH ns){l:Ad}(hl:∀c∈l,(0≤c∧c<ns.length)∧Ai ns c=1):∀c∈l,DK (Ab ns c).text=true∧FL ns c=[wdS (Ab ns c).text]:=fun c hc=>by
 obtain⟨⟨h1,h2⟩,h3⟩:=hl c hc
 have up:=MF hu h1 h2
 refine⟨a4z up (.inl h3),?_⟩
 rw[UP hu h1 h2,Bv,if_pos (show(Ab ns c).kind=1 from h3)]
theorem c7j{p:Int→Bool}(h:JJ p (x.kids.map (Ai ns))=true):∀c∈x.kids.take (x.kids.length-1),Ai ns c=1:=fun c hc=>by
 unfold JJ at h
 split at h
 ·rw[AY,CC] at h
  have h2:Ai ns c∈(x.kids.map (Ai ns)).dropLast:=by
   rw[List.dropLast_eq_take,Fv,←List.map_take]
   exact Iu.2 ⟨c,hc,rfl⟩
  simpa [JI] using h.2 _ h2
 ·cases h
theorem b2P(h:0<x.kids.length):x.kids=kd x 0::x.kids.drop 1:=by
 match hx:x.kids with
 |[]=>rw[hx] at h;simp at h
 |c::l=>simp [kd,hx]
theorem b2Q(h:x.kids.length=3):x.kids=[kd x 0,kd x 1,kd x 2]:=by
 match hx:x.kids with
 |[]=>rw[hx] at h;simp at h
 |[_]=>rw[hx] at h;simp at h
 |[_,_]=>rw[hx] at h;simp at h
 |[a,b,c]=>simp [kd,hx]
 |_::_::_::_::_=>rw[hx] at h;simp at h
theorem c7k{f:Int→List Sg}{l:Aa}(hc:∀c∈x.kids.take (x.kids.length-1),DK (Ab ns c).text=true∧f c=[wdS (Ab ns c).text])(hl:∀s w,LX s w→LX (41::(l++s)) (v.map kt++w)):∀s w,LX s w→LX (ET ns x++l++s) (([mkS [40]]++(BH f [44] (x.kids.take (x.kids.length-1))++v)).map kt++w):=fun s w h=>by
 have h3:=FE (b:=40) (by decide) (b2N (FZ (by decide)) (hl s w h) hc)
 simpa [ET,kt,mkS,wdS,sg0,Bz] using h3
theorem b2R{ns:List Nd}(hu:KH ns):∀(n:Nat) {k:Int},0≤k→k<ns.length→k<n→Bg (Ai ns k)=true→RL (qV ns n k) (FL ns k)
 |0,k,h0,hk,hn,_=>by omega
 |n+1,k,h0,hk,hn,hv=>by
  have up:=MF hu h0 hk
  have sh:=(GN up).2
  have hkd:=(CU (DE up)).2.2.2.1
  have hko:=(CU (DE up)).2.2.2.2.2.1
  have hvs:=b1J hko hv
  have ih:∀c∈(Ab ns k).kids,RL (qV ns n c) (FL ns c):=fun c hc=>by
   have:=hkd c hc
   exact b2R hu n this.1 (by omega) (by omega) (hvs c hc)
  have ih0:∀i,i<(Ab ns k).kids.length→RL (qV ns n (kd (Ab ns k) i)) (FL ns (kd (Ab ns k) i)):=fun i hi=>ih _ (DN hi)
  have ihd:∀c∈(Ab ns k).kids.drop 1,RL (qV ns n c) (FL ns c):=fun c hc=>ih c (Iw hc)
  have htx:=YI up
  have hnm:= @a4z ns k up
  have hkn:∀c∈(Ab ns k).kids,(0≤c∧c<ns.length):=fun c hc=>by have:=hkd c hc;omega
  have hv:=Cm.1 hv
  unfold Ai at hv
  rw[UP hu h0 hk,qV]
  generalize Ab ns k=x at*
  have hc:x.kind=1∨x.kind=2∨x.kind=3∨x.kind=4∨x.kind=5∨x.kind=6∨x.kind=7∨x.kind=8∨x.kind=9∨x.kind=10∨x.kind=11:=by omega
  rcases hc with e|e|e|e|e|e|e|e|e|e|e<;>rw[e] at sh htx hko<;>simp only[qV1,Bv,e,Int.reduceEq,or_false,false_or,or_true,true_or,or_self,BN,Br]
  ·exact YH fun s w hs h=>MI (hnm (.inl e)) hs h
  ·exact YH fun s w hs h=>MG (c5J htx hs) h
  ·exact YH fun s w hs h=>MG (c5K htx) h
  ·have:=b2F (q:=qV ns n) (f:=FL ns) (op:=91) (en:=93) (by decide) (by decide) ih
   rw[←Bz] at this;exact this
  ·have h1:1≤x.kids.length:=by have:(Ci 5).1=1:=rfl;omega
   have:=Jh (ih0 0 (by omega)) (c7f (by decide)) (b2F (q:=qV ns n) (f:=FL ns) (op:=40) (en:=41) (by decide) (by decide) ihd)
   rw[←Bz,←Bz] at this;exact this
  ·have h1:1≤x.kids.length:=by have:(Ci 6).1=1:=rfl;omega
   have hn:=hnm (.inr (.inl e))
   have:=Jh (ih0 0 (by omega)) (q':=[.t (46::x.text)]) (v':=[mkS [46],wdS x.text]) (JY (by decide)) (YH fun s w hs h=>c5O (c5Q hn) (MI hn hs h))
   rw[Bz];exact this
  ·exact c7h htx ih
  ·have h1:x.kids.length=3:=by have:Ci 8=(3,3):=rfl;rw[this] at sh;omega
   have e3:=b2Q h1
   have:=c7i (q:=qV ns n) (f:=FL ns) (ih0 0 (by omega)) (ih0 1 (by omega)) (ih0 2 (by omega))
   rw[←e3] at this
   rw[GE,←Bz,←Bz,←Bz] at this
   exact this
  ·have h1:1≤x.kids.length:=by have:(Ci 9).1=1:=rfl;omega
   have hp:=b2O hu (l:=x.kids.take (x.kids.length-1)) fun c hc=>⟨hkn c (GX hc),c7j (p:=Bg) hko c hc⟩
   have ha:=PJ (c7k (l:=[32,61,62]) (v:=[mkS [41],mkS [61,62]]) hp fun s w h=>FE (b:=41) (by decide) (DM (.inl rfl) (UR (b:=61) (c:=62) (by decide) h)))
   have:=Oj (Oi (q':=[.g true]) (v':=[]) ha PI) (ih0 (x.kids.length-1) (by omega))
   rw[GE,←Bz] at this
   exact this
  ·have h1:2≤x.kids.length:=by have:(Ci 10).1=2:=rfl;omega
   have:=Jh (ih0 0 (by omega)) b2I (b2J (q:=qV ns n) (f:=FL ns) ihd)
   have e2:=b2P (x:=x) (by omega)
   have e3:BH (FL ns) [46,46] x.kids=FL ns (kd x 0)++(x.kids.drop 1).flatMap fun d=>mkS [46,46]::FL ns d:=by
    conv=>lhs;rw[e2]
    rfl
   rw[e3];exact this
  ·have h1:1≤x.kids.length:=by have:(Ci 11).1=1:=rfl;omega
   have:=Oj (PK (b:=40) (by decide)) (Jh (ih0 0 (by omega)) (JY (r:=[]) (q:=[]) (b:=41) (by decide)) (LB (PK (b:=41) (by decide))))
   rw[←Bz] at this;exact this
end Go.My
end
section
end
section
namespace Go.Eng
def Old(w:World):FP:=fun b=>w.heap.size≤b
def MM(P:Program)(t:TypeId){α:Type}(f:α→List AV)(good:α→Prop):Prop:=
 ∀ {H:Type} (enc:TypeId×Value→H) (w:World) (spare:Nat→Bool) (held:Bool) (fuel:Nat) (cs:List Value) (y:DataW H×List MemPlace),
   DataW.trod enc P w 0 spare held fuel t cs=some y→∃x:α,good x∧AU (Old w) w (f x) cs (fun _=>False)
theorem YJ{Z:FP}{w:World}{a:AV}{v:Value}:AU Z w [a] [v] (fun _=>False)↔Aj Z w a v (fun _=>False):=by
 simp only[AU]
 constructor
 ·rintro⟨u,cs',A,B,e,hj,h1,h2,h3⟩
  simp only[HQ] at e
  obtain⟨rfl,rfl⟩:=e
  have:=(Jv hj AI).1
  rwa [Fx this] at h1
 ·intro h
  exact⟨v,[],fun _=>False,fun _=>False,rfl,Cu _,h,rfl,AI⟩
theorem c7l{Z:FP}{w:World}{a:AV}{azs:List AV}{v:Value}{vs:List Value}(h1:Aj Z w a v (fun _=>False))(h2:AU Z w azs vs (fun _=>False)):
 AU Z w (a::azs) (v::vs) (fun _=>False):=by
 simp only[AU]
 exact⟨v,vs,_,_,rfl,Cu _,h1,h2⟩
theorem c7m{k:IntKind}{n:Int}(h:(Lit.int k n).wf=true):inR k n:=by
 unfold inR
 simpa [Lit.wf] using h
theorem c7n{P:Program}{t:TypeId}{k:IntKind}(ht:P.underlying t=some (.int k)):MM P t (fun n:Int=>[.int k n]) (fun n=>inR k n):=by
 intro H enc w spare held fuel cs y h
 obtain⟨n,rfl,_,hw⟩:=DataW.trod_int ht h
 exact⟨n,c7m hw,YJ.2 (by simp [Aj,emp])⟩
theorem b2S{α:Type}{p:Nat→α→Prop}:∀n,(∀i,i<n→∃x,p i x)→∃l:List α,l.length=n∧∀i x,l[i]? =some x→p i x
 |0,_=>⟨[],rfl,fun i x h=>by simp at h⟩
 |n+1,h=>by
  obtain⟨l,hl,hp⟩:=b2S n fun i hi=>h i (by omega)
  obtain⟨x,hx⟩:=h n (by omega)
  refine⟨l++[x],by simp [hl],fun i y hy=> ?_⟩
  by_cases hi:i<l.length
  ·rw[Le hi] at hy;exact hp i y hy
  ·rw[LQ (by omega)] at hy
   have:i-l.length=0:=by
    rcases Tj (i-l.length) with h|h
    ·exact h
    ·rw[Gi (by simp;omega)] at hy;cases hy
   rw[this] at hy;simp at hy;subst hy
   rwa [show i=n by omega]
theorem b2T{α:Type}{sz:Nat}{R:α→List Value→FP→Prop}:∀(xs:List α) (arr:List Value),
 (∀(i:Nat) (x:α),xs[i]? =some x→((arr.drop (i*sz)).take sz).length=sz∧R x ((arr.drop (i*sz)).take sz) (fun _=>False))→Rows sz R xs arr (fun _=>False)
 |[],arr,h=>AI
 |x::xs,arr,h=>by
  have h0:=h 0 x rfl
  simp only[OC,GU] at h0
  refine⟨_,_,Cu _,h0.1,h0.2,b2T xs (arr.drop sz) fun i y hy=> ?_⟩
  have:=h (i+1) y (by simpa using hy)
  rwa [Hs,Nat.add_comm,←Dv] at this
theorem c7o{P:Program}{t e:TypeId}{sz:Nat}{α:Type}{f:α→List AV}{good:α→Prop}(ht:P.underlying t=some (.slice e))(hc:P.cellsOf e=sz)(hpos:0<sz)
 (ho:MM P e f good):MM P t (fun l:List α=>[.sl false 0 sz α f l]) (fun l=>l.length<2^63∧∀x∈l,good x):=by
 intro H enc w spare held fuel cs y h
 rcases DataW.trod_slice ht h with⟨rfl,_⟩|⟨a,len,cap,elems,rest,n,_,rfl,_,hb,hl,hm,hlen,hel,_,_⟩
 ·refine⟨[],⟨by simp,by simp⟩,YJ.2 ?_⟩
  simp only[Aj]
  exact⟨none,0,0,rfl,rfl,Bu _,.inr ⟨trivial,AI,.inl trivial⟩⟩
 ·have each:∀i,i<len→∃x:α,good x∧∃cs,w.cells? 0 (a.add (i*sz)) sz=some cs∧AU (Old w) w (f x) cs (fun _=>False):=by
   intro i hi
   have h1:=hel i hi
   rw[hc] at h1
   rw[DS (by omega:i<elems.length),BP] at h1
   obtain⟨cs,h2,h3⟩:=h1
   obtain⟨x,hg,hr⟩:=ho enc w spare held n cs _ h3
   exact⟨x,hg,cs,h2,hr⟩
  obtain⟨l,hll,hp⟩:=b2S len each
  refine⟨l,⟨?_,?_⟩,YJ.2 ?_⟩
  ·unfold maxLen at hm;omega
  ·intro x hx
   obtain⟨i,hi⟩:=List.getElem?_of_mem hx
   exact(hp i x hi).1
  ·simp only[Aj]
   refine⟨some a,len,cap,rfl,hll.symm,hl,.inr ⟨trivial,AI,?_⟩⟩
   rcases Tj len with h0|h0
   ·exact .inl (Hq.1 (by omega))
   ·refine .inr ?_
    obtain⟨x0,_,c0,hc0,_⟩:=each 0 h0
    have h00:=(World.cells?_some hc0).2.2 0 hpos
    have hcl:=(World.cells?_some hc0).2.1
    simp only[OC,Addr.add] at h00
    obtain⟨b,off,sp⟩:=a
    simp only[World.cell?,BN] at h00
    split at h00
    ·rename_i arr ty fr harr
     split at h00
     ·rw[DS (by omega)] at h00;cases h00
     ·rename_i hsp
      have hsp:sp=none:=by simpa using hsp
      subst hsp
      have hlt:b<w.heap.size:=by
       rcases Ju b w.heap.size with h|h
       ·exact h
       ·rw[Te h] at harr;cases harr
      refine⟨b,off,arr,ty,fr,rfl,by unfold Old;omega,harr,b2T l _ fun i x hx=> ?_⟩
      have hi:i<l.length:=(DT.1 hx).1
      obtain⟨hg,cs,hcs,hr⟩:=hp i x hx
      obtain⟨_,hcl,hce⟩:=World.cells?_some hcs
      have e:((arr.toList.drop off).drop (i*sz)).take sz=cs:=by
       refine LP fun j=> ?_
       rw[List.getElem?_take]
       split
       ·rename_i hj
        have:=hce j hj
        rw[←this]
        simp only[It,Fi]
        have ea:((⟨b,off,none⟩:Addr).add (i*sz)).add j=⟨b,off+i*sz+j,none⟩:=by
         unfold Addr.add
         by_cases h1:i*sz=0<;>by_cases h2:j=0<;>simp [h1,h2]
        rw[ea]
        simp only[World.cell?,harr]
        simp [QA]
       ·rw[Gi (by omega)]
      rw[e]
      exact⟨hcl,hr⟩
    ·rw[DS (by omega)] at h00;cases h00
end Go.Eng
end
section
namespace Go.My
open Go.Eng Go.Proofs Go.RowKit
variable {G:GInv}
theorem after_below{Z A:FP}{w w':World}(h:Below w.heap.size w w'):After Z w A Z w' (fun _=>False):=
 ⟨h.os,h.tape,h.output,h.size,fun b hb _=>⟨h.block b hb,Cg⟩,fun _ h=>h.elim⟩
theorem PM{p:Pc}{v:Ad}{i:Int}{c:Ch}{b:Bool}(hc:p.chunks[i.toNat]? =some c)(hs:CZ v (Fb p i)=b):CZ v c=b:=by rw[←hs,Sq hc]
attribute [local irreducible] rnI EC rnL CZ blk
end Go.My
end
section
namespace Go.My
open Go.Eng Go.Proofs
variable {G:GInv}
variable {i n:Int}{p:Pc}{v:Ad}
theorem c7p{l m:Ad}:(l++m).sum=l.sum+m.sum:=by simp
def Ji{α:Type}(f:α→Int)(l:List α)(i:Int):Int:=((l.take i.toNat).map f).sum
theorem b2U{α:Type}{f:α→Int}{l:List α}:Ji f l 0=0:=by simp [Ji]
theorem a4A{α:Type}{f:α→Int}{l:List α}{e:α}(h0:0≤i)(he:l[i.toNat]? =some e):Ji f l (i+1)=Ji f l i+f e:=by
 rw[Ji,CW h0,FS he,FJ,c7p,Ji];simp
theorem b2V{α:Type}{f:α→Int}{l:List α}(h:¬i<l.length):Ji f l i=(l.map f).sum:=by rw[Ji,EH (by omega)]
theorem b2W{α:Type}{f:α→Int}{b:Int}{l:List α}(hb:0≤b)(h:∀x∈l,0≤f x∧f x≤b):0≤Ji f l i∧Ji f l i≤l.length*b:=by
 have h1:=UV (l:=l.take i.toNat) (f:=f) (b:=b) fun x hx=>h x (GX hx)
 have h2:(l.take i.toNat).length≤l.length:=by rw[DU];omega
 have h3:(((l.take i.toNat).length:Nat):Int)*b≤l.length*b:=Int.mul_le_mul_of_nonneg_right (by omega) hb
 unfold Ji;omega
def ruF(p:Pc)(q:Int×Nat):Int:=q.1*(DH p q.2).cost
def snF(p:Pc)(v:Ad)(s:Sn):Int:=if snS p v s then s.cost else 0
theorem c7q:El p v=(v.zipIdx.map (ruF p)).sum+(p.spans.map (snF p v)).sum:=rfl
theorem b2X(h0:0≤i)(h:v[i.toNat]? =some n):v.zipIdx[i.toNat]? =some (n,i.toNat):=by simp [List.getElem?_zipIdx,h]
theorem a4B(h:pcOk p)(hv:vOk p v):∀q∈v.zipIdx,0≤ruF p q∧ruF p q≤27:=by
 intro q hq
 obtain⟨n,i⟩:=q
 have hi:=List.mem_zipIdx_iff_getElem?.1 hq
 have h2:=hv.2 i n hi
 have hlt:=(Ec hi).1
 have h3:=So h (i:=(i:Int)) (by omega) (by have:=hv.1;omega)
 have a:0≤n*(DH p (i:Int)).cost:=Int.mul_nonneg h2.1 h3.2.1
 have b:n*(DH p (i:Int)).cost≤3*9:=Int.mul_le_mul (by omega) h3.2.2 h3.2.1 (by omega)
 exact⟨a,by show n*(DH p (i:Int)).cost≤27;omega⟩
theorem c7r(h:pcOk p):∀s∈p.spans,0≤snF p v s∧snF p v s≤9:=by
 intro s hs
 have:=(h.sn s hs).2
 unfold snF;split<;>omega
structure bndP (p:Pc) (v:Ad):Prop where
 ok:pcOk p
 vo:vOk p v
def bdI(p:Pc)(v:Ad)(i n:Int):Prop:=(0≤i∧i≤v.length)∧n=Ji (ruF p) v.zipIdx i
def bdJ(p:Pc)(v:Ad)(i n:Int):Prop:=(0≤i∧i≤p.spans.length)∧n=(v.zipIdx.map (ruF p)).sum+Ji (snF p v) p.spans i
theorem b2Y(h:bndP p v)(hi:bdI p v i n):(0≤i∧i≤v.length)∧(0≤n∧n≤216)∧v.length≤8:=by
 have h1:=b2W (i:=i) (by omega) (a4B h.ok h.vo)
 have h2:=h.vo.1;have h3:=h.ok.rl
 rw[List.length_zipIdx,←hi.2] at h1
 exact⟨hi.1,by omega,by omega⟩
theorem b2Z(h:bndP p v)(hi:bdJ p v i n):(0≤i∧i≤p.spans.length)∧(0≤n∧n≤1000):=by
 have h1:=b2W (i:=i) (by omega) (c7r (v:=v) h.ok)
 have h4:=UV (a4B h.ok h.vo)
 rw[List.length_zipIdx] at h4
 have h2:=h.vo.1;have h3:=h.ok.rl;have h5:=h.ok.snl
 have:=hi.2
 exact⟨hi.1,by omega⟩
theorem c7s{a:Int}{r:Ru}(hi:bdI p v i n)(hlt:i<v.length)(ha:v[i.toNat]? =some a)(hr:p.rules[i.toNat]? =some r):bdI p v (i+1) (n+a*r.cost):=by
 refine⟨by have:=hi.1;omega,?_⟩
 rw[a4A hi.1.1 (b2X hi.1.1 ha),hi.2]
 have:ruF p (a,i.toNat)=a*r.cost:=by rw[ruF];simp only;rw[Yu (by rw[LN];exact hr)]
 rw[this]
theorem c7t{a:Int}{r:Ru}(h:bndP p v)(hi:bdI p v i n)(ha:v[i.toNat]? =some a)(hr:p.rules[i.toNat]? =some r):0≤a*r.cost∧a*r.cost≤27:=by
 have:=a4B h.ok h.vo (a,i.toNat) (Bq (b2X hi.1.1 ha))
 have e:ruF p (a,i.toNat)=a*r.cost:=by rw[ruF];simp only;rw[Yu (by rw[LN];exact hr)]
 rwa [e] at this
theorem b3a(hi:bdI p v i n)(h:¬i<v.length):bdJ p v 0 n:=by
 refine⟨by omega,?_⟩
 rw[b2U,hi.2,b2V (by rw[List.length_zipIdx];exact h)];omega
theorem c7u{s:Sn}(hi:bdJ p v i n)(hlt:i<p.spans.length)(hs:p.spans[i.toNat]? =some s)(h:snS p v s=true):bdJ p v (i+1) (n+s.cost):=by
 refine⟨by have:=hi.1;omega,?_⟩
 rw[a4A hi.1.1 hs,hi.2,snF,h];simp;omega
theorem c7v{s:Sn}(hi:bdJ p v i n)(hlt:i<p.spans.length)(hs:p.spans[i.toNat]? =some s)(h:snS p v s=false):bdJ p v (i+1) n:=by
 refine⟨by have:=hi.1;omega,?_⟩
 rw[a4A hi.1.1 hs,hi.2,snF,h];simp
theorem a4C(hi:bdJ p v i n)(h:¬i<p.spans.length):n=El p v:=by
 rw[c7q,hi.2,b2V h]
theorem b3b:bdI p v 0 0:=⟨by omega,b2U.symm⟩
attribute [local irreducible] bdI bdJ El snS
end Go.My
end
section
namespace Go.My
open Go.Eng Go.Proofs
variable {G:GInv}
variable {a b x:StW}{i:Int}{l l0:List StW}{n:Nat}
def Va(a b:Int):Int:=if a<b then-1 else if b<a then 1 else 0
def cmI(a b:Ad)(i:Int):Prop:=(0≤i∧i≤a.length∧i≤b.length)∧Fa a b=Fa (a.drop i.toNat) (b.drop i.toNat)
theorem c7w{a b:Ad}:cmI a b 0:=⟨by omega,rfl⟩
theorem c7x{a b:Ad}(h:cmI a b i)(hi:i<a.length)(hb:i≥b.length):1=Fa a b:=by
 rw[h.2,EG (l:=b) (by omega)]
 have hlt:i.toNat<a.length:=by have:=h.1;omega
 rw[Gh hlt,Fa]
theorem a4D{a b:Ad}{x y:Int}(h:cmI a b i)(hx:a[i.toNat]? =some x)(hy:b[i.toNat]? =some y):Fa a b=if x<y then-1 else if y<x then 1 else Fa (a.drop (i+1).toNat) (b.drop (i+1).toNat):=by
 rw[h.2,GI hx,GI hy,Fa,CW h.1.1]
theorem c7y{a b:Ad}{x y:Int}(h:cmI a b i)(hi:i<a.length)(hib:¬i≥b.length)(hx:a[i.toNat]? =some x)(hy:b[i.toNat]? =some y)(hc:Va x y=0):cmI a b (i+1):=by
 refine⟨by have:=h.1;omega,?_⟩
 rw[a4D h hx hy]
 unfold Va at hc
 split at hc
 ·cases hc
 ·rename_i h1
  split at hc
  ·cases hc
  ·rename_i h2
   rw[if_neg h1,if_neg h2]
theorem c7z{a b:Ad}(h:cmI a b i)(hi:¬i<a.length):Fa a b=if(a.length:Int)<b.length then-1 else 0:=by
 rw[h.2,EG (l:=a) (by omega)]
 split
 ·have hlt:i.toNat<b.length:=by have:=h.1;omega
  rw[Gh hlt,Fa]
 ·rw[EG (by have:=h.1;omega),Fa]
attribute [local irreducible] cmI Va Fa
def Jj(l:List StW):AV:= .sl true 0 2 StW stA l
def upI(l0:List StW)(x:StW)(l:List StW)(i:Int)(n:Nat):Prop:=((0≤i∧i<l.length)∧i<n)∧(l.length=l0.length+1∧∀s∈l,s∈l0∨s=x)∧sUp n l i=FG l0 x
theorem c7A:upI l0 x (l0++[x]) ((l0.length:Int)) (l0.length+1):=⟨⟨by simp;omega,by omega⟩,⟨by simp,fun s hs=>by simpa using hs⟩,rfl⟩
theorem c7B(h:upI l0 x l i n)(hi:i>0)(hl:Di (AR l i) (AR l (abv i))=true):upI l0 x (swp l i (abv i)) (abv i) (n-1):=by
 obtain⟨⟨h1,h2⟩,⟨h3,h4⟩,h5⟩:=h
 have ha:=a4e hi
 obtain⟨m,rfl⟩:∃m,n=m+1:=⟨n-1,by omega⟩
 refine⟨⟨by rw[PG];omega,by omega⟩,⟨by rw[PG];exact h3,fun s hs=>h4 s (Ys (by omega) (by omega) (by omega) (by omega) hs)⟩,?_⟩
 rw[sUp,if_pos ⟨hi,hl⟩] at h5;exact h5
theorem b3c(h:upI l0 x l i n)(hc:¬i>0∨Di (AR l i) (AR l (abv i))=false):l=FG l0 x:=by
 obtain⟨⟨h1,h2⟩,_,h5⟩:=h
 obtain⟨m,rfl⟩:∃m,n=m+1:=⟨n-1,by omega⟩
 rw[sUp,if_neg (by rcases hc with hc|hc;exact fun hh=>hc hh.1;exact fun hh=>by rw[hc] at hh;cases hh.2)] at h5
 exact h5
theorem b3d{p:StW→Prop}(v:Ad)(n:Int)(h:p ⟨v,n⟩):∃s,p s:=⟨_,h⟩
theorem a4E(h:upI l0 x l i n):(0≤i∧i<l.length)∧l.length=l0.length+1∧∀s∈l,s∈l0∨s=x:=⟨h.1.1,h.2.1⟩
theorem c7C{v:Ad}{m:Int}(h:upI l0 ⟨v,m⟩ l i n)(h2:∀s∈l0,s.vals.length<2^62)(h3:v.length<2^62){k:Nat}{s:StW}(hk:l[k]? =some s):s.vals.length<2^62:=by
 rcases(a4E h).2.2 s (Bq hk) with h4|rfl
 ·exact h2 s h4
 ·exact h3
theorem c7D(h:upI l0 x l i n)(hi:i>0)(ha:l[i.toNat]? =some a)(hb:l[(abv i).toNat]? =some b)(hl:Di a b=true):upI l0 x ((l.set i.toNat b).set (abv i).toNat a) (abv i) (n-1):=by
 have h1:=c7B h hi (by rw[Gc ha,Gc hb];exact hl)
 rw[swp,Gc ha,Gc hb] at h1;exact h1
theorem c7E(h:upI l0 x l i n)(ha:l[i.toNat]? =some a)(hb:l[(abv i).toNat]? =some b)(hl:Di a b=false):l=FG l0 x:=b3c h (.inr (by rw[Gc ha,Gc hb];exact hl))
theorem c7F{c d:StW}(h:upI l0 x l i n)(hi:i>0)(hl:Di a b=true)(ha:l[i.toNat]? =some a)(hb:l[(abv i).toNat]? =some b)(hc:l[i.toNat]? =some c)(hd:l[(abv i).toNat]? =some d):upI l0 x ((l.set i.toNat d).set (abv i).toNat c) (abv i) (n-1):=by
 rw[ha] at hc;rw[hb] at hd;cases hc;cases hd
 exact c7D h hi ha hb hl
theorem c7G:upI l0 x (l0++[x]) (((l0++[x]).length:Int)-1) (l0.length+1):=by
 have h:=c7A (l0:=l0) (x:=x)
 rw[show(((l0++[x]).length:Int)-1)=(l0.length:Int) by simp];exact h
def dwI(l0 l:List StW)(i:Int)(n:Nat):Prop:=((0≤i∧i≤l0.length)∧(l.length:Int)≤i+n)∧(l.length=l0.length-1∧∀s∈l,s∈l0)∧sDn n l i=CS l0
theorem c7H{x:List StW}(h:0<x.length):dwI x (Lx x) 0 x.length:=by
 have h1:=b1T (f:=fun _=>0) h
 exact⟨⟨⟨by omega,by omega⟩,by omega⟩,⟨h1.2.1,h1.2.2⟩,rfl⟩
theorem c7I{x:List StW}(h:0<x.length)(ha:x[((x.length:Int)-1).toNat]? =some a):dwI x ((x.set 0 a).take ((x.length:Int)-1).toNat) 0 x.length:=by
 have h1:=c7H h
 rw[Lx,Gc ha] at h1
 rw[show((x.length:Int)-1).toNat=x.length-1 by omega];exact h1
theorem Vb(h:dwI l0 l i n):(0≤i∧i≤l0.length)∧l.length=l0.length-1:=⟨h.1.1,h.2.1.1⟩
theorem c7J(h:dwI l0 l i n)(h2:∀s∈l0,s.vals.length<2^62){k:Nat}{s:StW}(hk:l[k]? =some s):s.vals.length<2^62:=h2 s (h.2.1.2 s (Bq hk))
theorem c7K(h:dwI l0 l i n)(hi:2*i+1<l.length)(hl:Di (AR l (dnK l i)) (AR l i)=true):dwI l0 (swp l i (dnK l i)) (dnK l i) (n-1):=by
 obtain⟨⟨h1,h2⟩,⟨h3,h4⟩,h5⟩:=h
 have ha:=Yt h1.1 hi
 obtain⟨m,rfl⟩:∃m,n=m+1:=⟨n-1,by omega⟩
 refine⟨⟨⟨by omega,by omega⟩,by rw[PG];omega⟩,⟨by rw[PG];exact h3,fun s hs=>h4 s (Ys (by omega) (by omega) (by omega) (by omega) hs)⟩,?_⟩
 rw[sDn,if_pos ⟨hi,hl⟩] at h5;exact h5
theorem b3e(h:dwI l0 l i n)(hc:¬2*i+1<l.length∨Di (AR l (dnK l i)) (AR l i)=false):l=CS l0:=by
 obtain⟨⟨h1,h2⟩,_,h5⟩:=h
 match n,h5 with
 |0,h5=>exact h5
 |m+1,h5=>
  rw[sDn,if_neg (by rcases hc with hc|hc;exact fun hh=>hc hh.1;exact fun hh=>by rw[hc] at hh;cases hh.2)] at h5
  exact h5
theorem c7L(h:2*i+1+1<l.length)(hs:Di a b=true)(ha:l[(2*i+1+1).toNat]? =some a)(hb:l[(2*i+1).toNat]? =some b):2*i+1+1=dnK l i:=by
 rw[dnK,if_pos ⟨h,by rw[Gc ha,Gc hb];exact hs⟩]
theorem c7M(hs:Di a b=false)(ha:l[(2*i+1+1).toNat]? =some a)(hb:l[(2*i+1).toNat]? =some b):2*i+1=dnK l i:=by
 rw[dnK,if_neg (fun h=>by rw[Gc ha,Gc hb] at h;rw[hs] at h;cases h.2)]
theorem c7N(h:¬2*i+1+1<l.length):2*i+1=dnK l i:=by rw[dnK,if_neg (fun hh=>h hh.1)]
theorem b3f(h:l[0]? =some a):AR l 0=a:=Gc (i:=0) h
theorem c7O{c d:StW}(h:dwI l0 l i n)(hi:0≤i∧2*i+1<l.length)(hl:Di a b=true)(ha:l[(dnK l i).toNat]? =some a)(hb:l[i.toNat]? =some b)(hc:l[(dnK l i).toNat]? =some c)(hd:l[i.toNat]? =some d):dwI l0 ((l.set i.toNat c).set (dnK l i).toNat d) (dnK l i) (n-1):=by
 rw[ha] at hc;rw[hb] at hd;cases hc;cases hd
 have h1:=c7K h hi.2 (by rw[Gc ha,Gc hb];exact hl)
 rw[swp,Gc ha,Gc hb] at h1;exact h1
theorem c7P(h:dwI l0 l i n)(hl:Di a b=false)(ha:l[(dnK l i).toNat]? =some a)(hb:l[i.toNat]? =some b):l=CS l0:=b3e h (.inr (by rw[Gc ha,Gc hb];exact hl))
attribute [local irreducible] upI dwI Di abv FG CS dnK
end Go.My
end
section
namespace Go.My
open Go.Eng Go.Proofs
variable {G:GInv}
variable {a bud i w:Int}{b v:Ad}{c d:Co}{h:Hu}{l:List StW}{n:Nat}{p:Pc}{t:Ti}{x:StW}
theorem c7Q(h:inn t.kid 0 ((v.length:Int)-1)=false):Jc v t=true:=by simp [Jc,h]
theorem c7R(h:inn t.up 0 ((v.length:Int)-1)=false):Jc v t=true:=by simp [Jc,h]
theorem c7S(ha:v[t.kid.toNat]? =some a)(h:¬a>0):Jc v t=true:=by
 have:vAt v t.kid=a:=by simp [vAt,List.getD,ha]
 simp [Jc,this];omega
theorem c7T(ha:v[t.up.toNat]? =some a)(h:¬a=0):Jc v t=true:=by
 have:vAt v t.up=a:=by simp [vAt,List.getD,ha]
 simp [Jc,this];omega
theorem c7U{b:Int}(h1:inn t.kid 0 ((v.length:Int)-1)=true)(h2:inn t.up 0 ((v.length:Int)-1)=true)(ha:v[t.kid.toNat]? =some a)(hb:v[t.up.toNat]? =some b)(h:a>0)(h0:b=0):Jc v t=false:=by
 have e1:vAt v t.kid=a:=by simp [vAt,List.getD,ha]
 have e2:vAt v t.up=b:=by simp [vAt,List.getD,hb]
 simp [Jc,h1,h2,e1,e2,h0];omega
theorem b3g{k:Int}(h:inn k 0 ((v.length:Int)-1)=true):(0≤k∧k<v.length)∧k.toNat<v.length:=by
 have:=Cm.1 h;exact⟨by omega,by omega⟩
structure coP (p:Pc) (v:Ad):Prop where
 re:renP p v
 vo:vOk p v
theorem c7V(h:coP p v):bndP p v:=⟨h.re.ok,h.vo⟩
theorem c7W(h:PE c d=true):Jd c d v b=true:=by simp [Jd,h]
theorem c7X(h:(true&&c.over==d.over&&c.sum==d.sum)=true)(hc:Fa v b<0):Jd c d v b=true:=by
 simp at h;simp [Jd,h.1,h.2,hc]
theorem c7Y(h1:PE c d=false)(h:(true&&c.over==d.over&&c.sum==d.sum)=false):Jd c d v b=false:=by
 simp only[Jd,h1,Bool.false_or,Bool.and_eq_false_iff,GY]
 left;simp at h;by_cases e:c.over=d.over
 ·exact .inr (h e)
 ·exact .inl e
theorem c7Z(h1:PE c d=false)(hc:¬Fa v b<0):Jd c d v b=false:=by
 simp [Jd,h1,hc]
theorem c8a(hb:Jd (DP p v w) h.cost v h.best=true):KK p w v h=⟨v,DP p v w,h.heap,h.pops⟩:=by rw[KK,if_pos hb]
theorem c8b(hb:Jd (DP p v w) h.cost v h.best=false):KK p w v h=h:=by rw[KK,if_neg (by rw[hb];simp)]
def opC(p:Pc)(x:StW):Int:=(DH p x.vals.length).vals
def opI(p:Pc)(c:Co)(x:StW)(l0 l:List StW)(i:Int):Prop:=
 (0≤i∧i≤opC p x)∧(opN p c x.vals (opC p x-i).toNat i l=opN p c x.vals (opC p x).toNat 0 l0)∧((l.length:Int)≤l0.length+i∧KM p l)
structure opP (p:Pc) (h:Hu) (x:StW):Prop where
 ok:pcOk p
 vo:vOk p x.vals
 vl:x.vals.length<p.rules.length
 hl:h.heap.length≤2^39
 hk:KM p h.heap
theorem c8c(hx:opP p h x):opI p h.cost x h.heap h.heap 0:=by
 have:=So hx.ok (i:=(x.vals.length:Int)) (by omega) (by have:=hx.vl;omega)
 exact⟨⟨by omega,by unfold opC;omega⟩,by simp,by omega,hx.hk⟩
theorem c8d(hx:opP p h x)(hi:opI p h.cost x h.heap l i)(hl:i<opC p x):
 (KL p h.cost (x.vals++[i])=true→opI p h.cost x h.heap l (i+1))∧(KL p h.cost (x.vals++[i])=false→opI p h.cost x h.heap (FG l ⟨x.vals++[i],El p (x.vals++[i])⟩) (i+1)):=by
 obtain⟨h1,h2,h3,h4⟩:=hi
 have e:(opC p x-i).toNat=(opC p x-(i+1)).toNat+1:=by omega
 rw[e,opN] at h2
 have hv:=a4j hx.vo hx.vl h1.1 (by unfold opC at hl;exact hl)
 refine⟨fun hb=>⟨by omega,?_,by omega,h4⟩,fun hb=>⟨by omega,?_,?_,b1V h4 ⟨hv,b1X hx.ok hv⟩⟩⟩
 ·rw[hb,if_pos rfl] at h2;exact h2
 ·rw[hb,if_neg (by simp)] at h2;exact h2
 ·have:=(a4f (f:=fun _=>0) (l:=l) (x:=⟨x.vals++[i],El p (x.vals++[i])⟩)).2.1
  rw[this];omega
theorem c8e{l0:List StW}(hi:opI p c x l0 l i)(hl:¬i<opC p x):l=opN p c x.vals (opC p x).toNat 0 l0:=by
 obtain⟨h1,h2,_⟩:=hi
 rw[show(opC p x-i).toNat=0 by omega,opN] at h2;exact h2
theorem b3h(h:UU p v=false∨(c.over=0∧El p v>c.sum)):KL p c v=true:=by
 unfold KL
 rcases h with h|h
 ·rw[h];rfl
 ·rw[Ht h.1,Ht (show c.sum<El p v by omega)];simp
theorem b3i(h:UU p v=true)(h2:¬c.over=0∨¬El p v>c.sum):KL p c v=false:=by
 unfold KL
 rw[h]
 rcases h2 with h2|h2
 ·rw[Gj h2];rfl
 ·rw[Gj (show¬c.sum<El p v by omega)];simp
theorem c8f(hx:opP p h x):2≤opC p x∧opC p x≤3:=(So hx.ok (i:=(x.vals.length:Int)) (by omega) (by have:=hx.vl;omega)).1
theorem b3j{n:Int}{e:Ru}(h:p.rules[(v.length:Int).toNat]? =some e):e.vals=opC p ⟨v,n⟩:=by unfold opC;rw[Yu h]
theorem c8g(hx:opP p h x)(hi:opI p h.cost x h.heap l i):(0≤i∧i≤3)∧l.length≤2^39+3∧KM p l:=by
 have h1:=c8f hx;have h2:=hi.1;have h3:=hi.2.2;have h4:=hx.hl
 exact⟨by omega,by omega,h3.2⟩
theorem c8h{n:Int}(hx:opP p h ⟨v,n⟩)(hi:opI p h.cost ⟨v,n⟩ h.heap l i)(hl:i<opC p ⟨v,n⟩):bndP p (v++[i]):=
 ⟨hx.ok,a4j hx.vo hx.vl hi.1.1 (by unfold opC at hl;exact hl)⟩
theorem c8i(hp:pcOk p)(h:KM p l):∀s∈l,s.vals.length<2^62:=fun s hs=>by
 have h1:=(h s hs).1.1;have h2:=hp.rl
 omega
theorem b3k{p:Pc}{c:Co}{x:Ad}:∀ {r:Nat} {i:Int} {l:List StW},hM p (opN p c x r i l)≤hM p l+r*wt (p.rules.length-(x.length+1))
 |0,i,l=>by simp [opN]
 |r+1,i,l=>by
  rw[opN]
  have h:=b3k (p:=p) (c:=c) (x:=x) (r:=r) (i:=i+1) (l:=if KL p c (x++[i]) then l else FG l ⟨x++[i],El p (x++[i])⟩)
  have h2:hM p (if KL p c (x++[i]) then l else FG l ⟨x++[i],El p (x++[i])⟩)≤hM p l+wt (p.rules.length-(x.length+1)):=by
   split
   ·omega
   ·have:=(a4f (f:=wtS p) (l:=l) (x:=⟨x++[i],El p (x++[i])⟩)).1
    have e:wtS p ⟨x++[i],El p (x++[i])⟩=wt (p.rules.length-(x.length+1)):=by simp [wtS]
    unfold hM;omega
  rw[Hs];omega
theorem b3l{p:Pc}{c:Co}{x:Ad}(hp:pcOk p)(hv:vOk p x)(hl:x.length<p.rules.length):∀ {r:Nat} {i:Int} {l:List StW},0≤i→i+r≤(DH p x.length).vals→KM p l→KM p (opN p c x r i l)
 |0,i,l,_,_,h=>h
 |r+1,i,l,h0,hi,h=>by
  rw[opN]
  refine b3l hp hv hl (by omega) (by omega) ?_
  split
  ·exact h
  ·have hs:=a4j hv hl h0 (by omega)
   exact b1V h ⟨hs,b1X hp hs⟩
structure huP (p:Pc) (w:Int) (h:Hu):Prop where
 bv:vOk p h.best
 bl:h.best.length=p.rules.length
 co:h.cost=DP p h.best w
 hk:KM p h.heap
theorem c8j(hh:huP p w h)(hv:vOk p v)(hl:v.length=p.rules.length):huP p w (KK p w v h)∧(KK p w v h).heap=h.heap∧(KK p w v h).pops=h.pops:=by
 unfold KK
 split
 ·exact⟨⟨hv,hl,rfl,hh.hk⟩,rfl,rfl⟩
 ·exact⟨hh,rfl,rfl⟩
theorem a4F(h:0<l.length):AR l 0∈l:=Bq (PF (l:=l) (i:=0) (by omega) (by omega))
theorem b3m(hp:pcOk p)(hh:huP p w h)(hl:0<h.heap.length):huP p w (NZ p w h)∧hM p (NZ p w h).heap<hM p h.heap∧(NZ p w h).pops=h.pops+1:=by
 have h1:=(a4g (f:=wtS p) hl).1
 have h2:=hh.hk _ (a4F hl)
 have h3:=b1W hh.hk hl
 have h4:1≤wtS p (AR h.heap 0):=a4h
 unfold NZ
 split
 ·rename_i e
  have:=c8j (v:=(AR h.heap 0).vals) (h:=⟨h.best,h.cost,CS h.heap,h.pops+1⟩) ⟨hh.bv,hh.bl,hh.co,h3⟩ h2.1 e
  refine⟨this.1,?_,this.2.2⟩
  rw[this.2.1];show hM p (CS h.heap)<_;unfold hM;omega
 ·rename_i e
  have hlt:(AR h.heap 0).vals.length<p.rules.length:=by have:=h2.1.1;omega
  have hr:=So hp (i:=((AR h.heap 0).vals.length:Int)) (by omega) (by omega)
  have h5:=b3k (p:=p) (c:=h.cost) (x:=(AR h.heap 0).vals) (r:=(DH p (AR h.heap 0).vals.length).vals.toNat) (i:=0) (l:=CS h.heap)
  refine⟨⟨hh.bv,hh.bl,hh.co,b3l hp h2.1 hlt (by omega) (by omega) h3⟩,?_,rfl⟩
  have e1:wtS p (AR h.heap 0)=1+3*wt (p.rules.length-((AR h.heap 0).vals.length+1)):=by
   rw[wtS,show p.rules.length-(AR h.heap 0).vals.length=(p.rules.length-((AR h.heap 0).vals.length+1))+1 by omega,wt]
  have h6:(DH p (AR h.heap 0).vals.length).vals.toNat*wt (p.rules.length-((AR h.heap 0).vals.length+1))≤3*wt (p.rules.length-((AR h.heap 0).vals.length+1)):=Ki _ (by omega)
  show hM p (opN p h.cost (AR h.heap 0).vals (DH p (AR h.heap 0).vals.length).vals.toNat 0 (CS h.heap))<hM p h.heap
  unfold hM at h5 ⊢;omega
theorem b3n:∀ {a b:Nat},a≤b→wt a≤wt b
 |0,b,_=>a4h
 |a+1,0,h=>by omega
 |a+1,b+1,h=>by rw[wt,wt];have:=b3n (a:=a) (b:=b) (by omega);omega
def ruI(p:Pc)(w bud:Int)(h:Hu)(n:Nat):Prop:=(huP p w h∧hM p h.heap<n)∧Ly p w bud n h=srF p w bud∧0≤h.pops∧h.pops+hM p h.heap≤9841
theorem a4G(hp:pcOk p):ruI p w bud ⟨Ip p,DP p (Ip p) w,[st0],0⟩ 9842:=by
 have h1:=a4k hp
 have h2:hM p [st0]≤9841:=by
  have e:hM p [st0]=wt p.rules.length:=by simp [hM,hS,wtS,st0]
  rw[e]
  exact Jt (b3n (b:=8) hp.rl) (by decide)
 refine⟨⟨⟨h1.1,h1.2,rfl,?_⟩,by show hM p [st0]<9842;omega⟩,rfl,Em 0,by show(0:Int)+hM p [st0]≤9841;omega⟩
 intro s hs
 simp at hs;subst hs
 exact⟨c6e,by simp [st0],by simp [st0]⟩
theorem a4H(hi:ruI p w bud h n):(0≤h.pops∧h.pops≤9841)∧h.heap.length≤9841∧0<n:=by
 have h1:= @b1U p h.heap
 have h2:=hi.2.2;have:=hi.1.2
 exact⟨by omega,by omega,by omega⟩
theorem b3o(hp:pcOk p)(hi:ruI p w bud h n)(hl:0<h.heap.length)(hb:¬bud≤h.pops):ruI p w bud (NZ p w h) (n-1):=by
 obtain⟨⟨h1,h2⟩,h3,h4,h5⟩:=hi
 have hs:=b3m hp h1 hl
 obtain⟨m,rfl⟩:∃m,n=m+1:=⟨n-1,by omega⟩
 refine⟨⟨hs.1,by omega⟩,?_,by omega,by omega⟩
 rw[Ly,if_neg (by intro e;rw[e] at hl;simp at hl),if_neg hb] at h3
 exact h3
theorem b3p(hi:ruI p w bud h n)(hl:¬0<h.heap.length):srF p w bud=(h,1):=by
 obtain⟨⟨h1,h2⟩,h3,h4,h5⟩:=hi
 obtain⟨m,rfl⟩:∃m,n=m+1:=⟨n-1,by omega⟩
 rw[Ly,if_pos (Qv (by omega))] at h3;exact h3.symm
theorem c8k(hi:ruI p w bud h n)(hl:0<h.heap.length)(hb:bud≤h.pops):srF p w bud=(h,2):=by
 obtain⟨⟨h1,h2⟩,h3,h4,h5⟩:=hi
 obtain⟨m,rfl⟩:∃m,n=m+1:=⟨n-1,by omega⟩
 rw[Ly,if_neg (by intro e;rw[e] at hl;simp at hl),if_pos hb] at h3;exact h3.symm
theorem b3q{p:Pc}{w bud:Int}(hp:pcOk p):∀ {n:Nat} {h:Hu},huP p w h→hM p h.heap<n→huP p w (Ly p w bud n h).1∧((Ly p w bud n h).2=1∨(Ly p w bud n h).2=2)
 |0,h,_,hl=>by omega
 |n+1,h,hh,hl=>by
  rw[Ly]
  split
  ·exact⟨hh,.inl rfl⟩
  ·rename_i e
   split
   ·exact⟨hh,.inr rfl⟩
   ·have hpos:0<h.heap.length:=Tg.2 e
    have hs:=b3m hp hh hpos
    exact b3q hp hs.1 (by omega)
theorem c8l(hp:pcOk p):huP p w (srF p w bud).1∧((srF p w bud).2=1∨(srF p w bud).2=2):=by
 have h:=a4G (w:=w) (bud:=bud) hp
 exact b3q hp h.1.1 h.1.2
theorem c8m{p q:Hu×Nat→Prop}(b:Ad)(o s:Int)(l:List StW)(n:Int)(m:Nat)(h2:q (⟨b,⟨o,s⟩,l,n⟩,m))(h1:p (⟨b,⟨o,s⟩,l,n⟩,m)):∃x,p x∧q x:=⟨_,h1,h2⟩
theorem c8n{a:Ad}{b:Int}{q:StW→Prop}(h:q ⟨a,b⟩):∃x:StW,a=x.vals∧b=x.sum∧q x:=⟨⟨a,b⟩,rfl,rfl,h⟩
theorem b3r(h:pcOk p)(hz:pcS p)(hv:vOk p v)(hl:v.length=p.rules.length):coP p v:=⟨⟨h,hl,hz.2.1.2⟩,hv⟩
theorem b3s(hi:ruI p w bud h n)(hl:(h.heap.length:Int)>0):a4i p (AR h.heap 0):=hi.1.1.hk _ (a4F (by omega))
theorem b3t(hp:pcOk p)(hi:ruI p w bud h n)(hl:(h.heap.length:Int)>0)(hb:¬h.pops≥bud)(he:((AR h.heap 0).vals.length:Int)=p.rules.length):
 ruI p w bud (KK p w (AR h.heap 0).vals ⟨h.best,h.cost,CS h.heap,h.pops+1⟩) (n-1):=by
 have:=b3o hp hi (by omega) (by omega)
 rwa [NZ,if_pos (by omega)] at this
theorem c8o(hp:pcOk p)(hi:ruI p w bud h n)(hl:(h.heap.length:Int)>0)(hb:¬h.pops≥bud)(he:((AR h.heap 0).vals.length:Int)≠p.rules.length):
 ruI p w bud ⟨h.best,h.cost,opN p h.cost (AR h.heap 0).vals (opC p ⟨(AR h.heap 0).vals,(AR h.heap 0).sum⟩).toNat 0 (CS h.heap),h.pops+1⟩ (n-1):=by
 have:=b3o hp hi (by omega) (by omega)
 rwa [NZ,if_neg (by omega)] at this
theorem c8p(hp:pcOk p)(hi:ruI p w bud h n)(hl:(h.heap.length:Int)>0)(he:((AR h.heap 0).vals.length:Int)≠p.rules.length):
 opP p ⟨h.best,h.cost,CS h.heap,h.pops+1⟩ ⟨(AR h.heap 0).vals,(AR h.heap 0).sum⟩:=by
 have h1:=b3s hi hl
 have h2:=h1.1.1
 have h3:=(a4g (f:=fun _=>0) (l:=h.heap) (by omega)).2.1
 have h4:=(a4H hi).2.1
 exact⟨hp,h1.1,by show(AR h.heap 0).vals.length<_;omega,by show(CS h.heap).length≤_;omega,b1W hi.1.1.hk (by omega)⟩
theorem b3u(hi:ruI p w bud h n):n-1<n:=by have:=(a4H hi).2.2;omega
end Go.My
end
section
namespace Go.My
open Go.Eng
variable {K m:Nat}{ds:Ad}{i k:Int}{ns:List Nd}{u:Aa}{v v':List Sg}
structure Ws where
 ls:List Aa
 st:Int
variable {s:Ws}
structure WC where
 ns:List Nd
 w:Int
 bud:Int
def BO(i:Int)(t:Aa)(s:Ws):Ws:=⟨s.ls++[blk i++t],s.st⟩
def JZ(p:Pc)(w bud:Int):List Aa:=EC p (srF p w bud).1.best
def KO(p:Pc)(w bud:Int):Int:=(srF p w bud).2
def Cp(c:WC)(n:Nat)(pre:Aa)(k:Int)(post:Aa)(i:Int)(s:Ws):Ws:=
 ⟨s.ls++JZ (bdP c.ns n k pre post i) c.w c.bud,if KO (bdP c.ns n k pre post i) c.w c.bud=2 then 2 else s.st⟩
def HO(ns:List Nd)(k:Int)(s:Ws):Ws:=if(Ab ns k).blank then⟨s.ls++[[]],s.st⟩ else s
def Et(ns:List Nd)(f:Int→Int→Ws→Ws)(i:Int):Ad→Ws→Ws
 |[],s=>s
 |k::l,s=>Et ns f i l (f k i (HO ns k s))
def CM(ns:List Nd)(f:Int→Int→Ws→Ws)(k i:Int)(s:Ws):Ws:=Et ns f (i+2) (Ab ns k).kids s
def hdT(ns:List Nd)(x:Nd):Aa:=x.text++[40]++Fg ns (x.kids.take (x.kids.length-1)) true++[41,32,123]
def wV1(c:WC)(n:Nat)(f:Int→Int→Ws→Ws)(x:Nd)(i:Int)(s:Ws):Ws:=
 if x.kind=19 then BO i x.text s
 else if x.kind=12 then(if x.kids.length=0 then BO i ([118,97,114,32]++x.text++[59]) s else Cp c n ([118,97,114,32]++x.text++[32,61]) (kd x 0) [59] i s)
 else if x.kind=13 then Cp c n (x.text++[32,61]) (kd x 0) [59] i s
 else if x.kind=14 then Cp c n [] (kd x 0) [59] i s
 else if x.kind=15 then(if x.kids.length=0 then BO i [114,101,116,117,114,110,59] s else Cp c n [114,101,116,117,114,110,32] (kd x 0) [59] i s)
 else if x.kind=16 then BO i [125] (if x.kids.length=3 then CM c.ns f (kd x 2) i (BO i [125,32,101,108,115,101,32,123] (CM c.ns f (kd x 1) i (Cp c n [105,102,32,40] (kd x 0) [41,32,123] i s))) else CM c.ns f (kd x 1) i (Cp c n [105,102,32,40] (kd x 0) [41,32,123] i s))
 else if x.kind=17 then BO i [125] (CM c.ns f (kd x 1) i (Cp c n [119,104,105,108,101,32,40] (kd x 0) [41,32,123] i s))
 else if x.kind=20 then BO i [125] (CM c.ns f (kd x (x.kids.length-1)) i (BO i (hdT c.ns x) s))
 else if x.kind=21 then BO i [125] (Et c.ns f (i+2) x.kids (BO i ([99,108,97,115,115,32]++x.text++[32,123]) s))
 else s
def wN(c:WC)(n:Nat):Nat→Int→Int→Ws→Ws
 |0,_,_,s=>s
 |m+1,k,i,s=>wV1 c n (wN c n m) (Ab c.ns k) i s
def wW(ns:List Nd):Nat→Int→Nat
 |0,_=>0
 |m+1,k=>if Bg (Ai ns k) then 0 else if Ai ns k=18∨Ai ns k=21∨Ai ns k=22 then 2+(wL (wW ns m) (Ab ns k).kids+(Ab ns k).kids.length) else 85+wL (wW ns m) (Ab ns k).kids
theorem b3v{p:Pc}{w bud:Int}(h:pcOk p):(JZ p w bud).length≤81:=(Yp h).2
theorem p25(d:Nat)(h:2≤d):25^(d/2)=25*25^((d-2)/2):=by
 rw[show d/2=(d-2)/2+1 by omega,Nat.pow_succ,Nat.mul_comm]
structure dpP (ns:List Nd) (K:Nat) (ds:Ad):Prop where
 hd:Da ns K=some ds
theorem LC(hd:Da ns K=some ds){c:Int}(h:BB ns k)(hK:k<K)(hc:c∈(Ab ns k).kids):(1≤ds.getD c.toNat 0∧ds.getD c.toNat 0+1≤ds.getD k.toNat 0)∧ds.getD k.toNat 0≤14:=by
 have hr:=BF.1 h.1
 have hm:=CQ h hc
 have hat:=NY hd k.toNat (by omega)
 rw[show((k.toNat:Nat):Int)=k by omega] at hat
 exact⟨⟨(NY hd c.toNat (by omega)).1.1,hat.2 c hc⟩,hat.1.2⟩
theorem kko(h:BB ns k):HB (Ab ns k).kind ((Ab ns k).kids.map (Ai ns))=true:=(CU (DE h)).2.2.2.2.2.1
theorem KP(h:BB ns k){e:Int}(he:Ai ns k=e):HB e ((Ab ns k).kids.map (Ai ns))=true:=by have:=kko h;rw[show(Ab ns k).kind=e from he] at this;exact this
theorem HP{ns:List Nd}{k:Int}(h:BB ns k)(hk:Ai ns k=12∨Ai ns k=13∨Ai ns k=14∨Ai ns k=15∨Ai ns k=19):∀c∈(Ab ns k).kids,Bg (Ai ns c)=true:=by
 have ha:∀(p:Bool),(p&&((Ab ns k).kids.map (Ai ns)).all Bg)=true→∀c∈(Ab ns k).kids,Bg (Ai ns c)=true:=fun p hp=>by
  rw[AY] at hp;exact a3Z hp.2
 rcases hk with e|e|e|e|e
 ·exact ha _ (KP h e)
 ·exact ha _ (KP h e)
 ·exact ha _ (KP h e)
 ·exact ha _ (KP h e)
 ·have h:=KP h e
  simp only[HB,true_or,or_true,BN,Bf,Fv] at h
  intro c hc
  rw[Qv h] at hc;cases hc
theorem LD{ns:List Nd}{k:Int}(h:BB ns k)(hk:Ai ns k=16):(2≤(Ab ns k).kids.length∧(Ab ns k).kids.length≤3)∧Bg (Ai ns (kd (Ab ns k) 0))=true∧∀c∈(Ab ns k).kids.drop 1,Ai ns c=18:=by
 have h1:(decide (2≤((Ab ns k).kids.map (Ai ns)).length)&&decide (((Ab ns k).kids.map (Ai ns)).length≤3)&&(Bg (((Ab ns k).kids.map (Ai ns)).headD 0)&&(((Ab ns k).kids.map (Ai ns)).drop 1).all IE))=true:=KP h hk
 simp only[AY,Bf,Fv,CC] at h1
 refine⟨h1.1,?_,fun c hc=> ?_⟩
 ·have:=h1.2.1
  match hx:(Ab ns k).kids with
  |[]=>rw[hx] at h1;simp at h1
  |d::l=>rw[hx] at this;rw[show kd (Ab ns k) 0=d by simp [kd,hx]];exact this
 ·have:=h1.2.2 (Ai ns c) (by rw[←List.map_drop];exact Iu.2 ⟨c,hc,rfl⟩)
  simpa [IE] using this
theorem PN{ns:List Nd}{k:Int}(h:BB ns k)(hk:Ai ns k=17):(Ab ns k).kids.length=2∧Bg (Ai ns (kd (Ab ns k) 0))=true∧Ai ns (kd (Ab ns k) 1)=18:=by
 have h1:(decide (((Ab ns k).kids.map (Ai ns)).length=2)&&(Bg (((Ab ns k).kids.map (Ai ns)).headD 0)&&IE (((Ab ns k).kids.map (Ai ns)).getD 1 0)))=true:=KP h hk
 simp only[AY,Bf,Fv] at h1
 match hx:(Ab ns k).kids with
 |[]=>rw[hx] at h1;simp at h1
 |[d]=>rw[hx] at h1;simp at h1
 |d::e::l=>
  rw[hx] at h1
  refine⟨h1.1,?_,?_⟩
  ·rw[show kd (Ab ns k) 0=d by simp [kd,hx]];exact h1.2.1
  ·rw[show kd (Ab ns k) 1=e by simp [kd,hx]];simpa [IE] using h1.2.2
theorem a4I(h:BB ns k)(hk:Ai ns k=18):∀c∈(Ab ns k).kids,Gt (Ai ns c)=true:=by
 have h1:((Ab ns k).kids.map (Ai ns)).all Gt=true:=KP h hk
 rw[CC] at h1
 exact fun c hc=>h1 _ (Iu.2 ⟨c,hc,rfl⟩)
theorem a4J{ns:List Nd}{k:Int}(h:BB ns k)(hk:Ai ns k=21):∀c∈(Ab ns k).kids,GJ (Ai ns c)=true:=by
 have h1:((Ab ns k).kids.map (Ai ns)).all GJ=true:=KP h hk
 rw[CC] at h1
 exact fun c hc=>h1 _ (Iu.2 ⟨c,hc,rfl⟩)
theorem a4K(h:BB ns k)(hk:Ai ns k=22):∀c∈(Ab ns k).kids,Mk (Ai ns c)=true:=by
 have h1:((Ab ns k).kids.map (Ai ns)).all Mk=true:=KP h hk
 rw[CC] at h1
 exact fun c hc=>h1 _ (Iu.2 ⟨c,hc,rfl⟩)
theorem MN{ns:List Nd}{k:Int}(h:BB ns k)(hk:Ai ns k=20):1≤(Ab ns k).kids.length∧Ai ns (kd (Ab ns k) ((Ab ns k).kids.length-1))=18∧∀c∈(Ab ns k).kids.take ((Ab ns k).kids.length-1),Ai ns c=1:=by
 have h1:JJ IE ((Ab ns k).kids.map (Ai ns))=true:=KP h hk
 unfold JJ at h1
 split at h1
 ·rename_i l hl
  rw[AY,CC] at h1
  have hpos:1≤(Ab ns k).kids.length:=by
   rcases Tj (Ab ns k).kids.length with e|e
   ·rw[Qv e] at hl;simp at hl
   ·exact e
  refine⟨hpos,?_,fun c hc=> ?_⟩
  ·rw[VO,Fv,LR,FM] at hl
   obtain⟨d,hd,e⟩:=hl
   rw[Dw hd,e];simpa [IE] using h1.1
  ·have h2:Ai ns c∈((Ab ns k).kids.map (Ai ns)).dropLast:=by
    rw[List.dropLast_eq_take,Fv,←List.map_take]
    exact Iu.2 ⟨c,hc,rfl⟩
   simpa [JI] using h1.2 _ h2
 ·cases h1
theorem SB(h:Bg (Ai ns k)=true):wW ns m k=0:=by
 cases m with
 |zero=>rfl
 |succ m=>rw[wW,if_pos h]
theorem Vc{w:Int→Nat}:∀ {l:Ad},(∀c∈l,w c=0)→wL w l=0
 |[],_=>rfl
 |c::l,h=>by rw[Dy,h c (by simp),Vc fun d hd=>h d (by simp [hd])]
theorem a4L{B:Nat}(h:BB ns k)(hk:Ai ns k=18∨Ai ns k=21∨Ai ns k=22)(hB:5≤B)(hs:∀c∈(Ab ns k).kids,wW ns m c+5≤B):wW ns (m+1) k+46≤12*B:=by
 have h1:=Sm (w:=wW ns m) (b:=B-5) (l:=(Ab ns k).kids) fun c hc=>by have:=hs c hc;omega
 have h2:=(CU (DE h)).2.1
 have h3:(Ab ns k).kids.length*(B-5)≤12*(B-5):=Ki _ h2
 have hv:Bg (Ai ns k)=false:=by
  rcases hk with e|e|e<;>rw[e]<;>rfl
 rw[wW,if_neg (by rw[hv];simp),if_pos hk];omega
theorem YK{a:Nat}:120≤120*25^(a/2):=by
 have:1≤25^(a/2):=Nat.one_le_pow _ _ (by omega)
 omega
theorem b3w{w:Int→Nat}{x:Nd}(h:0<x.kids.length)(h0:w (kd x 0)=0):wL w x.kids=wL w (x.kids.drop 1):=by have:=a3Y (w:=w) h;omega
theorem SC(h:Gt k=true):k=12∨k=13∨k=14∨k=15∨k=16∨k=17∨k=19:=by
 simp only[Gt,TU,CG,Bf] at h
 rcases h with h|h
 ·have:=Cm.1 h;omega
 ·omega
theorem a4M(hd:Da ns K=some ds)(ih:∀ {k:Int} {d:Nat},BB ns k→k<m→k<K→Gt (Ai ns k)=true→ds.getD k.toNat 0≤d→wW ns m k+5≤120*25^(d/2)){c:Int}{d:Nat}(h:BB ns k)(hm:k<(m+2:Nat))(hK:k<K)(hd':ds.getD k.toNat 0≤d)(hc:c∈(Ab ns k).kids)(hk:Ai ns c=18):
 wW ns (m+1) c+46≤12*(120*25^((d-2)/2)):=by
 have h1:=CQ h hc
 have h2:=LC hd h hK hc
 refine a4L h1.1 (.inl hk) (by have:= @YK (d-2);omega) fun e he=> ?_
 have h3:=CQ h1.1 he
 have h4:=LC hd h1.1 (by omega) he
 exact ih h3.1 (by omega) (by omega) (a4I h1.1 hk e he) (by omega)
theorem Vd(hd:Da ns K=some ds):∀(m:Nat),∀ {k:Int} {d:Nat},BB ns k→k<m→k<K→Gt (Ai ns k)=true→ds.getD k.toNat 0≤d→wW ns m k+5≤120*25^(d/2):=by
 intro m
 induction m using Nat.strongRecOn with
 |_ m ih=>
  intro k d h hm hK hs hle
  have hr:=BF.1 h.1
  obtain⟨m1,rfl⟩:∃m1,m=m1+1:=⟨m-1,by omega⟩
  have hp:= @YK d
  have hv:Bg (Ai ns k)=false:=by
   rcases SC hs with e|e|e|e|e|e|e<;>rw[e]<;>rfl
  have hn:¬(Ai ns k=18∨Ai ns k=21∨Ai ns k=22):=by rcases SC hs with e|e|e|e|e|e|e<;>omega
  rw[wW,if_neg (by rw[hv];simp),if_neg hn]
  have hval:(Ai ns k=12∨Ai ns k=13∨Ai ns k=14∨Ai ns k=15∨Ai ns k=19)→wL (wW ns m1) (Ab ns k).kids=0:=fun hh=>Vc fun c hc=>SB (HP h hh c hc)
  have hblk:∀c∈(Ab ns k).kids,Ai ns c=18→wW ns m1 c+46≤12*(120*25^((d-2)/2))∧2≤d:=by
   intro c hc h18
   have h1:=CQ h hc
   have h2:=LC hd h hK hc
   obtain⟨m2,rfl⟩:∃m2,m1=m2+1:=⟨m1-1,by omega⟩
   exact⟨a4M hd (fun a b c e f=>ih m2 (by omega) a b c e f) h hm hK hle hc h18,by omega⟩
  rcases SC hs with e|e|e|e|e|e|e
  ·rw[hval (by omega)];omega
  ·rw[hval (by omega)];omega
  ·rw[hval (by omega)];omega
  ·rw[hval (by omega)];omega
  ·obtain⟨⟨hl1,hl2⟩,hv0,hbs⟩:=LD h e
   rw[b3w (by omega) (SB hv0)]
   have h3:=Sm (w:=wW ns m1) (b:=12*(120*25^((d-2)/2))-46) (l:=(Ab ns k).kids.drop 1) fun c hc=>by have:=(hblk c (Iw hc) (hbs c hc)).1;omega
   have h4:((Ab ns k).kids.drop 1).length*(12*(120*25^((d-2)/2))-46)≤2*(12*(120*25^((d-2)/2))-46):=Ki _ (by rw[GW];omega)
   have h5:= @YK (d-2)
   have h6:2≤d:=by
    have hm:=DN (x:=Ab ns k) (i:=1) (by omega)
    have:kd (Ab ns k) 1∈(Ab ns k).kids.drop 1:=by
     have hg:(Ab ns k).kids[1]? =some (Ab ns k).kids[1]:=DS (by omega)
     have e2:=Gh (l:=(Ab ns k).kids) (i:=1) (by omega)
     rw[Dw hg,e2];exact List.mem_cons_self
    exact(hblk _ hm (hbs _ this)).2
   have h7:=p25 d h6
   rw[h7];omega
  ·obtain⟨hl,hv0,hb⟩:=PN h e
   have hm:=DN (x:=Ab ns k) (i:=1) (by omega)
   have h3:=hblk _ hm hb
   have h4:=p25 d h3.2
   have h5:= @YK (d-2)
   rw[b3w (by omega) (SB hv0)]
   have e2:(Ab ns k).kids.drop 1=[kd (Ab ns k) 1]:=by
    have hg:(Ab ns k).kids[1]? =some (Ab ns k).kids[1]:=DS (by omega)
    rw[Dw hg,Gh (by omega),EG (by omega)]
   rw[e2,h4];simp [wL];omega
  ·rw[hval (by omega)];omega
theorem b3x(hd:Da ns K=some ds)(h:BB ns k)(hm:k<m)(hK:k<K)(hk:GJ (Ai ns k)=true)(hle:ds.getD k.toNat 0≤13):wW ns m k+5≤14062500200:=by
 have hr:=BF.1 h.1
 by_cases e:Ai ns k=20
 ·obtain⟨m1,rfl⟩:∃m1,m=m1+1:=⟨m-1,by omega⟩
  obtain⟨hl,hb,hn⟩:=MN h e
  have hmm:=DN (x:=Ab ns k) (i:=(Ab ns k).kids.length-1) (by omega)
  have h1:=CQ h hmm
  obtain⟨m2,rfl⟩:∃m2,m1=m2+1:=⟨m1-1,by omega⟩
  have h2:=a4M hd (fun a b c e f=>Vd hd m2 a b c e f) (d:=13) h hm hK hle hmm hb
  have h3:=US (w:=wW ns (m2+1)) (x:=Ab ns k) (by omega)
  rw[Vc fun c hc=>SB (by rw[hn c hc];rfl)] at h3
  rw[wW,e,if_neg (by decide),if_neg (by decide),←h3]
  have:12*(120*25^((13-2)/2))=14062500000:=by decide
  omega
 ·have hs:Gt (Ai ns k)=true:=by
   simp only[GJ,CG,Bf] at hk
   rcases hk with hk|hk|hk
   ·rw[hk];rfl
   ·exact absurd hk e
   ·rw[hk];rfl
  have h1:=Vd hd m (d:=13) h hm hK hs hle
  have:120*25^(13/2)=29296875000:=by decide
  have hp:Ai ns k=12∨Ai ns k=19:=by
   simp only[GJ,CG,Bf] at hk;omega
  obtain⟨m1,rfl⟩:∃m1,m=m1+1:=⟨m-1,by omega⟩
  have hz:wL (wW ns m1) (Ab ns k).kids=0:=Vc fun c hc=>SB (HP h (by omega) c hc)
  rw[wW,if_neg (by rcases hp with e|e<;>rw[e]<;>decide),if_neg (by omega),hz];omega
theorem b3y(hd:Da ns K=some ds)(h:BB ns k)(hm:k<m)(hK:k<K)(hk:Ai ns k=21):wW ns m k+46≤168750002400:=by
 have hr:=BF.1 h.1
 obtain⟨m1,rfl⟩:∃m1,m=m1+1:=⟨m-1,by omega⟩
 refine a4L (B:=14062500200) h (.inr (.inl hk)) (by omega) fun c hc=> ?_
 have h1:=CQ h hc
 have h2:=LC hd h hK hc
 exact b3x hd h1.1 (by omega) (by omega) (a4J h hk c hc) (by omega)
def MO(k:Int):Bool:=Gt k||(GJ k||decide (k=21))
theorem c8q(hd:Da ns K=some ds)(h:BB ns k)(hm:k<m)(hK:k<K)(hk:MO (Ai ns k)=true):wW ns m k+5≤732421875000:=by
 have hr:=BF.1 h.1
 have hat:=(NY hd k.toNat (by omega)).1
 simp only[MO,CG,Bf] at hk
 rcases hk with hk|hk|hk
 ·have h1:=Vd hd m (d:=14) h hm hK hk (by omega)
  have:120*25^(14/2)=732421875000:=by decide
  omega
 ·by_cases e:Ai ns k=20
  ·obtain⟨m1,rfl⟩:∃m1,m=m1+1:=⟨m-1,by omega⟩
   obtain⟨hl,hb,hn⟩:=MN h e
   have hmm:=DN (x:=Ab ns k) (i:=(Ab ns k).kids.length-1) (by omega)
   have h1:=CQ h hmm
   obtain⟨m2,rfl⟩:∃m2,m1=m2+1:=⟨m1-1,by omega⟩
   have h2:=a4M hd (fun a b c e f=>Vd hd m2 a b c e f) (d:=14) h hm hK (by omega) hmm hb
   have h3:=US (w:=wW ns (m2+1)) (x:=Ab ns k) (by omega)
   rw[Vc fun c hc=>SB (by rw[hn c hc];rfl)] at h3
   rw[wW,e,if_neg (by decide),if_neg (by decide),←h3]
   have:12*(120*25^((14-2)/2))=351562500000:=by decide
   omega
  ·have hs:Gt (Ai ns k)=true:=by
    simp only[GJ,CG,Bf] at hk
    rcases hk with hk|hk|hk
    ·rw[hk];rfl
    ·exact absurd hk e
    ·rw[hk];rfl
   have h1:=Vd hd m (d:=14) h hm hK hs (by omega)
   have:120*25^(14/2)=732421875000:=by decide
   omega
 ·have:=b3y hd h hm hK hk;omega
theorem c8r(hd:Da ns K=some ds)(h:BB ns k)(hm:k<m)(hK:k<K)(hk:Ai ns k=22):wW ns m k+46≤2025000028800:=by
 have hr:=BF.1 h.1
 obtain⟨m1,rfl⟩:∃m1,m=m1+1:=⟨m-1,by omega⟩
 refine a4L (B:=168750002400) h (.inr (.inr hk)) (by omega) fun c hc=> ?_
 have h1:=CQ h hc
 have h2:=LC hd h hK hc
 have h3:=a4K h hk c hc
 simp only[Mk,CG,Bf] at h3
 rcases h3 with h3|h3
 ·have:=b3x hd (m:=m1) h1.1 (by omega) (by omega) h3 (by omega);omega
 ·have:=b3y hd (m:=m1) h1.1 (by omega) (by omega) h3;omega
def jnA(ls:List Aa):Aa:=ls.flatMap fun s=>s++[10]
theorem YL{a b:List Aa}:jnA (a++b)=jnA a++jnA b:=by simp [jnA]
theorem b3z:∀ {ls:List Aa},ls≠[]→jnA ls=jnl [10] ls++[10]
 |[],h=>(h rfl).elim
 |[s],_=>by simp [jnA,jnl]
 |s::t::l,_=>by
  have ih:=b3z (ls:=t::l) (by simp)
  rw[jnl,show s::t::l=[s]++(t::l) from rfl,YL,ih]
  simp [jnA]
def WX(ls:List Aa)(v:List Sg):Prop:=∀s w,LX s w→LX (jnA ls++s) (v.map kt++w)
theorem c8s:WX [] []:=fun s w h=>h
theorem c8t{a b:List Aa}(h:WX a v)(h':WX b v'):WX (a++b) (v++v'):=fun s w hl=>by
 rw[YL,Bz,FJ,Bz]
 exact h _ _ (h' _ _ hl)
theorem c8u{t:Aa}(h:∀s w,LX s w→LX (t++10::s) (v.map kt++w)):WX [blk i++t] v:=fun s w hl=>by
 have:jnA [blk i++t]++s=blk i++(t++10::s):=by simp [jnA]
 rw[this];exact YD (h s w hl)
theorem c8v(hu:KH ns){n:Nat}{ind:Int}{pre post:Aa}{v:Ad}{P Q:List Sg}(hk:0≤k∧k<ns.length)(hn:k<n)(hv:Bg (Ai ns k)=true)
 (hp:RA ([.t pre]++(if Dc pre then [.g true] else [])) P) (hq:∀s w,LX s w→LX (post++s) (Q.map kt++w)) (hx:HX [.t post]):WX (EC (bdP ns n k pre post ind) v) (P++(FL ns k++Q)):=fun s w hl=>by
 obtain⟨T,K,h1,h2,h3⟩:= @c7d [10] ns n k ind pre post v
 have hne:EC (bdP ns n k pre post ind) v≠[]:=fun e=>by rw[e] at h3;simp at h3
 rw[b3z hne,h2]
 have h4:=Oj hp (Jh (b2R hu n hk.1 hk.2 hn hv) hx (LB (PJ hq))) T K (10::s) w h1 (FZ (by decide)) (DM (.inr rfl) hl)
 have:blk ind++T++[10]++s=blk ind++(T++10::s):=by simp
 rw[this];exact YD h4
def AD(s s':Ws)(v:List Sg):Prop:=∃L,s'.ls=s.ls++L∧WX L v
theorem b3A:AD s s []:=⟨[],by simp,c8s⟩
theorem Jk{t u:Ws}(h:AD s t v)(h':AD t u v'):AD s u (v++v'):=by
 obtain⟨L,h1,h2⟩:=h;obtain⟨L',h3,h4⟩:=h'
 exact⟨L++L',by rw[h3,h1,Bz],c8t h2 h4⟩
theorem MP{t:Ws}(h:AD s t v)(e:v'=v):AD s t v':=by rw[e];exact h
theorem KQ{t:Aa}{s:Ws}(h:∀s w,LX s w→LX (t++10::s) (v.map kt++w)):AD s (BO i t s) v:=⟨_,rfl,c8u h⟩
theorem c8w{c:WC}(hu:KH c.ns){n:Nat}{pre post:Aa}{s:Ws}{P Q:List Sg}(hk:0≤k∧k<c.ns.length)(hn:k<n)(hv:Bg (Ai c.ns k)=true)
 (hp:RA ([.t pre]++(if Dc pre then [.g true] else [])) P) (hq:∀s w,LX s w→LX (post++s) (Q.map kt++w)) (hx:HX [.t post]):AD s (Cp c n pre k post i s) (P++(FL c.ns k++Q)):=⟨_,rfl,c8v hu hk hn hv hp hq hx⟩
theorem c8x:AD s (HO ns k s) []:=by
 unfold HO
 split
 ·exact⟨[[]],rfl,fun s w h=>by
   have:jnA [[]]++s=10::s:=by simp [jnA]
   rw[this];exact DM (.inr rfl) h⟩
 ·exact b3A
theorem a4N{ns:List Nd}{f:Int→Int→Ws→Ws}{i:Int}:∀ {l:Ad} {s:Ws},(∀k∈l,∀s,AD s (f k i s) (FL ns k))→AD s (Et ns f i l s) (l.flatMap (FL ns))
 |[],s,_=>b3A
 |k::l,s,h=>by
  rw[Et,GV]
  have h1:=Jk (c8x (ns:=ns) (k:=k) (s:=s)) (h k (by simp) _)
  exact Jk h1 (a4N fun d hd=>h d (by simp [hd]))
theorem b3B(h:∀s w,Nx s→LX s w→LX (u++s) (v.map kt++w)):RA ([.t (u++[32,61])]++(if Dc (u++[32,61]) then [.g true] else [])) (v++[mkS [61]]):=fun t j s w hr hl=>by
 have e:Dc (u++[32,61])=true:=by simp [Dc]
 rw[e,if_pos rfl,List.singleton_append] at hr
 obtain⟨t1,j1,rfl,h1⟩:=YE hr
 have key:LX (t1++s) w∧((t1++s).head?=some 32∨(t1++s).head?=some 10):=by
  obtain⟨t2,j2,rfl|⟨n,rfl⟩,h2⟩:=a4x h1
  ·rw[Oh h2,GE];exact⟨b2C hl,.inl rfl⟩
  ·rw[Oh h2,GE];exact⟨DM (.inr rfl) (YD hl),.inr rfl⟩
 have h5:=h (32::61::(t1++s)) _ (FZ (by decide)) (DM (.inl rfl) (c5N key.2 key.1))
 simpa [kt,mkS,sg0,Bz] using h5
theorem YM(he:Dc u=false)(h:∀s w,LX s w→LX (u++s) (v.map kt++w)):RA ([.t u]++(if Dc u then [.g true] else [])) v:=by
 rw[he,if_neg (by decide),GE];exact PJ h
theorem YN:∀s w,LX s w→LX ([59]++s) ([mkS [59]].map kt++w):=fun s w h=>FE (by decide) h
theorem b3C:∀s w,LX s w→LX ([41,32,123]++s) ([mkS [41],mkS [123]].map kt++w):=fun s w h=>FE (b:=41) (by decide) (DM (.inl rfl) (FE (b:=123) (by decide) h))
theorem c8y:RA ([.t [105,102,32,40]]++(if Dc [105,102,32,40] then [.g true] else [])) [wdS [105,102],mkS [40]]:=YM (by decide) fun s w h=>NW (x:=[105,102]) (by decide) (FZ (by decide)) (DM (.inl rfl) (FE (b:=40) (by decide) h))
theorem c8z:RA ([.t [119,104,105,108,101,32,40]]++(if Dc [119,104,105,108,101,32,40] then [.g true] else [])) [wdS [119,104,105,108,101],mkS [40]]:=YM (by decide) fun s w h=>NW (x:=[119,104,105,108,101]) (by decide) (FZ (by decide)) (DM (.inl rfl) (FE (b:=40) (by decide) h))
theorem c8A:RA ([.t [114,101,116,117,114,110,32]]++(if Dc [114,101,116,117,114,110,32] then [.g true] else [])) [wdS [114,101,116,117,114,110]]:=YM (by decide) fun s w h=>NW (x:=[114,101,116,117,114,110]) (by decide) (FZ (by decide)) (DM (.inl rfl) h)
theorem c8B:RA ([.t []]++(if Dc [] then [.g true] else [])) []:=YM (by decide) fun s w h=>h
theorem c8C(hu:DK u=true):RA ([.t ([118,97,114,32]++u++[32,61])]++(if Dc ([118,97,114,32]++u++[32,61]) then [.g true] else [])) ([wdS [118,97,114],wdS u]++[mkS [61]]):=b3B fun s w hs h=>by
 have:=NW (x:=[118,97,114]) (by decide) (FZ (by decide)) (DM (.inl rfl) (MI hu hs h))
 simpa [kt,wdS,sg0] using this
theorem c8D(hu:DK u=true):RA ([.t (u++[32,61])]++(if Dc (u++[32,61]) then [.g true] else [])) ([wdS u]++[mkS [61]]):=b3B fun s w hs h=>MI hu hs h
theorem Ve:∀s w,LX s w→LX ([125]++10::s) ([mkS [125]].map kt++w):=fun s w h=>FE (b:=125) (by decide) (DM (.inr rfl) h)
theorem c8E:∀s w,LX s w→LX ([125,32,101,108,115,101,32,123]++10::s) ([mkS [125],wdS [101,108,115,101],mkS [123]].map kt++w):=fun s w h=>
 FE (b:=125) (by decide) (DM (.inl rfl) (NW (x:=[101,108,115,101]) (by decide) (FZ (by decide)) (DM (.inl rfl) (FE (b:=123) (by decide) (DM (.inr rfl) h)))))
theorem c8F(hu:KH ns){b:Int}(hb:0≤b∧b<ns.length)(hk:Ai ns b=18):FL ns b=[mkS [123]]++(Ab ns b).kids.flatMap (FL ns)++[mkS [125]]:=by
 have hk:(Ab ns b).kind=18:=hk
 rw[UP hu hb.1 hb.2]
 simp only[Bv,hk,Int.reduceEq,BN,Br]
def MQ(k:Int):Prop:=k=12∨k=13∨k=14∨k=15∨k=16∨k=17∨k=19∨k=20∨k=21
theorem c8G(h:Gt k=true):MQ k:=by have:=SC h;unfold MQ;omega
theorem b3D(h:GJ k=true):MQ k:=by
 simp only[GJ,CG,Bf] at h
 unfold MQ;omega
theorem c8H(h:Mk k=true):MQ k:=by
 simp only[Mk,CG,Bf] at h
 rcases h with h|h
 ·exact b3D h
 ·unfold MQ;omega
theorem b3E{c:WC}(hu:KH c.ns){n:Nat}(hn:c.ns.length≤n):∀(m:Nat) {k i:Int} {s:Ws},(0≤k∧k<c.ns.length)→k<m→MQ (Ai c.ns k)→AD s (wN c n m k i s) (FL c.ns k)
 |0,k,i,s,hk,hm,_=>by omega
 |m+1,k,i,s,hk,hm,hl=>by
  have up:=MF hu hk.1 hk.2
  have hkd:=(CU (DE up)).2.2.2.1
  have hin:∀ {d:Int},d∈(Ab c.ns k).kids→(0≤d∧d<c.ns.length)∧d<m:=fun {d} hd=>by have:=hkd d hd;omega
  have ih:∀ {l:Ad} {i:Int} {s:Ws},(∀d∈l,((0≤d∧d<c.ns.length)∧d<m)∧MQ (Ai c.ns d))→AD s (Et c.ns (wN c n m) i l s) (l.flatMap (FL c.ns)):=fun h=>a4N fun d hd s=>b3E hu hn m (h d hd).1.1 (h d hd).1.2 (h d hd).2
  have ihb:∀ {b i:Int} {s:Ws},b∈(Ab c.ns k).kids→Ai c.ns b=18→AD s (CM c.ns (wN c n m) b i s) ((Ab c.ns b).kids.flatMap (FL c.ns)):=fun {b i s} hb h18=>by
   have hbi:=hin hb
   have upb:=MF hu hbi.1.1 hbi.1.2
   refine ih fun d hd=> ?_
   have:=(CU (DE upb)).2.2.2.1 d hd
   exact⟨by omega,c8G (a4I upb h18 d hd)⟩
  have hvl:∀ {pre post:Aa} {s:Ws} {P Q:List Sg},0<(Ab c.ns k).kids.length→Bg (Ai c.ns (kd (Ab c.ns k) 0))=true→RA ([.t pre]++(if Dc pre then [.g true] else [])) P→(∀s w,LX s w→LX (post++s) (Q.map kt++w))→HX [.t post]→AD s (Cp c n pre (kd (Ab c.ns k) 0) post i s) (P++(FL c.ns (kd (Ab c.ns k) 0)++Q)):=fun h0 hv hp hq hx=>by
   have h1:=hin (DN h0)
   exact c8w hu h1.1 (by omega) hv hp hq hx
  have hs1:HX [.t [59]]:=JY (by decide)
  have hs2:HX [.t [41,32,123]]:=JY (by decide)
  have hnm:= @a4z c.ns k up
  have htx:=YI up
  have sh:=(GN up).2
  have hv0:= @HP c.ns k up
  have hif:= @LD c.ns k up
  have hwh:= @PN c.ns k up
  have hme:= @MN c.ns k up
  have hcl:= @a4J c.ns k up
  have hfb:=fun(b:Int) (hb:b∈(Ab c.ns k).kids) (h:Ai c.ns b=18)=>c8F hu (hin hb).1 h
  unfold MQ at hl
  unfold Ai at hl hv0 hif hwh hme hcl
  rw[UP hu hk.1 hk.2,wN]
  generalize hx:Ab c.ns k=x at*
  have one:0<x.kids.length→x.kids.length≤1→x.kids=[kd x 0]:=fun h1 h2=>by
   have:=b2P h1
   rw[EG h2] at this;exact this
  rcases hl with e|e|e|e|e|e|e|e|e<;>rw[e] at sh htx<;>simp only[wV1,Bv,e,Int.reduceEq,BN,Br]
  ·have hnm:=hnm (.inr (.inr (.inl e)))
   by_cases h0:x.kids.length=0
   ·rw[if_pos (by omega),Hq.1 h0]
    refine KQ fun s w h=> ?_
    have:=NW (x:=[118,97,114]) (by decide) (FZ (by decide)) (DM (b:=32) (.inl rfl) (MI hnm (FZ (by decide)) (FE (b:=59) (by decide) (DM (b:=10) (.inr rfl) h))))
    simpa [kt,mkS,wdS,sg0] using this
   ·have h1:x.kids.length≤1:=by have:(Ci 12).2=1:=rfl;omega
    rw[if_neg (by omega),if_pos (by omega)]
    refine MP (hvl (by omega) (hv0 (.inl e) _ (DN (by omega))) (c8C hnm) YN hs1) ?_
    conv=>lhs;rw[one (by omega) h1]
    simp
  ·have hnm:=hnm (.inr (.inr (.inr (.inl e))))
   have h1:x.kids.length=1:=by have:Ci 13=(1,1):=rfl;rw[this] at sh;omega
   rw[if_pos (by omega)]
   refine MP (hvl (by omega) (hv0 (.inr (.inl e)) _ (DN (by omega))) (c8D hnm) YN hs1) ?_
   conv=>lhs;rw[one (by omega) (by omega)]
   simp
  ·have h1:x.kids.length=1:=by have:Ci 14=(1,1):=rfl;rw[this] at sh;omega
   refine MP (hvl (by omega) (hv0 (.inr (.inr (.inl e))) _ (DN (by omega))) c8B YN hs1) ?_
   conv=>lhs;rw[one (by omega) (by omega)]
   simp
  ·by_cases h0:x.kids.length=0
   ·rw[if_pos (by omega),Hq.1 h0]
    refine KQ fun s w h=> ?_
    exact NW (x:=[114,101,116,117,114,110]) (by decide) (FZ (by decide)) (FE (b:=59) (by decide) (DM (b:=10) (.inr rfl) h))
   ·have h1:x.kids.length≤1:=by have:(Ci 15).2=1:=rfl;omega
    rw[if_neg (by omega)]
    refine MP (hvl (by omega) (hv0 (.inr (.inr (.inr (.inl e)))) _ (DN (by omega))) c8A YN hs1) ?_
    conv=>lhs;rw[one (by omega) h1]
    simp
  ·obtain⟨⟨hl1,hl2⟩,hv,hb⟩:=hif e
   have h1:=hvl (s:=s) (by omega) hv c8y b3C hs2
   have hm1:kd x 1∈x.kids.drop 1:=by
    have hg:x.kids[1]? =some x.kids[1]:=DS (by omega)
    rw[Dw hg,Gh (l:=x.kids) (i:=1) (by omega)];exact List.mem_cons_self
   have b1:=hb _ hm1
   have k1:=Iw hm1
   have h2:=Jk h1 (ihb (i:=i) k1 b1)
   by_cases h3:x.kids.length=3
   ·rw[if_pos (by omega),if_pos h3]
    have hm2:kd x 2∈x.kids.drop 1:=by rw[b2Q h3];simp
    have b2:=hb _ hm2
    have k2:=Iw hm2
    refine MP (Jk (Jk (Jk h2 (KQ (i:=i) c8E)) (ihb (i:=i) k2 b2)) (KQ (i:=i) Ve)) ?_
    rw[hfb _ k1 b1,hfb _ k2 b2];simp
   ·rw[if_neg (by omega),if_neg h3]
    refine MP (Jk h2 (KQ (i:=i) Ve)) ?_
    rw[hfb _ k1 b1];simp
  ·obtain⟨hl1,hv,b1⟩:=hwh e
   have h1:=hvl (s:=s) (by omega) hv c8z b3C hs2
   have k1:kd x 1∈x.kids:=DN (by omega)
   refine MP (Jk (Jk h1 (ihb (i:=i) k1 b1)) (KQ (i:=i) Ve)) ?_
   rw[hfb _ k1 b1];simp
  ·exact KQ fun s w h=>MG (c5L htx) (DM (.inr rfl) h)
  ·have hnm:=hnm (.inr (.inr (.inr (.inr (.inl e)))))
   obtain⟨hl1,b1,hc⟩:=hme e
   have k1:kd x (x.kids.length-1)∈x.kids:=DN (by omega)
   have hp:=b2O hu (l:=x.kids.take (x.kids.length-1)) fun d hd=>⟨(hin (GX hd)).1,hc d hd⟩
   have h1:∀s,AD s (BO i (hdT c.ns x) s) ([wdS x.text]++([mkS [40]]++(BH (FL c.ns) [44] (x.kids.take (x.kids.length-1))++[mkS [41],mkS [123]]))):=fun s=>KQ fun s w h=>by
    have h2:=FE (b:=41) (by decide) (DM (b:=32) (.inl rfl) (FE (b:=123) (by decide) (DM (b:=10) (.inr rfl) h)))
    have h3:=MI hnm (FZ (by decide)) (FE (b:=40) (by decide) (b2N (FZ (by decide)) h2 hp))
    simpa [hdT,kt,mkS,wdS,sg0,Bz] using h3
   refine MP (Jk (Jk (h1 s) (ihb (i:=i) k1 b1)) (KQ (i:=i) Ve)) ?_
   rw[hfb _ k1 b1];simp
  ·have hnm:=hnm (.inr (.inr (.inr (.inr (.inr e)))))
   have h1:∀s,AD s (BO i ([99,108,97,115,115,32]++x.text++[32,123]) s) [wdS [99,108,97,115,115],wdS x.text,mkS [123]]:=fun s=>KQ fun s w h=>by
    have h2:=NW (x:=[99,108,97,115,115]) (by decide) (FZ (by decide)) (DM (b:=32) (.inl rfl) (MI hnm (FZ (by decide)) (DM (b:=32) (.inl rfl) (FE (b:=123) (by decide) (DM (b:=10) (.inr rfl) h)))))
    simpa [kt,mkS,wdS,sg0,Bz] using h2
   refine MP (Jk (Jk (h1 s) (ih (i:=i+2) fun d hd=>⟨hin hd,b3D (hcl e d hd)⟩)) (KQ (i:=i) Ve)) ?_
   simp
end Go.My
end
section
namespace Go.My
open Go.Eng Go.Proofs
variable {G:GInv}
variable {a i k o:Int}{c:BC}{e x:Nd}{en op:Aa}{ks:Ad}{n:Nat}{s t u z:Bs}
abbrev zBW (x:List Ru×List Ch×List Sn×List Ti×Aa×Int):Bs:=⟨x.1,x.2.1,x.2.2.1,x.2.2.2.1,x.2.2.2.2.1⟩
abbrev zI (x:List Ru×List Ch×List Sn×List Ti×Aa×Int):Int:=x.2.2.2.2.2
def isB(w t:Bs):Prop:=t=w
structure vlP (ns:List Nd) (n:Nat) (s:Bs) (k a:Int):Prop where
 up:BB ns k
 lt:k<n
 vl:Bg (Ai ns k)=true
 rm:bR (tW ns n k) s
 ar:0≤a∧a≤40
def Dd(c:BC)(n:Nat)(s:Bs)(k a:Int)(o:Int)(t:Bs):Prop:=t=bV c.ns c.rd n k a s∧o=JU c.rd (Ab c.ns k) s
def kdP(ns:List Nd)(n:Nat)(ks:Ad):Prop:=∀c∈ks,BB ns c∧c<n∧Bg (Ai ns c)=true
theorem YO{ns:List Nd}{rd:Bool}(h:kdP ns n ks):stp rd (tW ns n) (bV ns rd n) ks:=fun c hc a s=>PD (h c hc).1 (h c hc).2.1 (h c hc).2.2
theorem SD(h:0≤a∧a≤40):0≤up4 a∧up4 a≤40:=by unfold up4;omega
structure liP (c:BC) (n:Nat) (s:Bs) (op:Aa) (ks:Ad) (en:Aa) (a:Int):Prop where
 kd:kdP c.ns n ks
 kl:ks.length≤12
 ol:op.length≤1
 el:en.length≤1
 rm:bR (28+wL (tW c.ns n) ks) s
 ar:0≤a∧a≤40
def liR(c:BC)(s:Bs)(op:Aa):Int:=AP c.rd (As op s)
def li0(c:BC)(s:Bs)(op:Aa)(ks:Ad)(a:Int):Bs:=AZ (liR c s op) 1 false (up4 a) (Bx c.rd (min (ks.length:Int) 2+1) 1 (As op s))
def a4O(c:BC)(n:Nat)(s:Bs)(op:Aa)(ks:Ad)(a:Int):Ad→Int→Bs→Bs:=itF (bV c.ns c.rd n) (liR c s op) (min (ks.length:Int) 2) (up4 a)
def liI(c:BC)(n:Nat)(s:Bs)(op:Aa)(ks:Ad)(a:Int)(i:Int)(t:Bs):Prop:=
 LA (a4O c n s op ks a) (fun k=>2+tW c.ns n k) ks 2 (li0 c s op ks a) i t
theorem c8I:wL (fun k=>2+tW c.ns n k) ks=2*ks.length+wL (tW c.ns n) ks:=UY
theorem a4P(h:liP c n s op ks en a):bR (27+wL (tW c.ns n) ks) (As op s):=Ob h.rm (by have:=h.ol;omega)
theorem b3F(h:liP c n s op ks en a):bB (As op s):=Ge (a4P h)
theorem c8J(h:liP c n s op ks en a)(ht:t=Bx c.rd (min (ks.length:Int) 2+1) 1 (As op s)):bB t:=by subst ht;exact Ge (Lz (a4P h))
theorem c8K(h:liP c n s op ks en a)(hu:u=AZ (AP c.rd (As op s)) 1 false (min (a+4) 40) t)(ht:t=Bx c.rd (min (ks.length:Int) 2+1) 1 (As op s)):liI c n s op ks a 0 u:=by
 subst hu;subst ht
 have h1:bR (wL (fun k=>2+tW c.ns n k) ks+2) (li0 c s op ks a):=by
  rw[c8I];exact Oc (Lz (a4P h)) (by have:=h.kl;omega)
 exact Yw (F:=a4O c n s op ks a) h1
theorem liS(h:liP c n s op ks en a):lpS c.rd (a4O c n s op ks a) (itS (bV c.ns c.rd n) (liR c s op) (min (ks.length:Int) 2) (up4 a)) (fun k=>2+tW c.ns n k) ks:=c6x (YO h.kd)
theorem b3G(h:liI c n s op ks a i t):0≤i∧i≤ks.length:=UX h
theorem YP(h:liI c n s op ks a i t)(hc:ks[i.toNat]? =some k):bR (tW c.ns n k+2) t:=ED (Yx h hc) (by omega)
theorem b3H(h:liI c n s op ks a i t)(hc:ks[i.toNat]? =some k):t.text.length≤2^61:=Sr (Ge (YP h hc))
theorem c8L(h:liI c n s op ks a i t)(hc:ks[i.toNat]? =some k):bB (As [44] t):=Ge (m:=1) (Ob (YP h hc) (by show 1+1≤_;omega))
theorem c8M(h:liI c n s op ks a i t)(hx:liP c n s op ks en a)(hc:ks[i.toNat]? =some k):vlP c.ns n t k (min (a+4) 40):=
 ⟨(hx.kd k (Bq hc)).1,(hx.kd k (Bq hc)).2.1,(hx.kd k (Bq hc)).2.2,ED (YP h hc) (by omega),SD hx.ar⟩
theorem c8N(h:liI c n s op ks a i t)(hu:u=AZ (AP c.rd (As op s)) (min (ks.length:Int) 2) true (min (a+4) 40) (As [44] t))(hx:liP c n s op ks en a)(hc:ks[i.toNat]? =some k):vlP c.ns n u k (min (a+4) 40):=by
 subst hu
 exact⟨(hx.kd k (Bq hc)).1,(hx.kd k (Bq hc)).2.1,(hx.kd k (Bq hc)).2.2,Oc (Ob (n:=tW c.ns n k+1) (YP h hc) (by simp)) (by omega),SD hx.ar⟩
theorem c8O(hu:Dd c n t k (min (a+4) 40) o u)(h:liI c n s op ks a i t)(hx:liP c n s op ks en a)(hc:ks[i.toNat]? =some k)(hi:¬i>0):liI c n s op ks a (i+1) u:=by
 have:=UW (liS hx) h hc
 have e:i=0:=by have:=(UX h);omega
 rw[hu.1]
 rw[itS,if_pos e] at this
 exact this
theorem c8P{v:Bs}(h:liI c n s op ks a i t)(hu:Dd c n v k (min (a+4) 40) o u)(hv:v=AZ (AP c.rd (As op s)) (min (ks.length:Int) 2) true (min (a+4) 40) (As [44] t))(hx:liP c n s op ks en a)(hc:ks[i.toNat]? =some k)(hi:i>0):liI c n s op ks a (i+1) u:=by
 have:=UW (liS hx) h hc
 rw[hu.1,hv]
 rw[itS,if_neg (by omega)] at this
 exact this
theorem c8Q(h:liI c n s op ks a i t)(hx:liP c n s op ks en a)(hi:¬i<ks.length):bB t:=Ge (Su (liS hx) h hi).2
theorem c8R(hu:u=AZ (AP c.rd (As op s)) 1 false a t)(h:liI c n s op ks a i t)(hx:liP c n s op ks en a)(hi:¬i<ks.length):u.text.length≤2^61:=by
 subst hu
 exact Sr (Ge (m:=1) (Oc (Su (liS hx) h hi).2 (by omega)))
theorem c8S(hu:u=AZ (AP c.rd (As op s)) 1 false a t)(h:liI c n s op ks a i t)(hx:liP c n s op ks en a)(hi:¬i<ks.length)(hk:(ks.length:Int)>0):isB (FF c.rd (bV c.ns c.rd n) op ks en a s) (As en u):=by
 have:=(Su (liS hx) h hi).1
 subst hu
 unfold isB
 rw[FF,if_neg (by intro e;rw[e] at hk;simp at hk),this,show((min ks.length 2:Nat):Int)=min (ks.length:Int) 2 by omega]
 rfl
theorem c8T(hk:¬(ks.length:Int)>0):isB (FF c.rd (bV c.ns c.rd n) op ks en a s) (As en (As op s)):=by
 unfold isB;rw[FF,if_pos (Qv (by omega))]
attribute [local irreducible] liI
structure cnP (c:BC) (n:Nat) (s:Bs) (x:Nd) (a:Int):Prop where
 kd:kdP c.ns n x.kids
 kl:x.kids.length≤12
 tl:x.text.length≤2
 rm:bR (60+wL (tW c.ns n) x.kids) s
 ar:0≤a∧a≤40
def a4Q(c:BC)(n:Nat)(s:Bs)(x:Nd)(a:Int):Ad→Int→Bs→Bs:=Yy c.ns (bV c.ns c.rd n) (AP c.rd s) a x.text
def DI(c:BC)(n:Nat)(s:Bs)(x:Nd)(a:Int)(i:Int)(t:Bs):Prop:=LA (a4Q c n s x a) (fun k=>4+tW c.ns n k) x.kids 2 (Bx c.rd 2 1 s) i t
def cnB(c:BC)(s:Bs)(x:Nd)(a:Int)(i:Int)(z:Bs):Bs:=if i=0 then z else AZ (AP c.rd s) 1 true a (As (32::x.text) z)
def cnJ(c:BC)(n:Nat)(s:Bs)(x:Nd)(a:Int)(z:Bs)(i k:Int)(t:Bs):Prop:=(DI c n s x a i z∧x.kids[i.toNat]? =some k)∧t=cnB c s x a i z
def PO(c:BC)(n:Nat)(s:Bs)(kind a k:Int)(z:Bs):Bs:=if Ai c.ns k=kind then DY (Es z.rules.length (bV c.ns c.rd n k a z)) (AP c.rd s) (bV c.ns c.rd n k a z) else bV c.ns c.rd n k a z
def cnK(c:BC)(n:Nat)(s:Bs)(x:Nd)(a:Int)(z:Bs)(i:Int)(t:Bs)(e kind:Int):Prop:=
 ∃k u,(cnJ c n s x a z i k u∧kind=Ai c.ns k)∧(e=u.chunks.length∧t=PO c n s 7 a k u)
def cnQ(c:BC)(n:Nat)(s:Bs)(x:Nd)(a:Int)(o:Int)(t:Bs):Prop:=t=NX c.ns c.rd (bV c.ns c.rd n) x a s∧o=AP c.rd s
theorem cnS(h:cnP c n s x a):lpS c.rd (a4Q c n s x a) (Yz c.ns (bV c.ns c.rd n) (AP c.rd s) a x.text) (fun k=>4+tW c.ns n k) x.kids:=c6y h.tl (YO h.kd)
theorem c8U(h:cnP c n s x a)(ht:t=Bx c.rd 2 1 s):DI c n s x a 0 t:=by
 subst ht
 have h1:bR (wL (fun k=>4+tW c.ns n k) x.kids+2) (Bx c.rd 2 1 s):=by
  rw[UY];exact ED (Lz h.rm) (by have:=h.kl;omega)
 exact Yw (F:=a4Q c n s x a) h1
theorem YQ(h:DI c n s x a i t):0≤i∧i≤x.kids.length:=UX h
theorem a4R(h:DI c n s x a i t)(hc:x.kids[i.toNat]? =some k):bR (tW c.ns n k+4+2) t:=ED (Yx h hc) (by omega)
theorem c8V(h:DI c n s x a i t)(hc:x.kids[i.toNat]? =some k):t.text.length+6≤2^61:=by
 have:=(a4R h hc).2;unfold tot at this;omega
theorem b3I(hx:cnP c n s x a)(h:DI c n s x a i t)(hc:x.kids[i.toNat]? =some k):bR (tW c.ns n k+3) (As (32::x.text) t):=Ob (a4R h hc) (by have:=hx.tl;rw[AE];omega)
theorem c8W(h:DI c n s x a i t)(hc:x.kids[i.toNat]? =some k)(hi:¬i>0):cnJ c n s x a t i k t:=⟨⟨h,hc⟩,by rw[cnB,if_pos (by have:=YQ h;omega)]⟩
theorem c8X(h:DI c n s x a i t)(hu:u=AZ (AP c.rd s) 1 true a (As (32::x.text) t))(hc:x.kids[i.toNat]? =some k)(hi:i>0):cnJ c n s x a t i k u:=⟨⟨h,hc⟩,by rw[cnB,if_neg (by omega)];exact hu⟩
theorem YR(hx:cnP c n s x a)(h:cnJ c n s x a z i k t):bR (tW c.ns n k+2) t:=by
 rw[h.2,cnB]
 split
 ·exact ED (a4R h.1.1 h.1.2) (by omega)
 ·exact Oc (b3I hx h.1.1 h.1.2) (by omega)
theorem b3J(h:cnJ c n s x a z i k t)(hx:cnP c n s x a):vlP c.ns n t k a:=by
 have hk:=hx.kd k (Bq h.1.2)
 exact⟨hk.1,hk.2.1,hk.2.2,ED (YR hx h) (by omega),hx.ar⟩
theorem a4S{m:Nat}(h:vlP c.ns n s k a)(hq:Dd c n s k a o t)(hm:bR (tW c.ns n k+m) s):bR m t:=by
 rw[hq.1]
 exact Ss hm (PD (rd:=c.rd) h.up h.lt h.vl) (by omega)
theorem b3K(h:cnJ c n s x a z i k t)(hu:Dd c n t k a o u)(hx:cnP c n s x a):bB u:=Ge (a4S (b3J h hx) hu (YR hx h))
theorem c8Y(h:cnJ c n s x a z i k t)(hx:cnP c n s x a):(0≤k∧k<c.ns.length)∧t.chunks.length≤79:=⟨BF.1 (hx.kd k (Bq h.1.2)).1.1,(YR hx h).1.ch⟩
theorem Iq{ns:List Nd}(h:ns[k.toNat]? =some e):Ai ns k=e.kind:=by rw[Ai,BR h]
theorem c8Z(h:cnJ c n s x a z i k t)(hu:Dd c n t k a o u)(he:c.ns[k.toNat]? =some e)(hk:¬e.kind=7):cnK c n s x a z i u t.chunks.length e.kind:=
 ⟨k,t,⟨h,(Iq he).symm⟩,rfl,by rw[PO,if_neg (by rw[Iq he];exact hk)];exact hu.1⟩
theorem c9a{v:Bs}(h:cnJ c n s x a z i k t)(hu:Dd c n t k a o u)(hv:v=DY o (AP c.rd s) u)(hx:cnP c n s x a)(he:c.ns[k.toNat]? =some e)(hk:e.kind=7):cnK c n s x a z i v t.chunks.length e.kind:=by
 refine⟨k,t,⟨h,(Iq he).symm⟩,rfl,?_⟩
 have hkp:=hx.kd k (Bq h.1.2)
 rw[PO,if_pos (by rw[Iq he];exact hk),YA hkp.1 hkp.2.1 (.inl (by rw[Iq he];exact hk)),hv,hu.1,hu.2]
theorem a4T{e kind:Int}(h:cnK c n s x a z i t e kind)(hx:cnP c n s x a):bB t:=by
 obtain⟨k,u,⟨h1,_⟩,_,h2⟩:=h
 have hb:=b3K (o:=JU c.rd (Ab c.ns k) u) h1 ⟨rfl,rfl⟩ hx
 rw[h2,PO]
 split
 ·exact⟨a3U hb.ok,by have:=(a3T (rd:=true) (k:=Es u.rules.length (bV c.ns c.rd n k a u)) (u:=AP c.rd s) (s:=bV c.ns c.rd n k a u)).tt;have:=hb.tt;omega⟩
 ·exact hb
theorem b3L{e kind:Int}(h:cnK c n s x a z i t e kind)(hx:cnP c n s x a):DI c n s x a (i+1) (if kind=1∨kind=2∨kind=3 then t else Il e t):=by
 obtain⟨k,u,⟨h1,hk⟩,he,h2⟩:=h
 have:=UW (cnS hx) h1.1.1 h1.1.2
 rw[Yz,show(if i=0 then z else AZ (AP c.rd s) 1 true a (As (32::x.text) z))=u from h1.2.symm,KI] at this
 rw[hk,he,h2]
 exact this
theorem c9b(h:DI c n s x a i t)(hx:cnP c n s x a)(hi:¬i<x.kids.length):cnQ c n s x a (AP c.rd s) t:=⟨(Su (cnS hx) h hi).1,rfl⟩
attribute [local irreducible] DI cnJ cnK
abbrev wB (x:List Ru×List Ch×List Sn×List Ti×Aa×Int×Int):Bs:=⟨x.1,x.2.1,x.2.2.1,x.2.2.2.1,x.2.2.2.2.1⟩
end Go.My
end
section
namespace Go.My
open Go.Eng Go.Proofs
variable {G:GInv}
variable {a i k o:Int}{c:BC}{n:Nat}{s t u z:Bs}{x:Nd}
structure pnP (c:BC) (n:Nat) (s:Bs) (x:Nd) (a:Int):Prop where
 kd:kdP c.ns n x.kids
 kl:x.kids.length≤3
 rm:bR (60+wL (tW c.ns n) x.kids) s
 ar:0≤a∧a≤40
def pnF(c:BC)(n:Nat)(s:Bs)(a:Int):Ad→Int→Bs→Bs:=pkL c.ns (bV c.ns c.rd n) (AP c.rd s) a
def pnI(c:BC)(n:Nat)(s:Bs)(x:Nd)(a:Int)(i:Int)(t:Bs):Prop:=LA (pnF c n s a) (fun k=>3+tW c.ns n k) x.kids 2 (Bx c.rd 2 1 s) i t
def pnB(c:BC)(s:Bs)(a:Int)(i:Int)(z:Bs):Bs:=if i=0 then z else As (pkT i) (AZ (AP c.rd s) 1 true a z)
def pnJ(c:BC)(n:Nat)(s:Bs)(x:Nd)(a:Int)(z:Bs)(i k:Int)(t:Bs):Prop:=(pnI c n s x a i z∧x.kids[i.toNat]? =some k)∧t=pnB c s a i z
def pnQ(c:BC)(n:Nat)(s:Bs)(x:Nd)(a:Int)(o:Int)(t:Bs):Prop:=t=PB c.ns c.rd (bV c.ns c.rd n) x a s∧o=AP c.rd s
theorem pnS(h:pnP c n s x a):lpS c.rd (pnF c n s a) (pkS c.ns (bV c.ns c.rd n) (AP c.rd s) a) (fun k=>3+tW c.ns n k) x.kids:=c6z (YO h.kd)
theorem c9c(h:pnP c n s x a)(ht:t=Bx c.rd 2 1 s):pnI c n s x a 0 t:=by
 subst ht
 have h1:bR (wL (fun k=>3+tW c.ns n k) x.kids+2) (Bx c.rd 2 1 s):=by
  rw[UY];exact ED (Lz h.rm) (by have:=h.kl;omega)
 exact Yw (F:=pnF c n s a) h1
theorem a4U(h:pnI c n s x a i t):0≤i∧i≤x.kids.length:=UX h
theorem a4V(h:pnI c n s x a i t)(hc:x.kids[i.toNat]? =some k):bR (tW c.ns n k+3+2) t:=ED (Yx h hc) (by omega)
theorem c9d(h:pnI c n s x a i t)(hc:x.kids[i.toNat]? =some k):bB t:=Ge (a4V h hc)
theorem b3M(h:pnI c n s x a i t)(hu:u=AZ (AP c.rd s) 1 true a t)(hc:x.kids[i.toNat]? =some k):bR (tW c.ns n k+4) u:=by
 subst hu;exact Oc (a4V h hc) (by omega)
theorem c9e(h:pnI c n s x a i t)(hu:u=AZ (AP c.rd s) 1 true a t)(hc:x.kids[i.toNat]? =some k):u.text.length+4≤2^61:=by
 have:=(b3M h hu hc).2;unfold tot at this;omega
theorem c9f(h:pnI c n s x a i t)(hc:x.kids[i.toNat]? =some k)(hi:¬i>0):pnJ c n s x a t i k t:=⟨⟨h,hc⟩,by rw[pnB,if_pos (by have:=a4U h;omega)]⟩
theorem c9g(h:pnI c n s x a i t)(hc:x.kids[i.toNat]? =some k)(hi:i>0)(hu:u=AZ (AP c.rd s) 1 true a t):pnJ c n s x a t i k (As (pkT i) u):=⟨⟨h,hc⟩,by rw[pnB,if_neg (by omega),hu]⟩
theorem a4W(h:pnJ c n s x a z i k t):bR (tW c.ns n k+2) t:=by
 rw[h.2,pnB]
 split
 ·exact ED (a4V h.1.1 h.1.2) (by omega)
 ·exact Ob (b3M h.1.1 rfl h.1.2) (by have:= @a3W i;omega)
theorem b3N(h:pnJ c n s x a z i k t)(hx:pnP c n s x a):vlP c.ns n t k a:=by
 have hk:=hx.kd k (Bq h.1.2)
 exact⟨hk.1,hk.2.1,hk.2.2,ED (a4W h) (by omega),hx.ar⟩
theorem c9h(h:pnJ c n s x a z i k t)(hu:Dd c n t k a o u)(hx:pnP c n s x a):bB u:=Ge (a4S (b3N h hx) hu (a4W h))
theorem c9i(h:pnJ c n s x a z i k t)(hx:pnP c n s x a):0≤k∧k<c.ns.length:=BF.1 (hx.kd k (Bq h.1.2)).1.1
theorem b3O(h:pnJ c n s x a z i k t)(hx:pnP c n s x a):pnI c n s x a (i+1) (PO c n s 8 a k t):=by
 have:=UW (pnS hx) h.1.1 h.1.2
 rw[pkS,show(if i=0 then z else As (pkT i) (AZ (AP c.rd s) 1 true a z))=t from h.2.symm,KJ] at this
 exact this
theorem c9j{e:Nd}(h:pnJ c n s x a z i k t)(hu:Dd c n t k a o u)(hx:pnP c n s x a)(he:c.ns[k.toNat]? =some e)(hk:¬e.kind=8):pnI c n s x a (i+1) u:=by
 have:=b3O h hx
 rw[PO,if_neg (by rw[Iq he];exact hk),←hu.1] at this;exact this
theorem c9k{v:Bs}{e:Nd}(h:pnJ c n s x a z i k t)(hu:Dd c n t k a o u)(hv:v=DY o (AP c.rd s) u)(hx:pnP c n s x a)(he:c.ns[k.toNat]? =some e)(hk:e.kind=8):pnI c n s x a (i+1) v:=by
 have:=b3O h hx
 have hkp:=hx.kd k (Bq h.1.2)
 rw[PO,if_pos (by rw[Iq he];exact hk),YA hkp.1 hkp.2.1 (.inr (by rw[Iq he];exact hk)),←hu.2,←hu.1,←hv] at this;exact this
theorem c9l(h:pnI c n s x a i t)(hx:pnP c n s x a)(hi:¬i<x.kids.length):pnQ c n s x a (AP c.rd s) t:=⟨(Su (pnS hx) h hi).1,rfl⟩
theorem b3P{l:Aa}(h:([[],[63,32],[58,32]]:List Aa)[i.toNat]? =some l)(hi:i>0):l=pkT i∧l.length≤2:=by
 have hlt:=(Ec h).1
 simp only[AE,AX] at hlt
 have:i=1∨i=2:=by omega
 rcases this with rfl|rfl
 ·simp at h;subst h;exact⟨rfl,by simp⟩
 ·simp at h;subst h;exact⟨rfl,by simp⟩
theorem c9m{l:Aa}(h:pnI c n s x a i t)(hc:x.kids[i.toNat]? =some k)(hi:i>0)(hu:u=AZ (AP c.rd s) 1 true a t)(hl:([[],[63,32],[58,32]]:List Aa)[i.toNat]? =some l):pnJ c n s x a t i k (As l u):=by
 rw[(b3P hl hi).1];exact c9g h hc hi hu
attribute [local irreducible] pnI pnJ
structure fnP (c:BC) (n:Nat) (s:Bs) (x:Nd) (a:Int):Prop where
 kd:kdP c.ns n x.kids
 kl:1≤x.kids.length∧x.kids.length≤12
 nm:∀k∈x.kids,k∈x.kids.take (x.kids.length-1)→(Ab c.ns k).text.length≤30
 rm:bR (80+wL (tW c.ns n) x.kids) s
 ar:0≤a∧a≤40
def fnT(x:Nd):Ad:=x.kids.take (x.kids.length-1)
def fnQ(c:BC)(n:Nat)(s:Bs)(x:Nd)(a:Int)(t:Bs):Prop:=t=bFn c.ns c.rd (bV c.ns c.rd n) x a s
theorem Ok{x:Nd}:(fnT x).length=x.kids.length-1:=by rw[fnT,DU];omega
theorem b3Q{i:Nat}(h:(fnT x)[i]? =some k):k∈x.kids:=GX (Bq h)
theorem c9n{i:Nat}(hx:fnP c n s x a)(h:(fnT x)[i]? =some k):0≤k∧k<c.ns.length:=BF.1 (hx.kd k (b3Q h)).1.1
theorem a4X(hx:fnP c n s x a):bR (20+tW c.ns n (kd x (x.kids.length-1))) (As (ET c.ns x++[32,61,62]) s):=by
 have h1:=Sj (ns:=c.ns) (w:=tW c.ns n) (l:=fnT x) (first:=true) fun k hk=>by
  have h2:=hx.kd k (GX hk)
  have h3:=BF.1 h2.1.1
  rw[show n=(n-1)+1 by omega];exact b1I
 have h2:=US (w:=tW c.ns n) (x:=x) (by have:=hx.kl;omega)
 have h3:= @Ok x;have h4:=hx.kl
 refine Ob hx.rm ?_
 rw[ET]
 simp only[fnT] at h1 h3
 simp only[Ba,AE,AX];omega
theorem c9o(ht:t=Bx c.rd 2 2 (As (ET c.ns x++[32,61,62]) s))(hx:fnP c n s x a):bB t:=by subst ht;exact Ge (Lz (a4X hx))
theorem c9p(hu:u=AZ (AP c.rd (As (ET c.ns x++[32,61,62]) s)) 1 true a t)(ht:t=Bx c.rd 2 2 (As (ET c.ns x++[32,61,62]) s))(hx:fnP c n s x a)(hk:x.kids[((x.kids.length:Int)-1).toNat]? =some k):vlP c.ns n u k a:=by
 subst hu;subst ht
 have h1:=hx.kd k (Bq hk)
 have h2:=hx.kl
 rw[show((x.kids.length:Int)-1).toNat=x.kids.length-1 by omega] at hk
 exact⟨h1.1,h1.2.1,h1.2.2,Oc (Lz (a4X hx)) (by rw[Dw hk];omega),hx.ar⟩
theorem c9q{v:Bs}(hv:Dd c n u k a o v)(hu:u=AZ (AP c.rd (As (ET c.ns x++[32,61,62]) s)) 1 true a t)(ht:t=Bx c.rd 2 2 (As (ET c.ns x++[32,61,62]) s))(hx:fnP c n s x a)(hk:x.kids[((x.kids.length:Int)-1).toNat]? =some k):fnQ c n s x a v:=by
 have h1:=hx.kl
 rw[show((x.kids.length:Int)-1).toNat=x.kids.length-1 by omega] at hk
 rw[fnQ,bFn,Dw hk,hv.1,hu,ht]
end Go.My
end
section
namespace Go.My
open Go.Eng Go.Proofs
variable {G:GInv}
variable {a d i k o:Int}{c:BC}{n:Nat}{ns:List Nd}{s t u:Bs}
theorem c9r(h:vlP ns n s k a):ns[k.toNat]? =some (Ab ns k):=by
 have hr:=BF.1 h.up.1
 have e:ns[k.toNat]? =some ns[k.toNat]:=DS (by omega)
 rw[BR e];exact e
theorem Ol(h:vlP ns (n+1) s k a):kdP ns n (Ab ns k).kids:=fun c hc=>by
 have hm:=CQ h.up hc
 have:=h.lt
 exact⟨hm.1,by omega,Sl h.up h.vl hc⟩
theorem PP(h:vlP ns n s k a):(Ab ns k).kids.length≤12:=(CU (DE h.up)).2.1
theorem Om(h:vlP ns (n+1) s k a):bR ((Ab ns k).text.length+80+wL (tW ns n) (Ab ns k).kids) s:=h.rm
theorem b3R(h:vlP ns n s k a)(h1:¬(Ab ns k).kind=1)(h2:¬(Ab ns k).kind=2)(h3:¬(Ab ns k).kind=3)(h4:¬(Ab ns k).kind=4):0<(Ab ns k).kids.length:=by
 have hv:=Cm.1 h.vl
 have hlo:=(GN h.up).2.1
 unfold Ai at hv
 unfold Ci at hlo
 split at hlo
 ·omega
 ·split at hlo
  ·simp only at hlo;omega
  ·split at hlo
   ·simp only at hlo;omega
   ·split at hlo
    ·simp only at hlo;omega
    ·split at hlo
     ·simp only at hlo;omega
     ·omega
theorem PQ(h:vlP c.ns (n+1) s k a)(hd:(Ab c.ns k).kids[(0:Nat)]? =some d)(ht:bR ((Ab c.ns k).text.length+79+wL (tW c.ns n) (Ab c.ns k).kids) t):vlP c.ns n t d a∧∀ {o:Int} {u:Bs},Dd c n t d a o u→bR ((Ab c.ns k).text.length+79+wL (tW c.ns n) ((Ab c.ns k).kids.drop 1)) u:=by
 have hk:=Ol h d (Bq hd)
 have e:wL (tW c.ns n) (Ab c.ns k).kids=tW c.ns n d+wL (tW c.ns n) ((Ab c.ns k).kids.drop 1):=by
  have:=GI hd
  rw[GU] at this
  conv=>lhs;rw[this]
  rw[Dy]
 have hp:vlP c.ns n t d a:=⟨hk.1,hk.2.1,hk.2.2,ED ht (by omega),h.ar⟩
 exact⟨hp,fun {o u} hq=>a4S hp hq (ED ht (by omega))⟩
theorem PS(ht:t=bV1 c.ns c.rd (bV c.ns c.rd n) (Ab c.ns k) a s)(hk:¬(Ab c.ns k).kind=7)(hk2:¬(Ab c.ns k).kind=8):Dd c (n+1) s k a (-1) t:=by
 refine⟨by rw[bV];exact ht,?_⟩
 rw[JU,if_neg (by intro hh;rcases hh with hh|hh;exact hk hh;exact hk2 hh)]
theorem c9s(hk:(Ab c.ns k).kind=1∨(Ab c.ns k).kind=2∨(Ab c.ns k).kind=3):Dd c (n+1) s k a (-1) (As (Ab c.ns k).text s):=
 PS (by rw[bV1,if_pos hk]) (by omega) (by omega)
theorem c9t(h:vlP c.ns (n+1) s k a):s.text.length+(Ab c.ns k).text.length+80≤2^61:=by
 have:=(Om h).2;unfold tot at this;omega
theorem b3S(h:vlP c.ns (n+1) s k a):bR ((Ab c.ns k).text.length+79+wL (tW c.ns n) (Ab c.ns k).kids) (As [40] s):=Ob (Om h) (by show _+1≤_;omega)
theorem c9u(h:vlP c.ns (n+1) s k a)(hd:(Ab c.ns k).kids[(0:Nat)]? =some d):vlP c.ns n (As [40] s) d a:=(PQ h hd (b3S h)).1
theorem c9v(h:vlP c.ns (n+1) s k a)(hu:Dd c n (As [40] s) d a o u)(hd:(Ab c.ns k).kids[(0:Nat)]? =some d):u.text.length+79≤2^61:=by
 have:=((PQ h hd (b3S h)).2 hu).2;unfold tot at this;omega
theorem c9w{r1:List Ru}{r2:List Ch}{r3:List Sn}{r4:List Ti}{r5:Aa}(hu:Dd c n (As [40] s) d a o ⟨r1,r2,r3,r4,r5⟩)(hd:(Ab c.ns k).kids[(0:Nat)]? =some d)(hk:(Ab c.ns k).kind=11):Dd c (n+1) s k a (-1) ⟨r1,r2,r3,r4,r5++[41]⟩:=
 PS (by rw[bV1,if_neg (by omega),if_pos hk,Dw hd,←hu.1];rfl) (by omega) (by omega)
theorem Vf(h:vlP c.ns (n+1) s k a):bR ((Ab c.ns k).text.length+79+wL (tW c.ns n) (Ab c.ns k).kids) s:=ED (Om h) (by omega)
theorem c9x(h:vlP c.ns (n+1) s k a)(hd:(Ab c.ns k).kids[(0:Nat)]? =some d):vlP c.ns n s d a:=(PQ h hd (Vf h)).1
theorem c9y(h:vlP c.ns (n+1) s k a)(hu:Dd c n s d a o u)(hd:(Ab c.ns k).kids[(0:Nat)]? =some d):u.text.length+(Ab c.ns k).text.length+79≤2^61:=by
 have:=((PQ h hd (Vf h)).2 hu).2;unfold tot at this;omega
theorem c9z(hu:Dd c n s d a o u)(hd:(Ab c.ns k).kids[(0:Nat)]? =some d)(hk:(Ab c.ns k).kind=6):Dd c (n+1) s k a (-1) (As (46::(Ab c.ns k).text) u):=
 PS (by rw[bV1,if_neg (by omega),if_neg (by omega),if_pos hk,Dw hd,hu.1]) (by omega) (by omega)
theorem c9A(h:vlP c.ns (n+1) s k a):liP c n s [91] (Ab c.ns k).kids [93] a:=⟨Ol h,PP h,by simp,by simp,ED (Om h) (by omega),h.ar⟩
theorem c9B(hu:isB (FF c.rd (bV c.ns c.rd n) [91] (Ab c.ns k).kids [93] a s) u)(hk:(Ab c.ns k).kind=4):Dd c (n+1) s k a (-1) u:=
 PS (by rw[bV1,if_neg (by omega),if_neg (by omega),if_neg (by omega),if_pos hk];exact hu) (by omega) (by omega)
theorem c9C(h:vlP c.ns (n+1) s k a)(hu:Dd c n s d a o u)(hd:(Ab c.ns k).kids[(0:Nat)]? =some d):liP c n u [40] ((Ab c.ns k).kids.drop 1) [41] a:=
 ⟨fun e he=>Ol h e (Iw he),by have:=PP h;rw[GW];omega,by simp,by simp,ED ((PQ h hd (Vf h)).2 hu) (by omega),h.ar⟩
theorem c9D{v:Bs}(hv:isB (FF c.rd (bV c.ns c.rd n) [40] ((Ab c.ns k).kids.drop 1) [41] a u) v)(hu:Dd c n s d a o u)(hd:(Ab c.ns k).kids[(0:Nat)]? =some d)(hk:(Ab c.ns k).kind=5):Dd c (n+1) s k a (-1) v:=
 PS (by rw[bV1,if_neg (by omega),if_neg (by omega),if_neg (by omega),if_neg (by omega),if_pos hk,Dw hd,←hu.1];exact hv) (by omega) (by omega)
theorem c9E(h:vlP c.ns (n+1) s k a)(hk:(Ab c.ns k).kind=7):cnP c n s (Ab c.ns k) (min (a+4) 40):=⟨Ol h,PP h,a4a h.up hk,ED (Om h) (by omega),SD h.ar⟩
theorem c9F(hu:cnQ c n s (Ab c.ns k) (min (a+4) 40) o u)(hk:(Ab c.ns k).kind=7):Dd c (n+1) s k a o u:=by
 refine⟨?_,?_⟩
 ·rw[bV,bV1,if_neg (by omega),if_neg (by omega),if_neg (by omega),if_neg (by omega),if_neg (by omega),if_pos hk];exact hu.1
 ·rw[JU,if_pos (.inl hk)];exact hu.2
theorem c9G(h:vlP c.ns (n+1) s k a)(hk:(Ab c.ns k).kind=8):pnP c n s (Ab c.ns k) (min (a+4) 40):=⟨Ol h,by
 have hs:=(GN h.up).2.2
 skip
 rw[hk] at hs
 have:(Ci 8).2=3:=rfl
 omega,ED (Om h) (by omega),SD h.ar⟩
theorem c9H(hu:pnQ c n s (Ab c.ns k) (min (a+4) 40) o u)(hk:(Ab c.ns k).kind=8):Dd c (n+1) s k a o u:=by
 refine⟨?_,?_⟩
 ·rw[bV,bV1,if_neg (by omega),if_neg (by omega),if_neg (by omega),if_neg (by omega),if_neg (by omega),if_neg (by omega),if_pos hk];exact hu.1
 ·rw[JU,if_pos (.inr hk)];exact hu.2
theorem c9I(h:BB ns k)(hk:(Ab ns k).kind=9):∀c∈(Ab ns k).kids,c∈(Ab ns k).kids.take ((Ab ns k).kids.length-1)→(Ab ns c).text.length≤30:=by
 intro c hc hm
 have hko:=(CU (DE h)).2.2.2.2.2.1
 rw[hk] at hko
 have hko:JJ Bg ((Ab ns k).kids.map (Ai ns))=true:=hko
 unfold JJ at hko
 split at hko
 ·rename_i l hl
  rw[AY,CC] at hko
  have h2:Ai ns c∈((Ab ns k).kids.map (Ai ns)).dropLast:=by
   rw[List.dropLast_eq_take,Fv,←List.map_take]
   exact Iu.2 ⟨c,hm,rfl⟩
  have h3:=hko.2 _ h2
  simp [JI] at h3
  have ht:=(CU (DE (CQ h hc).1)).2.2.1
  have h4:(Ab ns c).kind=1:=h3
  rw[h4] at ht
  exact Yn (by simpa [Fz] using ht)
 ·cases hko
theorem c9J(h:vlP c.ns (n+1) s k a)(hk:(Ab c.ns k).kind=9):fnP c n s (Ab c.ns k) (min (a+4) 40):=⟨Ol h,⟨b3R h (by omega) (by omega) (by omega) (by omega),PP h⟩,c9I h.up hk,ED (Om h) (by omega),SD h.ar⟩
theorem c9K(hu:fnQ c n s (Ab c.ns k) (min (a+4) 40) u)(hk:(Ab c.ns k).kind=9):Dd c (n+1) s k a (-1) u:=
 PS (by rw[bV1,if_neg (by omega),if_neg (by omega),if_neg (by omega),if_neg (by omega),if_neg (by omega),if_neg (by omega),if_neg (by omega),if_pos hk];exact hu) (by omega) (by omega)
def vaF(c:BC)(n:Nat)(s:Bs)(a:Int):Ad→Int→Bs→Bs:=caF (bV c.ns c.rd n) (AP c.rd s) (up4 a)
def vaI(c:BC)(n:Nat)(s:Bs)(k a:Int)(i:Int)(t:Bs):Prop:=LA (vaF c n s a) (fun e=>3+tW c.ns n e) ((Ab c.ns k).kids.drop 1) 2 (bV c.ns c.rd n (kd (Ab c.ns k) 0) a (Bx c.rd 2 1 s)) i t
theorem vaS(h:vlP c.ns (n+1) s k a):lpS c.rd (vaF c n s a) (caS (bV c.ns c.rd n) (AP c.rd s) (up4 a)) (fun e=>3+tW c.ns n e) ((Ab c.ns k).kids.drop 1):=
 c6A (YO fun e he=>Ol h e (Iw he))
theorem c9L(ht:t=Bx c.rd 2 1 s)(h:vlP c.ns (n+1) s k a)(hd:(Ab c.ns k).kids[(0:Nat)]? =some d):vlP c.ns n t d a:=by
 subst ht;exact(PQ h hd (Lz (Vf h))).1
theorem c9M(hu:Dd c n t d a o u)(ht:t=Bx c.rd 2 1 s)(h:vlP c.ns (n+1) s k a)(hd:(Ab c.ns k).kids[(0:Nat)]? =some d):vaI c n s k a 0 u:=by
 subst ht
 have h1:=(PQ h hd (Lz (Vf h))).2 hu
 have h2:bR (wL (fun e=>3+tW c.ns n e) ((Ab c.ns k).kids.drop 1)+2) u:=by
  rw[UY];exact ED h1 (by have:=PP h;rw[GW];omega)
 have e:bV c.ns c.rd n (kd (Ab c.ns k) 0) a (Bx c.rd 2 1 s)=u:=by rw[Dw hd,hu.1]
 unfold vaI
 rw[e];exact Yw (F:=vaF c n s a) h2
theorem c9N(h:vaI c n s k a i t):0≤i∧i≤((Ab c.ns k).kids.drop 1).length:=UX h
theorem c9O(h:vlP c.ns (n+1) s k a):((Ab c.ns k).kids.drop 1).length≤12:=by have:=PP h;rw[GW];omega
theorem b3T(h:vaI c n s k a i t)(hd:((Ab c.ns k).kids.drop 1)[i.toNat]? =some d):bR (tW c.ns n d+5) t:=ED (Yx h hd) (by omega)
theorem c9P(h:vaI c n s k a i t)(hd:((Ab c.ns k).kids.drop 1)[i.toNat]? =some d):bB t:=Ge (b3T h hd)
theorem b3U(h:vaI c n s k a i t)(hu:u=AZ (AP c.rd s) 1 false (min (a+4) 40) t)(hd:((Ab c.ns k).kids.drop 1)[i.toNat]? =some d):bR (tW c.ns n d+4) u:=by
 subst hu;exact Oc (b3T h hd) (by omega)
theorem c9Q(h:vaI c n s k a i t)(hu:u=AZ (AP c.rd s) 1 false (min (a+4) 40) t)(hd:((Ab c.ns k).kids.drop 1)[i.toNat]? =some d):u.text.length+4≤2^61:=by
 have:=(b3U h hu hd).2;unfold tot at this;omega
theorem c9R(h:vaI c n s k a i t)(hu:u=AZ (AP c.rd s) 1 false (min (a+4) 40) t)(hx:vlP c.ns (n+1) s k a)(hd:((Ab c.ns k).kids.drop 1)[i.toNat]? =some d):vlP c.ns n (As [46,46] u) d (min (a+4) 40):=by
 have hk:=Ol hx d (Iw (Bq hd))
 exact⟨hk.1,hk.2.1,hk.2.2,Ob (b3U h hu hd) (by show _+2≤_;omega),SD hx.ar⟩
theorem c9S{v:Bs}(h:vaI c n s k a i t)(hd:((Ab c.ns k).kids.drop 1)[i.toNat]? =some d)(hu:u=AZ (AP c.rd s) 1 false (min (a+4) 40) t)(hv:Dd c n (As [46,46] u) d (min (a+4) 40) o v)(hx:vlP c.ns (n+1) s k a):vaI c n s k a (i+1) v:=by
 have:=UW (vaS hx) h hd
 subst hu
 rw[hv.1];exact this
theorem c9T(h:vaI c n s k a i t)(hx:vlP c.ns (n+1) s k a)(hi:¬i<((Ab c.ns k).kids.drop 1).length)(hk:(Ab c.ns k).kind=10):Dd c (n+1) s k a (-1) t:=
 PS (by rw[bV1,if_neg (by omega),if_neg (by omega),if_neg (by omega),if_neg (by omega),if_neg (by omega),if_neg (by omega),if_neg (by omega),if_neg (by omega)];exact(Su (vaS hx) h hi).1) (by omega) (by omega)
attribute [local irreducible] vaI
end Go.My
end
section
namespace Go.My
open Go.Eng Go.Proofs
variable {G:GInv}
variable {ind k:Int}{n:Nat}{ns:List Nd}{post pre:Aa}{t:Bs}
def Fu(s:Aa):Bool:=decide (s.length≤40)&&BI s
def DZ(ns:List Nd)(k:Int):Bool:=DW ns k&&(Bg (Ai ns k)&&decide (0<DD ns k))
theorem b3V{β:Type}{q:BC×β→Prop}(c:BC)(h:∃b,q (c,b)):∃x,q x:=let⟨b,hb⟩:=h;⟨(c,b),hb⟩
theorem b3W(h:pre.length≤40):bB (b00 pre):=⟨a4s,by simp [tot,CB,b00];omega⟩
theorem c9U(ht:t=Bx true 2 2 (b00 pre))(h:pre.length≤40):bB t:=by
 subst ht
 have h1:=b3W h
 exact Ge (m:=0) (Lz ⟨h1.ok,h1.tt⟩)
theorem c9V{u:Bs}(ht:t=AZ (AP true (b00 pre)) 1 true 4 u)(hu:u=Bx true 2 2 (b00 pre))(he:Dc pre=true)(h:bdQ ns n k pre post ind):vlP ns n t k 0:=by
 have e:t=Gf pre:=by rw[Gf,if_pos he,ht,hu]
 rw[e];exact⟨h.up,h.lt,h.vl,ED (a4t h) (by omega),by omega⟩
theorem c9W(he:Dc pre=false)(h:bdQ ns n k pre post ind):vlP ns n (b00 pre) k 0:=by
 have e:b00 pre=Gf pre:=by rw[Gf,if_neg (by rw[he];simp)]
 rw[e];exact⟨h.up,h.lt,h.vl,ED (a4t h) (by omega),by omega⟩
theorem c9X{o:Int}{u v:Bs}(hv:Dd ⟨ind,ns,true⟩ n t k 0 o v)(ht:t=AZ (AP true (b00 pre)) 1 true 4 u)(hu:u=Bx true 2 2 (b00 pre))(he:Dc pre=true):v=Dt ns n k pre:=by
 have e:t=Gf pre:=by rw[Gf,if_pos he,ht,hu]
 rw[Dt,←e];exact hv.1
theorem c9Y{o:Int}{v:Bs}(hv:Dd ⟨ind,ns,true⟩ n (b00 pre) k 0 o v)(he:Dc pre=false):v=Dt ns n k pre:=by
 have e:b00 pre=Gf pre:=by rw[Gf,if_neg (by rw[he];simp)]
 rw[Dt,←e];exact hv.1
def pc0:Pc:=⟨0,[],[],[],[]⟩
def Fc(ns:List Nd)(k:Int)(pre post:Aa)(ind:Int):Bool:=DZ ns k&&(inn ind 0 60&&(Fu pre&&Fu post))
structure pfP (ns:List Nd) (n:Nat) (k:Int) (pre post:Aa):Prop where
 ok:Ew ns
 l30:ns.length≤2^30
 ln:ns.length≤n
 tw:DZ ns k=true→tW ns n k≤2^60
 pr:pre.length<2^62
 po:post.length<2^62
theorem b3X(h:DZ ns k=true):BB ns k∧Bg (Ai ns k)=true:=by
 simp only[DZ,AY,Bf] at h
 exact⟨Mn (by omega),h.2.1⟩
theorem c9Z(h:pfP ns n k pre post)(h1:DZ ns k=true)(h2:inn ind 0 60=true)(h3:Fu pre=true)(h4:Fu post=true):bdQ ns n k pre post ind:=by
 have hv:=b3X h1
 have hr:=BF.1 hv.1.1
 simp only[Fu,AY,Bf] at h3 h4
 exact⟨hv.1,by have:=h.ln;omega,hv.2,h.tw h1,h3,h4,Cm.1 h2⟩
def pfR(ns:List Nd)(n:Nat)(k:Int)(pre post:Aa)(ind:Int):Pc:=if Fc ns k pre post ind then bdP ns n k pre post ind else pc0
theorem b3Y{ns:List Nd}{n:Nat}{k ind:Int}{pre post:Aa}(h1:DZ ns k=true)(h2:inn ind 0 60=true)(h3:Fu pre=true)(h4:Fu post=true):pfR ns n k pre post ind=bdP ns n k pre post ind∧Fc ns k pre post ind=true:=by
 have:Fc ns k pre post ind=true:=by simp [Fc, *]
 exact⟨by rw[pfR,if_pos this],this⟩
theorem d0a(h:((DZ ns k=false∨inn ind 0 60=false)∨Fu pre=false)∨Fu post=false):pfR ns n k pre post ind=pc0∧Fc ns k pre post ind=false:=by
 have:Fc ns k pre post ind=false:=by
  rcases h with((h|h)|h)|h<;>simp [Fc,h]
 exact⟨by rw[pfR,if_neg (by rw[this];simp)],this⟩
def YS(ns:List Nd)(n:Nat)(k:Int):Aa:=(bV ns false n k 0 (b00 [])).text
structure plP (ns:List Nd) (n:Nat) (k:Int):Prop where
 up:BB ns k
 lt:k<n
 vl:Bg (Ai ns k)=true
 tw:tW ns n k≤2^60
theorem d0b(h:plP ns n k):vlP ns n (b00 []) k 0:=⟨h.up,h.lt,h.vl,⟨a4s,by have:=h.tw;simp [tot,CB,b00];omega⟩,by omega⟩
end Go.My
end
section
namespace Go.My
open Go.Eng
variable {c:WC}{i k:Int}{m n:Nat}{ns:List Nd}
structure trC (c:WC) (n:Nat):Prop where
 ok:Ew c.ns
 l30:c.ns.length≤2^30
 ln:c.ns.length≤n
 tx:txS c.ns≤1048576
structure ndV (c:WC) (n m:Nat) (k i:Int):Prop where
 tr:trC c n
 up:BB c.ns k
 lt:k<m
 tk:MO (Ai c.ns k)=true
 dp:∃K ds,Da c.ns K=some ds∧k<K∧i+ds.getD k.toNat 0+(if Ai c.ns k=21 then 1 else 0)≤59
 i0:0≤i
def alV(c:WC)(n m:Nat)(ks:Ad)(i:Int):Prop:=∀e∈ks,ndV c n m e i
theorem a4Y(h:ndV c n m k i):0≤i∧i≤59:=by
 obtain⟨K,ds,hd,hk,hi⟩:=h.dp
 have hr:=BF.1 h.up.1
 have:=(NY hd k.toNat (by omega)).1
 have:=h.i0
 split at hi<;>omega
theorem b3Z{ns:List Nd}:∀ {m m':Nat} {k:Int},BB ns k→k<m→k<m'→wW ns m k=wW ns m' k
 |0,_,k,h,hm,_=>by have:=BF.1 h.1;omega
 |_+1,0,k,h,_,hm=>by have:=BF.1 h.1;omega
 |m+1,m'+1,k,h,hm,hm'=>by
  have e:∀l:Ad,(∀c∈l,c∈(Ab ns k).kids)→wL (wW ns m) l=wL (wW ns m') l:=by
   intro l
   induction l with
   |nil=>intro _;rfl
   |cons c l ih=>
    intro hl
    have h1:=CQ h (hl c (by simp))
    rw[Dy,Dy,b3Z (m:=m) (m':=m') h1.1 (by omega) (by omega),ih fun d hd=>hl d (by simp [hd])]
  rw[wW,wW,e _ fun c hc=>hc]
theorem d0c{K:Nat}{ds:Ad}(hd:Da ns K=some ds)(h:BB ns k)(hK:k<K)(hv:Bg (Ai ns k)=true):DZ ns k=true:=by
 have hr:=BF.1 h.1
 have h1:∃es,Da ns (k.toNat+1)=some es:=by
  cases e:Da ns (k.toNat+1) with
  |none=>rw[b7B e (m:=K) (by omega)] at hd;cases hd
  |some es=>exact⟨es,rfl⟩
 obtain⟨es,he⟩:=h1
 have h2:=b7C h.1 he
 have h3:= @a1S ns k
 simp only[DZ,AY,Bf]
 exact⟨h.1,hv,by omega⟩
structure vwP (c:WC) (n:Nat) (pre:Aa) (k:Int) (post:Aa) (i:Int):Prop where
 tr:trC c n
 bd:bdQ c.ns n k pre post i
 va:DZ c.ns k=true
theorem a4Z{d:Int}{pre post:Aa}(h:ndV c n m k i)(hc:d∈(Ab c.ns k).kids)(hv:Bg (Ai c.ns d)=true)(hp:pre.length≤40∧BI pre=true)(hq:post.length≤40∧BI post=true):vwP c n pre d post i:=by
 obtain⟨K,ds,hd,hk,hi⟩:=h.dp
 have h1:=CQ h.up hc
 have h2:=LC hd h.up hk hc
 have h3:=a4Y h
 have hr:=BF.1 h1.1.1
 have hl:=h.tr.ln
 refine⟨h.tr,⟨h1.1,by omega,hv,?_,hp,hq,by omega⟩,d0c hd h1.1 (by omega) hv⟩
 have:=c6b hd (n:=n) h1.1 (by omega) (by omega) hv (by omega) h.tr.tx
 omega
theorem d0d{b:Int}(h:ndV c n (m+1) k i)(hk:¬Ai c.ns k=21)(hb:b∈(Ab c.ns k).kids)(h18:Ai c.ns b=18):alV c n m (Ab c.ns b).kids (i+2):=by
 obtain⟨K,ds,hd,hk,hi⟩:=h.dp
 have h1:=CQ h.up hb
 have h2:=LC hd h.up hk hb
 intro e he
 have h3:=CQ h1.1 he
 have h4:=LC hd h1.1 (by omega) he
 have h5:=a4I h1.1 h18 e he
 have h6:=h.lt;have h7:=h.i0
 refine⟨h.tr,h3.1,by omega,by simp [MO,h5],⟨K,ds,hd,by omega,?_⟩,by omega⟩
 have h8:¬Ai c.ns e=21:=by rcases SC h5 with e|e|e|e|e|e|e<;>omega
 rw[if_neg h8]
 split at hi<;>omega
theorem YT(h:ndV c n (m+1) k i)(hk:Ai c.ns k=21):alV c n m (Ab c.ns k).kids (i+2):=by
 obtain⟨K,ds,hd,hkK,hi⟩:=h.dp
 rw[if_pos hk] at hi
 intro e he
 have h3:=CQ h.up he
 have h4:=LC hd h.up hkK he
 have h5:=a4J h.up hk e he
 have h6:=h.lt;have h7:=h.i0
 refine⟨h.tr,h3.1,by omega,by simp [MO,h5],⟨K,ds,hd,by omega,?_⟩,by omega⟩
 have h8:¬Ai c.ns e=21:=by simp only[GJ,CG,Bf] at h5;omega
 rw[if_neg h8];omega
theorem YU{pre post:Aa}{s:Ws}(h:vwP c n pre k post i):(Cp c n pre k post i s).ls.length≤s.ls.length+81:=by
 have:=b3v (w:=c.w) (bud:=c.bud) (JX (Sx h.bd))
 simp only[Cp,Ba];omega
theorem Jl{t:Aa}{s:Ws}:(BO i t s).ls.length=s.ls.length+1:=by simp [BO]
theorem b4a{ns:List Nd}{k:Int}{s:Ws}:(HO ns k s).ls.length≤s.ls.length+1:=by unfold HO;split<;>simp
theorem Vg{c:WC}{n m:Nat}(ih:∀ {k i:Int} {s:Ws},ndV c n m k i→(wN c n m k i s).ls.length≤s.ls.length+wW c.ns m k){i:Int}:∀ {l:Ad} {s:Ws},alV c n m l i→(Et c.ns (wN c n m) i l s).ls.length≤s.ls.length+(wL (wW c.ns m) l+l.length)
 |[],s,_=>by rw[Et];omega
 |k::l,s,h=>by
  have h1:=ih (s:=HO c.ns k s) (h k (by simp))
  have h2:=Vg ih (i:=i) (l:=l) (s:=wN c n m k i (HO c.ns k s)) fun e he=>h e (by simp [he])
  have h3:= @b4a c.ns k s
  rw[Et,Dy,AE];omega
def bkW(ns:List Nd)(m:Nat)(b:Int):Nat:=wL (wW ns m) (Ab ns b).kids+(Ab ns b).kids.length
theorem d0e{b:Int}(h:BB ns k)(hm:k<(m+1:Nat))(hb:b∈(Ab ns k).kids)(h18:Ai ns b=18):2+bkW ns m b=wW ns m b:=by
 have h1:=CQ h hb
 have hr:=BF.1 h1.1.1
 obtain⟨m1,rfl⟩:∃m1,m=m1+1:=⟨m-1,by omega⟩
 have e:∀l:Ad,(∀c∈l,c∈(Ab ns b).kids)→wL (wW ns (m1+1)) l=wL (wW ns m1) l:=by
  intro l
  induction l with
  |nil=>intro _;rfl
  |cons c l ih=>
   intro hl
   have h2:=CQ h1.1 (hl c (by simp))
   rw[Dy,Dy,b3Z (m:=m1+1) (m':=m1) h2.1 (by omega) (by omega),ih fun d hd=>hl d (by simp [hd])]
 rw[bkW,e _ fun c hc=>hc]
 conv=>rhs;rw[wW,h18]
 rw[if_neg (by decide),if_pos (.inl rfl)]
theorem d0f(h:¬(Ai ns k=18∨Ai ns k=21∨Ai ns k=22))(hv:Bg (Ai ns k)=false):wW ns (m+1) k=85+wL (wW ns m) (Ab ns k).kids:=by
 rw[wW,if_neg (by rw[hv];simp),if_neg h]
theorem b4b(h:MO k=true):Bg k=false∧(k=12∨k=13∨k=14∨k=15∨k=16∨k=17∨k=19∨k=20∨k=21):=by
 have:k=12∨k=13∨k=14∨k=15∨k=16∨k=17∨k=19∨k=20∨k=21:=by
  simp only[MO,CG,Bf,GJ] at h
  rcases h with h|h
  ·have:=SC h;omega
  ·omega
 refine⟨?_,this⟩
 rcases this with e|e|e|e|e|e|e|e|e<;>rw[e]<;>rfl
end Go.My
end
