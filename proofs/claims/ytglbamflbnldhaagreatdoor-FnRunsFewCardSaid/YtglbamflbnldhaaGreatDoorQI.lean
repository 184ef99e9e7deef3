/- joined -/
import Derived.Test.YtglbamflbnldhaaGreatDoorQH
set_option linter.unusedSimpArgs false
set_option linter.unusedVariables false
section
namespace Go.My
open Go.Eng Go.Proofs
variable {G:GInv}
theorem RO{n:Nat}{s:ZS}{m:Mc}{cs:Cls}{k:Int}(hp:vPz (n+1) s m cs k):cPz n s m cs (Af s.ns k):=by
 have h:=hp.2.1
 refine⟨hp.1,a1v hp.1.1.1 h.1.1 (by have:=h.1.2.2;omega) h.2,(GS hp.1.1.1 h.1.1).1,?_⟩
 have:=Rw hp.1.1.1 h.1.1;have:=hp.2.2;omega
theorem RP{n:Nat}{s:ZS}{m:Mc}{cs:Cls}{k:Int}(hp:vPz (n+1) s m cs k):(0≤k∧k<s.ns.length)∧Dv (Af s.ns k).kind ((Af s.ns k).kids.map (Bt s.ns))=true:=
 ⟨hp.2.1.1.1,(HR (Pt hp.1.1.1 hp.2.1.1.1)).2.2.2.2.2.1⟩
theorem a2f{n:Nat}{s:ZS}{m:Mc}{cs:Cls}{k:Int}(hp:vPz (n+1) s m cs k)(hk:(Af s.ns k).kind=5):1≤(Af s.ns k).kids.length:=by
 have:=(RP hp).2;rw[hk] at this;simp [Dv] at this;omega
theorem b2h{n:Nat}{s:ZS}{m:Mc}{cs:Cls}{k:Int}(hp:vPz (n+1) s m cs k)(hk:(Af s.ns k).kind=11):(Af s.ns k).kids.length=1:=by
 have:=(RP hp).2;rw[hk] at this;simp [Dv] at this;exact this.1
theorem b2i{n:Nat}{s:ZS}{m:Mc}{cs:Cls}{k:Int}(hp:vPz (n+1) s m cs k)(hk:(Af s.ns k).kind=8):(Af s.ns k).kids.length=3:=by
 have:=(RP hp).2;rw[hk] at this;simp [Dv] at this;exact this.1
theorem a2g{n:Nat}{s:ZS}{m:Mc}{cs:Cls}{k:Int}(hp:vPz (n+1) s m cs k)(hk:(Af s.ns k).kind=2):(Af s.ns k).text.all Bh=true:=
 (b0n (ns:=s.ns) (k:=k) ⟨DS.2 hp.2.1.1.1,fun i hi=>Pt hp.1.1.1 (by have:=hp.2.1.1.1;omega)⟩ hk).1
theorem b2j{n:Nat}{s:ZS}{m:Mc}{cs:Cls}{k:Int}(hp:vPz (n+1) s m cs k)(hk:(Af s.ns k).kind=5):caP n s m cs (Af s.ns k):=by
 have h1:=a2f hp hk
 refine⟨RO hp,⟨h1,?_⟩,?_⟩
 ·have:=a1w hp.1.1.1 hp.2.1.1.1 h1;have:=hp.2.2;omega
 ·have:=hp.2.1.2;have:=hp.2.1.1.1;unfold Cv at*;omega
theorem KG{n:Nat}{s:ZS}{m:Mc}{cs:Cls}{k e:Int}{c:Run Int}{y:Int×Mc}(hc:((ev s.ns (n+1)).val cs k)=c)(h:cQz c s m e y)(he:e≤wK s.ns k):vQz (n+1) s m cs k y:=⟨⟨by rw[hc];exact h.1.1,h.1.2⟩,Fp h.2 he⟩
theorem JD{ns:List Nd}{n:Nat}{cs:Cls}{k:Int}:(ev ns (n+1)).val cs k=GR ns cs ((ev ns n).val cs) (ev ns n).blk k:=rfl
theorem PB{ns:List Nd}{k:Int}:0≤wK ns k:=by have:= @NA (BE ns k);unfold wK;omega
theorem Wi{s:ZS}{m:Mc}(h:mOk m):cQz Hv s m 0 (0,Bm m):=⟨⟨rfl,Fd⟩,LR h⟩
theorem a2h{s:ZS}{m:Mc}{v:Int}(h:mOk m)(hv:bdd v):cQz (Dj v) s m 0 (v,m):=⟨⟨rfl,hv⟩,ND h⟩
theorem b2k{n:Nat}{s:ZS}{m:Mc}{cs:Cls}{k:Int}(hp:vPz (n+1) s m cs k)(hk:(Af s.ns k).kind=2)(hl:¬((Af s.ns k).text.length:Int)>9):vQz (n+1) s m cs k (DT (Af s.ns k).text,m):=by
 refine KG ?_ (a2h hp.1.2.1 (v:=DT (Af s.ns k).text) ?_) PB
 ·rw[JD,GR,if_pos (show Bt s.ns k=2 from hk),if_neg (by omega)]
 ·have:=a1h (a2g hp hk) (by omega);unfold bdd;omega
theorem b2l{n:Nat}{s:ZS}{m:Mc}{cs:Cls}{k:Int}(hp:vPz (n+1) s m cs k)(hk:(Af s.ns k).kind=2)(hl:((Af s.ns k).text.length:Int)>9):vQz (n+1) s m cs k (0,Bm m):=by
 refine KG ?_ (Wi hp.1.2.1) PB
 rw[JD,GR,if_pos (show Bt s.ns k=2 from hk),if_pos (by omega)]
theorem b2m{m:Mc}{cs:Cls}{t:List UInt8}(h:NC cs m):bdd (nOf (BQ cs t)):=by
 have key:∀ {l:Cls},(∀p∈l,bdd p.2)→bdd (nOf (BQ l t)):=by
  intro l
  induction l with
  |nil=>intro _;exact Fd
  |cons p l ih=>
   intro h
   rw[BQ];split
   ·exact h p (by simp)
   ·exact ih fun q hq=>h q (by simp [hq])
 exact key h.1
theorem b2n{n:Nat}{s:ZS}{m:Mc}{cs:Cls}{k:Int}(hp:vPz (n+1) s m cs k)(hk:(Af s.ns k).kind=1)(hs:(BQ cs (Af s.ns k).text).isSome=true):vQz (n+1) s m cs k (nOf (BQ cs (Af s.ns k).text),m):=by
 have hb:=b2m (t:=(Af s.ns k).text) hp.1.2.2
 refine KG ?_ (a2h hp.1.2.1 hb) PB
 have hk1:Bt s.ns k=1:=hk
 rw[JD,GR,if_neg (by omega),if_pos hk1]
 cases hc:BQ cs (Af s.ns k).text with
 |none=>rw[hc] at hs;cases hs
 |some v=>rfl
theorem b2o{n:Nat}{s:ZS}{m:Mc}{cs:Cls}{k:Int}(hp:vPz (n+1) s m cs k)(hk:(Af s.ns k).kind=1)(hs:(BQ cs (Af s.ns k).text).isSome=false):vQz (n+1) s m cs k (0,Bm m):=by
 refine KG ?_ (Wi hp.1.2.1) PB
 have hk1:Bt s.ns k=1:=hk
 rw[JD,GR,if_neg (by omega),if_pos hk1]
 cases hc:BQ cs (Af s.ns k).text with
 |none=>rfl
 |some v=>rw[hc] at hs;cases hs
theorem JE{x:Nd}{c:Int}{i:Nat}(h:x.kids[i]? =some c):CV x i=c:=by simp [CV,List.getD,h]
theorem b2p{n:Nat}{s:ZS}{m:Mc}{cs:Cls}{k c:Int}{i:Nat}(hp:vPz (n+1) s m cs k)(hc:(Af s.ns k).kids[i]? =some c):vPz n s m cs c:=by
 have h:=RO hp
 refine⟨hp.1,h.2.1 c (Ca hc),?_⟩
 have:=Pr (ns:=s.ns) (Ca hc);have:=h.2.2.2;omega
theorem a2i{n:Nat}{s:ZS}{m:Mc}{cs:Cls}{k c:Int}{i:Nat}(hp:vPz (n+1) s m cs k)(hc:(Af s.ns k).kids[i]? =some c):wK s.ns c≤wK s.ns k:=by
 have:=Pr (ns:=s.ns) (Ca hc);have:=Rw hp.1.1.1 hp.2.1.1.1;omega
theorem b2q{n:Nat}{s:ZS}{m:Mc}{cs:Cls}{k c:Int}{y:Int×Mc}(hp:vPz (n+1) s m cs k)(hk:(Af s.ns k).kind=11)(hc:(Af s.ns k).kids[0]? =some c)(h:vQz n s m cs c y):vQz (n+1) s m cs k y:=by
 have hk1:Bt s.ns k=11:=hk
 refine KG (c:=(ev s.ns n).val cs c) ?_ h (a2i hp hc)
 rw[JD,GR,if_neg (by omega),if_neg (by omega),if_pos hk1,JE hc]
theorem b2r{n:Nat}{s:ZS}{m:Mc}{cs:Cls}{k:Int}{y:Int×Mc}(hp:vPz (n+1) s m cs k)(hk:(Af s.ns k).kind=7)(h:chQ n s m cs (Af s.ns k) y):vQz (n+1) s m cs k y:=by
 have hk1:Bt s.ns k=7:=hk
 refine KG ?_ h (Rw hp.1.1.1 hp.2.1.1.1)
 rw[JD,GR,if_neg (by omega),if_neg (by omega),if_neg (by omega),if_pos hk1]
theorem b2s{n:Nat}{s:ZS}{m:Mc}{cs:Cls}{k:Int}{y:Int×Mc}(hp:vPz (n+1) s m cs k)(hk:(Af s.ns k).kind=5)(h:caQ n s m cs (Af s.ns k) y):vQz (n+1) s m cs k y:=by
 have hk1:Bt s.ns k=5:=hk
 refine KG ?_ h (a1w hp.1.1.1 hp.2.1.1.1 (a2f hp hk))
 rw[JD,GR,if_neg (by omega),if_neg (by omega),if_neg (by omega),if_neg (by omega),if_neg (by omega),if_pos hk1]
theorem b2t{n:Nat}{s:ZS}{m:Mc}{cs:Cls}{k:Int}(hp:vPz (n+1) s m cs k)(h2:¬(Af s.ns k).kind=2)(h1:¬(Af s.ns k).kind=1)(h11:¬(Af s.ns k).kind=11)(h7:¬(Af s.ns k).kind=7)(h8:¬(Af s.ns k).kind=8)(h5:¬(Af s.ns k).kind=5):vQz (n+1) s m cs k (0,Bm m):=by
 refine KG ?_ (Wi hp.1.2.1) PB
 have e:Bt s.ns k=(Af s.ns k).kind:=rfl
 rw[JD,GR,e,if_neg h2,if_neg h1,if_neg h11,if_neg h7,if_neg h8,if_neg h5]
theorem Wj{n:Nat}{s:ZS}{m:Mc}{cs:Cls}{k c:Int}{y:Int×Mc}(hp:vPz (n+1) s m cs k)(hk:(Af s.ns k).kind=8)(hc:(Af s.ns k).kids[0]? =some c)(h:vQz n s m cs c y):
 (ev s.ns (n+1)).val cs k s.L m=CT 0 (if y.1≠0 then(ev s.ns n).val cs (CV (Af s.ns k) 1) else(ev s.ns n).val cs (CV (Af s.ns k) 2)) s.L y.2:=by
 have hk1:Bt s.ns k=8:=hk
 rw[JD,GR,if_neg (by omega),if_neg (by omega),if_neg (by omega),if_neg (by omega),if_pos hk1,Cu,JE hc,h.1.1];rfl
theorem b2u{n:Nat}{s:ZS}{m:Mc}{cs:Cls}{k c:Int}{y:Int×Mc}(hp:vPz (n+1) s m cs k)(hk:(Af s.ns k).kind=8)(hc:(Af s.ns k).kids[0]? =some c)(h:vQz n s m cs c y)(hq:¬y.2.code=0):vQz (n+1) s m cs k (0,y.2):=by
 refine⟨⟨?_,Fd⟩,Fp h.2 (a2i hp hc)⟩
 rw[Wj hp hk hc h,Dk,if_neg hq]
theorem b2v{n:Nat}{s:ZS}{m:Mc}{cs:Cls}{k c:Int}{y:Int×Mc}(hp:vPz (n+1) s m cs k)(hc:(Af s.ns k).kids[0]? =some c)(h:vQz n s m cs c y):lpI s m y.2 (Af s.ns k).kids 1 (wS s.ns (Af s.ns k).kids):=LZ (i:=0) (NI hp.1.2.1) hc h.2
theorem b2w{n:Nat}{s:ZS}{m:Mc}{cs:Cls}{k c d:Int}{i:Nat}{y:Int×Mc}(hp:vPz (n+1) s m cs k)(hc:(Af s.ns k).kids[0]? =some c)(h:vQz n s m cs c y)(hd:(Af s.ns k).kids[i]? =some d)(hi:1≤i):vPz n s y.2 cs d:=by
 have hl:=b2v hp hc h
 have hcp:=RO hp
 refine⟨⟨hp.1.1,h.2.1.1,RH hp.1.2.2 h.2.2.1⟩,Ky (hcp.2.1 d (Ca hd)) h.2.1.2,?_⟩
 have hm:d∈(Af s.ns k).kids.drop 1:=by
  obtain⟨j,rfl⟩:∃j,i=1+j:=⟨i-1,by omega⟩
  exact List.mem_of_getElem? (i:=j) (by rw[List.getElem?_drop];exact hd)
 have h1:=Pr (ns:=s.ns) hm
 have h2:=hl.2.2;have h3:=hcp.2.2.2
 have e:(Af s.ns k).kids.drop (1:Int).toNat=(Af s.ns k).kids.drop 1:=rfl
 rw[e] at h2;omega
theorem a2j{n:Nat}{s:ZS}{m:Mc}{cs:Cls}{k c d:Int}{i:Nat}{y z:Int×Mc}(hp:vPz (n+1) s m cs k)(hc:(Af s.ns k).kids[0]? =some c)(h:vQz n s m cs c y)(hd:(Af s.ns k).kids[i]? =some d)(hi:1≤i)(hz:vQz n s y.2 cs d z):DA m z.2 (wK s.ns k):=by
 refine Fp (Gk h.2 hz.2) ?_
 have hm:d∈(Af s.ns k).kids.drop 1:=by
  obtain⟨j,rfl⟩:∃j,i=1+j:=⟨i-1,by omega⟩
  exact List.mem_of_getElem? (i:=j) (by rw[List.getElem?_drop];exact hd)
 have h1:=Pr (ns:=s.ns) hm
 have h2:=Rw hp.1.1.1 hp.2.1.1.1
 have e:(Af s.ns k).kids=c::(Af s.ns k).kids.drop 1:=by
  cases hk:(Af s.ns k).kids with
  |nil=>rw[hk] at hc;cases hc
  |cons a l=>rw[hk] at hc;simp at hc;simp [hc]
 rw[e,wS] at h2;omega
theorem b2x{n:Nat}{s:ZS}{m:Mc}{cs:Cls}{k c d:Int}{y z:Int×Mc}(hp:vPz (n+1) s m cs k)(hk:(Af s.ns k).kind=8)(hc:(Af s.ns k).kids[0]? =some c)(h:vQz n s m cs c y)(hq:y.2.code=0)(hn:¬y.1=0)(hd:(Af s.ns k).kids[1]? =some d)(hz:vQz n s y.2 cs d z):vQz (n+1) s m cs k z:=by
 refine⟨⟨?_,hz.1.2⟩,a2j hp hc h hd (by omega) hz⟩
 rw[Wj hp hk hc h,Dk,if_pos hq,if_pos hn,JE hd];exact hz.1.1
theorem b2y{n:Nat}{s:ZS}{m:Mc}{cs:Cls}{k c d:Int}{y z:Int×Mc}(hp:vPz (n+1) s m cs k)(hk:(Af s.ns k).kind=8)(hc:(Af s.ns k).kids[0]? =some c)(h:vQz n s m cs c y)(hq:y.2.code=0)(hn:y.1=0)(hd:(Af s.ns k).kids[2]? =some d)(hz:vQz n s y.2 cs d z):vQz (n+1) s m cs k z:=by
 refine⟨⟨?_,hz.1.2⟩,a2j hp hc h hd (by omega) hz⟩
 rw[Wj hp hk hc h,Dk,if_pos hq,if_neg (by simp [hn]),JE hd];exact hz.1.1
theorem b2z{n:Nat}{s:ZS}{m:Mc}{cs:Cls}{k:Int}(hp:vPz n s m cs k):cs.length<2^62:=by have:=hp.1.2.2.2;have:=hp.1.2.1.1.1;omega
attribute [local irreducible] vQz vPz cQz caP cPz
def GY(n:Nat):Sig:= {X:=ZX Int,args:=fun x=>[mcA x.1 (zh x),frA (zf x),.int .i64 (zl x)],pre:=fun x=>vPz (n+1) x.1 (zh x) (zf x).cells (zl x),Y:=Int×List Int×Int×Int×Int,post:=fun x y=>vQz (n+1) x.1 (zh x) (zf x).cells (zl x) (yV y),res:=fun x y=> .int .i64 y.1,outs:=fun x y=>[mcA x.1 (yM y.2),frA (zf x),.top],keep:=true}
theorem b2A(n:Nat)(h:zAll G n):Ai G Tryz.prog 179 (GY n):=
 vcFun_okP [(104,0,Dm),(98,0,NE),(23,0,Js),(179,0,(DI n)),(204,0,(Ey n)),(205,0,(IZ n))] [] false (fun x=>[]) Tryz.func179 rfl (by decide) ⟨NF,b0U,VR,h.val,(b1J n h),(b2g n h),trivial⟩ (fun(x:ZX Int)=>True∧((0:Int)≤zl x∧zl x<(↑(List.length x.1.ns):Int))∧∀(e:Nd),x.1.ns[Int.toNat (zl x)]? =some e→Aa (e.kind==(2:Int)) (Aa (decide ((↑(List.length e.text):Int)>(9:Int))) (cA Dm [.box 0 [nds x.1.ns,.int .i64 x.1.L,Ab (zh x).out,.int .i64 (0:Int),.int .i64 (zh x).code,.int .i64 (zh x).steps,.int .i64 (zh x).deep]] fun x_1 y=>rA (GY n) x [.int .i64 (0:Int),.box 0 [nds x_1.1.ns,.int .i64 x_1.1.L,Ab (Bm (zg x_1)).out,.int .i64 (0:Int),.int .i64 (Bm (zg x_1)).code,.int .i64 (Bm (zg x_1)).steps,.int .i64 (Bm (zg x_1)).deep],.box 0 [AV.sl false 0 2 (List UInt8×Int) Aw (zf x).cells,.bool (zf x).ended,.int .i64 (zf x).ret],.top]) (cA NE [.str e.text] fun x_1 y=>rA (GY n) x [.int .i64 (DT x_1),.box 0 [nds x.1.ns,.int .i64 x.1.L,Ab (zh x).out,.int .i64 (0:Int),.int .i64 (zh x).code,.int .i64 (zh x).steps,.int .i64 (zh x).deep],.box 0 [AV.sl false 0 2 (List UInt8×Int) Aw (zf x).cells,.bool (zf x).ended,.int .i64 (zf x).ret],.top])) (Aa (e.kind==(1:Int)) (true=true∧true=true∧∃(x_1:Cls×List UInt8),List.length x_1.1<(4611686018427387904:Nat)∧AV.sl false 0 2 (List UInt8×Int) Aw (zf x).cells=AV.sl false 0 2 (List UInt8×Int) Aw x_1.1∧e.text=x_1.2∧∃(y0:Unit),(∀(y:Unit),True→AV.tup [.int .i64 (nOf (BQ x_1.1 x_1.2)),.bool (Option.isSome (BQ x_1.1 x_1.2))]=AV.tup [.int .i64 (nOf (BQ x_1.1 x_1.2)),.bool (Option.isSome (BQ x_1.1 x_1.2))])∧true=true∧Aa (!Option.isSome (BQ x_1.1 x_1.2)) (cA Dm [.box 0 [nds x.1.ns,.int .i64 x.1.L,Ab (zh x).out,.int .i64 (0:Int),.int .i64 (zh x).code,.int .i64 (zh x).steps,.int .i64 (zh x).deep]] fun x_2 y=>rA (GY n) x [.int .i64 (0:Int),.box 0 [nds x_2.1.ns,.int .i64 x_2.1.L,Ab (Bm (zg x_2)).out,.int .i64 (0:Int),.int .i64 (Bm (zg x_2)).code,.int .i64 (Bm (zg x_2)).steps,.int .i64 (Bm (zg x_2)).deep],.box 0 [AV.sl false 0 2 (List UInt8×Int) Aw (zf x).cells,.bool (zf x).ended,.int .i64 (zf x).ret],.top]) (rA (GY n) x [.int .i64 (nOf (BQ x_1.1 x_1.2)),.box 0 [nds x.1.ns,.int .i64 x.1.L,Ab (zh x).out,.int .i64 (0:Int),.int .i64 (zh x).code,.int .i64 (zh x).steps,.int .i64 (zh x).deep],.box 0 [AV.sl false 0 2 (List UInt8×Int) Aw (zf x).cells,.bool (zf x).ended,.int .i64 (zf x).ret],.top])) (Aa (e.kind==(11:Int)) (((0:Int)≤(0:Int)∧(0:Int)<(↑(List.length e.kids):Int))∧∀(e_1:Int),e.kids[(0:Nat)]? =some e_1→cA (DI n) [.box 0 [nds x.1.ns,.int .i64 x.1.L,Ab (zh x).out,.int .i64 (0:Int),.int .i64 (zh x).code,.int .i64 (zh x).steps,.int .i64 (zh x).deep],.box 0 [AV.sl false 0 2 (List UInt8×Int) Aw (zf x).cells,.bool (zf x).ended,.int .i64 (zf x).ret],.int .i64 e_1] fun x_1 y=>rA (GY n) x [.int .i64 y.1,.box 0 [nds x_1.1.ns,.int .i64 x_1.1.L,Ab (yM y.2).out,.int .i64 (0:Int),.int .i64 (yM y.2).code,.int .i64 (yM y.2).steps,.int .i64 (yM y.2).deep],.box 0 [AV.sl false 0 2 (List UInt8×Int) Aw (zf x_1).cells,.bool (zf x_1).ended,.int .i64 (zf x_1).ret],.top]) (Aa (e.kind==(7:Int)) (cA (Ey n) [.box 0 [nds x.1.ns,.int .i64 x.1.L,Ab (zh x).out,.int .i64 (0:Int),.int .i64 (zh x).code,.int .i64 (zh x).steps,.int .i64 (zh x).deep],.box 0 [AV.sl false 0 2 (List UInt8×Int) Aw (zf x).cells,.bool (zf x).ended,.int .i64 (zf x).ret],.agg [.int .i64 e.kind,.str e.text,Aj e.kids,.bool e.blank]] fun x_1 y=>rA (GY n) x [.int .i64 y.1,.box 0 [nds x_1.1.ns,.int .i64 x_1.1.L,Ab (yM y.2).out,.int .i64 (0:Int),.int .i64 (yM y.2).code,.int .i64 (yM y.2).steps,.int .i64 (yM y.2).deep],.box 0 [AV.sl false 0 2 (List UInt8×Int) Aw (zf x_1).cells,.bool (zf x_1).ended,.int .i64 (zf x_1).ret],.top]) (Aa (e.kind==(8:Int)) (((0:Int)≤(0:Int)∧(0:Int)<(↑(List.length e.kids):Int))∧∀(e_1:Int),e.kids[(0:Nat)]? =some e_1→cA (DI n) [.box 0 [nds x.1.ns,.int .i64 x.1.L,Ab (zh x).out,.int .i64 (0:Int),.int .i64 (zh x).code,.int .i64 (zh x).steps,.int .i64 (zh x).deep],.box 0 [AV.sl false 0 2 (List UInt8×Int) Aw (zf x).cells,.bool (zf x).ended,.int .i64 (zf x).ret],.int .i64 e_1] fun x_1 y=>Aa ((yM y.2).code != (0:Int)) (rA (GY n) x [.int .i64 (0:Int),.box 0 [nds x_1.1.ns,.int .i64 x_1.1.L,Ab (yM y.2).out,.int .i64 (0:Int),.int .i64 (yM y.2).code,.int .i64 (yM y.2).steps,.int .i64 (yM y.2).deep],.box 0 [AV.sl false 0 2 (List UInt8×Int) Aw (zf x_1).cells,.bool (zf x_1).ended,.int .i64 (zf x_1).ret],.top]) (Aa (y.1 != (0:Int)) (((0:Int)≤(1:Int)∧(1:Int)<(↑(List.length e.kids):Int))∧∀(e_2:Int),e.kids[(1:Nat)]? =some e_2→cA (DI n) [.box 0 [nds x_1.1.ns,.int .i64 x_1.1.L,Ab (yM y.2).out,.int .i64 (0:Int),.int .i64 (yM y.2).code,.int .i64 (yM y.2).steps,.int .i64 (yM y.2).deep],.box 0 [AV.sl false 0 2 (List UInt8×Int) Aw (zf x_1).cells,.bool (zf x_1).ended,.int .i64 (zf x_1).ret],.int .i64 e_2] fun x_2 y=>rA (GY n) x [.int .i64 y.1,.box 0 [nds x_2.1.ns,.int .i64 x_2.1.L,Ab (yM y.2).out,.int .i64 (0:Int),.int .i64 (yM y.2).code,.int .i64 (yM y.2).steps,.int .i64 (yM y.2).deep],.box 0 [AV.sl false 0 2 (List UInt8×Int) Aw (zf x_2).cells,.bool (zf x_2).ended,.int .i64 (zf x_2).ret],.top]) (((0:Int)≤(2:Int)∧(2:Int)<(↑(List.length e.kids):Int))∧∀(e_2:Int),e.kids[(2:Nat)]? =some e_2→cA (DI n) [.box 0 [nds x_1.1.ns,.int .i64 x_1.1.L,Ab (yM y.2).out,.int .i64 (0:Int),.int .i64 (yM y.2).code,.int .i64 (yM y.2).steps,.int .i64 (yM y.2).deep],.box 0 [AV.sl false 0 2 (List UInt8×Int) Aw (zf x_1).cells,.bool (zf x_1).ended,.int .i64 (zf x_1).ret],.int .i64 e_2] fun x_2 y=>rA (GY n) x [.int .i64 y.1,.box 0 [nds x_2.1.ns,.int .i64 x_2.1.L,Ab (yM y.2).out,.int .i64 (0:Int),.int .i64 (yM y.2).code,.int .i64 (yM y.2).steps,.int .i64 (yM y.2).deep],.box 0 [AV.sl false 0 2 (List UInt8×Int) Aw (zf x_2).cells,.bool (zf x_2).ended,.int .i64 (zf x_2).ret],.top]))) (Aa (e.kind==(5:Int)) (cA (IZ n) [.box 0 [nds x.1.ns,.int .i64 x.1.L,Ab (zh x).out,.int .i64 (0:Int),.int .i64 (zh x).code,.int .i64 (zh x).steps,.int .i64 (zh x).deep],.box 0 [AV.sl false 0 2 (List UInt8×Int) Aw (zf x).cells,.bool (zf x).ended,.int .i64 (zf x).ret],.agg [.int .i64 e.kind,.str e.text,Aj e.kids,.bool e.blank]] fun x_1 y=>rA (GY n) x [.int .i64 y.1,.box 0 [nds x_1.1.ns,.int .i64 x_1.1.L,Ab (yM y.2).out,.int .i64 (0:Int),.int .i64 (yM y.2).code,.int .i64 (yM y.2).steps,.int .i64 (yM y.2).deep],.box 0 [AV.sl false 0 2 (List UInt8×Int) Aw (zf x_1).cells,.bool (zf x_1).ended,.int .i64 (zf x_1).ret],.top]) (cA Dm [.box 0 [nds x.1.ns,.int .i64 x.1.L,Ab (zh x).out,.int .i64 (0:Int),.int .i64 (zh x).code,.int .i64 (zh x).steps,.int .i64 (zh x).deep]] fun x_1 y=>rA (GY n) x [.int .i64 (0:Int),.box 0 [nds x_1.1.ns,.int .i64 x_1.1.L,Ab (Bm (zg x_1)).out,.int .i64 (0:Int),.int .i64 (Bm (zg x_1)).code,.int .i64 (Bm (zg x_1)).steps,.int .i64 (Bm (zg x_1)).deep],.box 0 [AV.sl false 0 2 (List UInt8×Int) Aw (zf x).cells,.bool (zf x).ended,.int .i64 (zf x).ret],.top]))))))) (fun x=>by kernel_rfl) fun(x:ZX Int) (hx:vPz (n+1) x.1 (zh x) (zf x).cells (zl x))=>(by
 dsimp only[cA,Aw,cls,frA,Aj,mcA,Bc,nds,Ab,rA,Dm,IZ,Ey,NE,DI,GY,Au,Az,mvL,lnL,mvE,lnE]
 obtain⟨s,o,c,t,d,cs,en,re,k⟩:=x;dsimp only[zh,zf,zl] at hx ⊢
 have hx:vPz (n+1) s ⟨o,c,t,d⟩ cs k:=hx
 have hv:=RP hx
 (repeat' first|(with_reducible first|rfl|exact True.intro|apply AK|apply And.intro|((first|apply AA|apply AI|apply AB|apply AJ)<;>intro _))|(apply Ax<;>intro _)|apply AH|refine Ae () ?_ ?_|((first|apply AO|apply AN|apply AM|apply AL|apply AG|apply AF|apply AE|apply AD|apply AC)<;>try dsimp only)|apply Ae|(refine Prod.forall.2 ?_;intro _;try dsimp only)|(intro _;try dsimp only))
 all_goals(try simp only[Ma] at*)
 all_goals(repeat(rename s.ns[_]? =some _=>hq;have hqe:=(Bw hq).symm;clear hq;subst hqe))
 all_goals(try(have hl:=b2h hx ‹_›))
 all_goals(try(have hl:=b2i hx ‹_›))
 all_goals first
  |rfl
  |exact hx
  |exact hv.1.1
  |exact hv.1.2
  |exact b2z hx
  |exact a2g hx ‹_›
  |exact b2k hx ‹_› ‹_›
  |exact b2l hx ‹_› ‹_›
  |exact b2n hx ‹_› ‹_›
  |exact b2o hx ‹_› ‹_›
  |exact b2p hx ‹_›
  |exact b2q hx ‹_› ‹_› ‹_›
  |exact RO hx
  |exact b2r hx ‹_› ‹_›
  |exact b2j hx ‹_›
  |exact b2s hx ‹_› ‹_›
  |exact b2t hx ‹_› ‹_› ‹_› ‹_› ‹_› ‹_›
  |exact b2u hx ‹_› ‹_› ‹_› ‹_›
  |exact b2w hx ‹_› ‹_› ‹_› (by omega)
  |exact b2x hx ‹_› (show(Af s.ns k).kids[0]? =some _ by assumption) ‹_› ‹_› ‹_› (show(Af s.ns k).kids[1]? =some _ by assumption) ‹_›
  |exact b2y hx ‹_› (show(Af s.ns k).kids[0]? =some _ by assumption) ‹_› ‹_› ‹_› (show(Af s.ns k).kids[2]? =some _ by assumption) ‹_›
  |((try simp only[AR]);omega)
  |skip
 all_goals trace_state)
end Go.My
end
section
namespace Go.My
open Go.Eng Go.Proofs
variable {G:GInv}
def kfZ(x:Nd):Prop:=(x.kind=16→2≤x.kids.length)∧(x.kind=17→x.kids.length=2)
def sPz(n:Nat)(s:ZS)(m:Mc)(f:Fr)(x:Nd):Prop:=((zB s∧mOk m)∧((∀p∈f.cells,bdd p.2)∧(f.cells.length:Int)+1≤20+m.steps)∧bdd f.ret)∧(((∀c∈x.kids,kOk s.ns m n c)∧x.kids.length≤12)∧5159780352≤pot m)∧kfZ x
abbrev zsR (n:Nat) (s:ZS) (x:Nd) (f:Fr):Run Fr:=stG (ev s.ns n).val (ev s.ns n).blk x f
def sQz(n:Nat)(s:ZS)(m:Mc)(f:Fr)(x:Nd)(y:Fr×Mc):Prop:=(zsR n s x f s.L m=some y∧fOk y.1 y.2)∧DA m y.2 5159780352
def zsI(n:Nat)(s:ZS)(m0:Mc)(f:Fr)(x:Nd)(v:Int)(m:Mc):Prop:=(zsR n s x f s.L m0=CT f (Gj (ev s.ns n).val (ev s.ns n).blk x f v) s.L m∧bdd v)∧DA m0 m 5159780352
theorem b2B{n:Nat}{s:ZS}{m:Mc}{f:Fr}{x:Nd}(hp:sPz n s m f x)(h:¬(x.kids.length:Int)>0):zsI n s m f x 0 m:=by
 refine⟨⟨?_,Fd⟩,Fp (ND hp.1.1.2) (by omega)⟩
 rw[zsR,stG,if_neg (by omega)];rfl
theorem b2C{n:Nat}{s:ZS}{m:Mc}{f:Fr}{x:Nd}(hp:sPz n s m f x):fOk f m:=⟨⟨hp.1.2.1.1,by have:=hp.1.2.1.2;omega⟩,hp.1.2.2⟩
theorem b2D{n:Nat}{s:ZS}{m:Mc}{f:Fr}{x:Nd}{c:Int}(hp:sPz n s m f x)(hc:x.kids[0]? =some c):vPz n s m f.cells c:=by
 have hk:=hp.2.1.1.1 c (Ca hc)
 refine⟨⟨hp.1.1.1,hp.1.1.2,(b2C hp).1⟩,hk,?_⟩
 have:=Rv hk;have:=hp.2.1.2;omega
theorem b2E{n:Nat}{s:ZS}{m:Mc}{f:Fr}{x:Nd}{c:Int}{y:Int×Mc}(hp:sPz n s m f x)(h:(x.kids.length:Int)>0)(hc:x.kids[0]? =some c)(hv:vQz n s m f.cells c y):zsI n s m f x y.1 y.2:=by
 refine⟨⟨?_,hv.1.2⟩,Fp hv.2 (Rv (hp.2.1.1.1 c (Ca hc)))⟩
 rw[zsR,stG,if_pos (by omega),Cu,JE hc,hv.1.1];rfl
theorem Wk{n:Nat}{s:ZS}{m0 m:Mc}{f:Fr}{x:Nd}{v:Int}(hp:sPz n s m0 f x)(h:zsI n s m0 f x v m):((∀p∈f.cells,bdd p.2)∧(f.cells.length:Int)+1≤20+m.steps)∧bdd f.ret:=⟨⟨hp.1.2.1.1,by have:=hp.1.2.1.2;have:=h.2.2.1;omega⟩,hp.1.2.2⟩
theorem Md{n:Nat}{s:ZS}{m0 m:Mc}{f:Fr}{x:Nd}{v:Int}(hp:sPz n s m0 f x)(h:zsI n s m0 f x v m):fOk f m:=by
 have:=Wk hp h;exact⟨⟨this.1.1,by omega⟩,this.2⟩
theorem b2F{n:Nat}{s:ZS}{m0 m:Mc}{f:Fr}{x:Nd}{v:Int}(hp:sPz n s m0 f x)(h:zsI n s m0 f x v m)(hq:¬m.code=0):sQz n s m0 f x (f,m):=by
 refine⟨⟨?_,Md hp h⟩,h.2⟩
 rw[h.1.1,Dk,if_neg hq]
theorem JF{n:Nat}{s:ZS}{m0 m:Mc}{f:Fr}{x:Nd}{v:Int}(h:zsI n s m0 f x v m)(hq:m.code=0):zsR n s x f s.L m0=Gj (ev s.ns n).val (ev s.ns n).blk x f v s.L m:=by rw[h.1.1,Dk,if_pos hq]
theorem b2G{n:Nat}{s:ZS}{m0 m:Mc}{f:Fr}{x:Nd}{v:Int}(hp:sPz n s m0 f x)(h:zsI n s m0 f x v m):f.cells.length≤1020:=by
 have:=(Wk hp h).1.2;have:=h.2.1.1.1.1;omega
theorem a2k{n:Nat}{s:ZS}{m0 m:Mc}{f:Fr}{x:Nd}{v:Int}{t:List UInt8}(hp:sPz n s m0 f x)(h:zsI n s m0 f x v m):fOk ⟨Cd f.cells t v,f.ended,f.ret⟩ m:=by
 have hf:=Wk hp h
 refine⟨⟨Wh h.1.2 hf.1.1,?_⟩,hf.2⟩
 have:= @RL t v f.cells;simp only;omega
theorem b2H{n:Nat}{s:ZS}{m0 m:Mc}{f:Fr}{x:Nd}{v:Int}(hp:sPz n s m0 f x)(h:zsI n s m0 f x v m)(hq:m.code=0)(hk:x.kind=12):sQz n s m0 f x (⟨Cd f.cells x.text v,f.ended,f.ret⟩,m):=by
 refine⟨⟨?_,a2k hp h⟩,h.2⟩
 rw[JF h hq,Gj,if_pos hk];rfl
theorem b2I{n:Nat}{s:ZS}{m0 m:Mc}{f:Fr}{x:Nd}{v:Int}(hp:sPz n s m0 f x)(h:zsI n s m0 f x v m)(hq:m.code=0)(hk:x.kind=13)(hs:(BQ f.cells x.text).isSome=true):sQz n s m0 f x (⟨Cd f.cells x.text v,f.ended,f.ret⟩,m):=by
 refine⟨⟨?_,a2k hp h⟩,h.2⟩
 rw[JF h hq,Gj,if_neg (by omega),if_pos hk]
 cases hc:BQ f.cells x.text with
 |none=>rw[hc] at hs;cases hs
 |some w=>rfl
theorem b2J{f:Fr}{m:Mc}(h:fOk f m):fOk f (Bm m):=by
 unfold Bm;split
 ·exact h
 ·exact h
theorem b2K{n:Nat}{s:ZS}{m0 m:Mc}{f:Fr}{x:Nd}{v:Int}(hp:sPz n s m0 f x)(h:zsI n s m0 f x v m)(hq:m.code=0)(hk:x.kind=13)(hs:(BQ f.cells x.text).isSome=false):sQz n s m0 f x (f,Bm m):=by
 have g:=Gk h.2 (LR h.2.1.1)
 refine⟨⟨?_,b2J (Md hp h)⟩,Fp g (by omega)⟩
 rw[JF h hq,Gj,if_neg (by omega),if_pos hk]
 cases hc:BQ f.cells x.text with
 |none=>rfl
 |some w=>rw[hc] at hs;cases hs
theorem b2L{n:Nat}{s:ZS}{m0 m:Mc}{f:Fr}{x:Nd}{v:Int}(hp:sPz n s m0 f x)(h:zsI n s m0 f x v m)(hq:m.code=0)(hk:x.kind=15):sQz n s m0 f x (⟨f.cells,true,v⟩,m):=by
 refine⟨⟨?_,(Md hp h).1,h.1.2⟩,h.2⟩
 rw[JF h hq,Gj,if_neg (by omega),if_neg (by omega),if_pos hk];rfl
theorem b2M{n:Nat}{s:ZS}{m0 m:Mc}{f:Fr}{x:Nd}{v:Int}(hp:sPz n s m0 f x)(h:zsI n s m0 f x v m)(hq:m.code=0)(h1:¬x.kind=12)(h2:¬x.kind=13)(h3:¬x.kind=15)(h4:¬x.kind=16)(h5:¬x.kind=17):sQz n s m0 f x (f,m):=by
 refine⟨⟨?_,Md hp h⟩,h.2⟩
 rw[JF h hq,Gj,if_neg h1,if_neg h2,if_neg h3,if_neg h4,if_neg h5];rfl
theorem b2N{n:Nat}{s:ZS}{m0 m:Mc}{f:Fr}{x:Nd}{v c:Int}{i:Nat}(hp:sPz n s m0 f x)(h:zsI n s m0 f x v m)(hc:x.kids[i]? =some c):bPz n s m f c:=by
 have hk:=Ky (hp.2.1.1.1 c (Ca hc)) h.2.1.2
 exact⟨⟨hp.1.1.1,h.2.1.1,Md hp h⟩,⟨hk.1.1,by have:=hk.1.2;omega⟩,hk.2⟩
theorem a2l{n:Nat}{s:ZS}{m0 m:Mc}{f:Fr}{x:Nd}{v c:Int}{y:Fr×Mc}(h:zsI n s m0 f x v m)(he:zsR n s x f s.L m0=(ev s.ns n).blk f c s.L m)(hy:bQz n s m f c y):sQz n s m0 f x y:=
 ⟨⟨by rw[he];exact hy.1.1,hy.1.2⟩,Fp (Gk h.2 hy.2) (by omega)⟩
theorem b2O{n:Nat}{s:ZS}{m0 m:Mc}{f:Fr}{x:Nd}{v c:Int}{y:Fr×Mc}(h:zsI n s m0 f x v m)(hq:m.code=0)(hk:x.kind=16)(hn:¬v=0)(hc:x.kids[1]? =some c)(hy:bQz n s m f c y):sQz n s m0 f x y:=
 a2l h (by rw[JF h hq,Gj,if_neg (by omega),if_neg (by omega),if_neg (by omega),if_pos hk,if_pos hn,JE hc]) hy
theorem b2P{n:Nat}{s:ZS}{m0 m:Mc}{f:Fr}{x:Nd}{v c:Int}{y:Fr×Mc}(h:zsI n s m0 f x v m)(hq:m.code=0)(hk:x.kind=16)(hn:v=0)(hl:(x.kids.length:Int)=3)(hc:x.kids[2]? =some c)(hy:bQz n s m f c y):sQz n s m0 f x y:=
 a2l h (by rw[JF h hq,Gj,if_neg (by omega),if_neg (by omega),if_neg (by omega),if_pos hk,if_neg (by simp [hn]),if_pos (by omega),JE hc]) hy
theorem b2Q{n:Nat}{s:ZS}{m0 m:Mc}{f:Fr}{x:Nd}{v:Int}(hp:sPz n s m0 f x)(h:zsI n s m0 f x v m)(hq:m.code=0)(hk:x.kind=16)(hn:v=0)(hl:¬(x.kids.length:Int)=3):sQz n s m0 f x (f,m):=by
 refine⟨⟨?_,Md hp h⟩,h.2⟩
 rw[JF h hq,Gj,if_neg (by omega),if_neg (by omega),if_neg (by omega),if_pos hk,if_neg (by simp [hn]),if_neg (by omega)];rfl
def whI(n:Nat)(s:ZS)(m0:Mc)(f0:Fr)(x:Nd)(v:Int)(m:Mc)(f:Fr)(N:Nat):Prop:=
 ((zsR n s x f0 s.L m0=Kx (ev s.ns n).val (ev s.ns n).blk x N v f s.L m∧(1002≤N+m.steps∧x.kids.length=2))∧fOk f m)∧DA m0 m 5159780352
theorem b2R{n:Nat}{s:ZS}{m0 m:Mc}{f:Fr}{x:Nd}{v:Int}(hp:sPz n s m0 f x)(h:zsI n s m0 f x v m)(hq:m.code=0)(hk:x.kind=17):whI n s m0 f x v m f 1002:=by
 refine⟨⟨⟨?_,?_,hp.2.2.2 hk⟩,Md hp h⟩,h.2⟩
 ·rw[JF h hq,Gj,if_neg (by omega),if_neg (by omega),if_neg (by omega),if_neg (by omega),if_pos hk]
 ·have:=h.2.1.1.1.1;omega
theorem RQ{n:Nat}{s:ZS}{m0 m:Mc}{f0 f:Fr}{x:Nd}{v:Int}{N:Nat}(h:whI n s m0 f0 x v m f N):x.kids.length=2∧∃M,N=M+1:=by
 have h1:=h.1.1.2.1;have h2:=h.2.1.1.1.1
 exact⟨h.1.1.2.2,N-1,by omega⟩
theorem b2S{n:Nat}{s:ZS}{m0 m:Mc}{f0 f:Fr}{x:Nd}{v:Int}{N:Nat}(h:whI n s m0 f0 x v m f N)(hv:v=0):sQz n s m0 f0 x (f,m):=by
 obtain⟨_,M,rfl⟩:=RQ h
 refine⟨⟨?_,h.1.2⟩,h.2⟩
 rw[h.1.1.1,Kx,if_pos hv];rfl
theorem b2T{n:Nat}{s:ZS}{m0 m:Mc}{f0 f:Fr}{x:Nd}{v c:Int}{N i:Nat}(hp:sPz n s m0 f0 x)(h:whI n s m0 f0 x v m f N)(hc:x.kids[i]? =some c):bPz n s m f c:=by
 have hk:=Ky (hp.2.1.1.1 c (Ca hc)) h.2.1.2
 exact⟨⟨hp.1.1.1,h.2.1.1,h.1.2⟩,⟨hk.1.1,by have:=hk.1.2;omega⟩,hk.2⟩
theorem Wl{n:Nat}{s:ZS}{m0 m:Mc}{f0 f:Fr}{x:Nd}{v c:Int}{N:Nat}{y:Fr×Mc}(h:whI n s m0 f0 x v m f N)(hv:¬v=0)(hc:x.kids[1]? =some c)(hy:bQz n s m f c y):
 zsR n s x f0 s.L m0=(if y.1.ended then Dj y.1 else Cu LQ fun _=>CT y.1 (Cu ((ev s.ns n).val y.1.cells (CV x 0)) fun n2=>CT y.1 (Kx (ev s.ns n).val (ev s.ns n).blk x (N-1) n2 y.1))) s.L y.2:=by
 obtain⟨_,M,rfl⟩:=RQ h
 rw[h.1.1.1,Kx,if_neg hv,Cu,JE hc,hy.1.1];rfl
theorem b2U{n:Nat}{s:ZS}{m0 m:Mc}{f0 f:Fr}{x:Nd}{v c:Int}{N:Nat}{y:Fr×Mc}(h:whI n s m0 f0 x v m f N)(hv:¬v=0)(hc:x.kids[1]? =some c)(hy:bQz n s m f c y)(he:y.1.ended=true):sQz n s m0 f0 x y:=by
 refine⟨⟨?_,hy.1.2⟩,Fp (Gk h.2 hy.2) (by omega)⟩
 rw[Wl h hv hc hy,if_pos he];rfl
theorem f_m{f:Fr}{m m2:Mc}(h:fOk f m)(hs:m.steps≤m2.steps):fOk f m2:=⟨RH h.1 hs,h.2⟩
theorem Wm{L:Int}{m:Mc}(h:mOk m)(hL:L≤1000):DA m (BA L m) 0:=by
 unfold BA;split
 ·split
  ·exact⟨⟨h,rfl⟩,Int.le_refl _,by simp only[pot];omega⟩
  ·have h1:=h.1;have h2:=h.2
   unfold pot at h2
   exact⟨⟨⟨by simp only;omega,by simp only[pot];omega⟩,rfl⟩,by simp only;omega,by simp only[pot];omega⟩
 ·exact ND h
theorem PC{L:Int}{m:Mc}(h:mOk m)(hL:L≤1000)(hq:(BA L m).code=0):DA m (BA L m) (-5159780352)∧(BA L m).steps=m.steps+1:=by
 unfold BA at hq ⊢
 split
 ·rename_i h0
  rw[if_pos h0] at hq
  split
  ·rename_i h3;rw[if_pos h3] at hq;cases hq
  ·have h1:=h.1;have h2:=h.2
   unfold pot at h2
   exact⟨⟨⟨⟨by simp only;omega,by simp only[pot];omega⟩,rfl⟩,by simp only;omega,by simp only[pot];omega⟩,rfl⟩
 ·rename_i h0;rw[if_neg h0] at hq;exact absurd hq h0
theorem b2V{n:Nat}{s:ZS}{m0 m:Mc}{f0 f:Fr}{x:Nd}{v c:Int}{N:Nat}{y:Fr×Mc}(hp:sPz n s m0 f0 x)(h:whI n s m0 f0 x v m f N)(hv:¬v=0)(hc:x.kids[1]? =some c)(hy:bQz n s m f c y)(he:y.1.ended=false)(hq:¬(BA s.L y.2).code=0):sQz n s m0 f0 x (y.1,BA s.L y.2):=by
 have g:=Wm hy.2.1.1 hp.1.1.1.2
 refine⟨⟨?_,f_m hy.1.2 g.2.1⟩,Fp (Gk (Gk h.2 hy.2) g) (by omega)⟩
 rw[Wl h hv hc hy,if_neg (by simp [he])]
 simp only[Cu,LQ,Option.bind_some,Dk];rw[if_neg hq]
theorem b2W{n:Nat}{s:ZS}{m0 m:Mc}{f0 f:Fr}{x:Nd}{v c d:Int}{N:Nat}{y:Fr×Mc}(hp:sPz n s m0 f0 x)(h:whI n s m0 f0 x v m f N)(hy:bQz n s m f c y)(hq:(BA s.L y.2).code=0)(hd:x.kids[0]? =some d):vPz n s (BA s.L y.2) y.1.cells d:=by
 have g:=(PC hy.2.1.1 hp.1.1.1.2 hq).1
 have hk:=Ky (Ky (Ky (hp.2.1.1.1 d (Ca hd)) h.2.1.2) hy.2.1.2) g.1.2
 refine⟨⟨hp.1.1.1,g.1.1,(f_m hy.1.2 g.2.1).1⟩,hk,?_⟩
 have:=Rv hk;have:=g.2.2;have:=hy.2.1.1.2;omega
theorem a2m{n:Nat}{s:ZS}{m0 m:Mc}{f0 f:Fr}{x:Nd}{v c d:Int}{N:Nat}{y:Fr×Mc}{z:Int×Mc}(h:whI n s m0 f0 x v m f N)(hv:¬v=0)(hc:x.kids[1]? =some c)(hy:bQz n s m f c y)(he:y.1.ended=false)(hq:(BA s.L y.2).code=0)(hd:x.kids[0]? =some d)(hz:vQz n s (BA s.L y.2) y.1.cells d z):
 zsR n s x f0 s.L m0=CT y.1 (Kx (ev s.ns n).val (ev s.ns n).blk x (N-1) z.1 y.1) s.L z.2:=by
 rw[Wl h hv hc hy,if_neg (by simp [he])]
 simp only[Cu,LQ,Option.bind_some,Dk];rw[if_pos hq,JE hd,hz.1.1];rfl
theorem a2n{n:Nat}{s:ZS}{m0 m:Mc}{f0 f:Fr}{x:Nd}{v c d:Int}{N:Nat}{y:Fr×Mc}{z:Int×Mc}(hp:sPz n s m0 f0 x)(h:whI n s m0 f0 x v m f N)(hy:bQz n s m f c y)(hq:(BA s.L y.2).code=0)(hd:x.kids[0]? =some d)(hz:vQz n s (BA s.L y.2) y.1.cells d z):DA m0 z.2 5159780352:=by
 have g:=(PC hy.2.1.1 hp.1.1.1.2 hq).1
 have hk:=Rv (hp.2.1.1.1 d (Ca hd))
 exact Fp (Gk (Gk (Gk h.2 hy.2) g) hz.2) (by omega)
theorem b2X{n:Nat}{s:ZS}{m0 m:Mc}{f0 f:Fr}{x:Nd}{v c d:Int}{N:Nat}{y:Fr×Mc}{z:Int×Mc}(hp:sPz n s m0 f0 x)(h:whI n s m0 f0 x v m f N)(hv:¬v=0)(hc:x.kids[1]? =some c)(hy:bQz n s m f c y)(he:y.1.ended=false)(hq:(BA s.L y.2).code=0)(hd:x.kids[0]? =some d)(hz:vQz n s (BA s.L y.2) y.1.cells d z)(hq2:¬z.2.code=0):sQz n s m0 f0 x (y.1,z.2):=by
 refine⟨⟨?_,f_m (f_m hy.1.2 (Wm hy.2.1.1 hp.1.1.1.2).2.1) hz.2.2.1⟩,a2n hp h hy hq hd hz⟩
 rw[a2m h hv hc hy he hq hd hz,Dk,if_neg hq2]
theorem a2o{n:Nat}{s:ZS}{m0 m:Mc}{f0 f:Fr}{x:Nd}{v c d:Int}{N:Nat}{y:Fr×Mc}{z:Int×Mc}(hp:sPz n s m0 f0 x)(h:whI n s m0 f0 x v m f N)(hv:¬v=0)(hc:x.kids[1]? =some c)(hy:bQz n s m f c y)(he:y.1.ended=false)(hq:(BA s.L y.2).code=0)(hd:x.kids[0]? =some d)(hz:vQz n s (BA s.L y.2) y.1.cells d z)(hq2:z.2.code=0):whI n s m0 f0 x z.1 z.2 y.1 (N-1)∧N-1<N:=by
 have hN:=(RQ h).2
 have g:=PC hy.2.1.1 hp.1.1.1.2 hq
 refine⟨⟨⟨⟨?_,?_,h.1.1.2.2⟩,f_m (f_m hy.1.2 g.1.2.1) hz.2.2.1⟩,a2n hp h hy hq hd hz⟩,by omega⟩
 ·rw[a2m h hv hc hy he hq hd hz,Dk,if_pos hq2]
 ·have:=h.1.1.2.1;have:=hy.2.2.1;have:=hz.2.2.1;have:=g.2;omega
theorem b2Y{n:Nat}{s:ZS}{m:Mc}{f:Fr}{k:Int}{y:Fr×Mc}(h:bQz n s m f k y):0≤y.2.steps∧y.2.steps≤2^40:=by have:=h.2.1.1.1.1;omega
theorem b2Z{n:Nat}{s:ZS}{m:Mc}{f:Fr}{x:Nd}(hp:sPz n s m f x)(hk:x.kind=16):2≤x.kids.length:=hp.2.2.1 hk
def bkI(n:Nat)(s:ZS)(m0:Mc)(f0:Fr)(k:Int)(i:Int)(y:Fr×Mc):Prop:=
 (((0≤i∧i≤(Af s.ns k).kids.length)∧(Af s.ns k).kids.length≤12)∧(FG s.ns (ev s.ns n).val (ev s.ns n).blk (Af s.ns k).kids f0 s.L m0=FG s.ns (ev s.ns n).val (ev s.ns n).blk ((Af s.ns k).kids.drop i.toNat) y.1 s.L y.2∧fOk y.1 y.2))∧DA m0 y.2 0
theorem b3a{n:Nat}{s:ZS}{m:Mc}{f:Fr}{k:Int}(hp:bPz (n+1) s m f k):bkI n s m f k 0 (f,m):=
 ⟨⟨⟨by omega,(GS hp.1.1.1 hp.2.1.1).1⟩,rfl,hp.1.2.2⟩,ND hp.1.2.1⟩
theorem b3b{n:Nat}{s:ZS}{m0:Mc}{f0:Fr}{k i:Int}{y:Fr×Mc}(h:bkI n s m0 f0 k i y):((0≤i∧i≤(Af s.ns k).kids.length)∧(Af s.ns k).kids.length≤12)∧(0≤y.2.steps∧y.2.steps≤2^40):=⟨h.1.1,by have:=h.2.1.1.1.1;omega⟩
theorem Wn{n:Nat}{s:ZS}{m:Mc}{f:Fr}{k c:Int}{i:Nat}(hp:bPz (n+1) s m f k)(hc:(Af s.ns k).kids[i]? =some c):(0≤c∧c<s.ns.length)∧BE s.ns c≤11∧c<k:=by
 have:=(GS hp.1.1.1 hp.2.1.1).2 c (Ca hc)
 have:=hp.2.1;omega
theorem RR{n:Nat}{s:ZS}{m0:Mc}{f0:Fr}{k i c:Int}{y:Fr×Mc}(h:bkI n s m0 f0 k i y)(hc:(Af s.ns k).kids[i.toNat]? =some c):
 FG s.ns (ev s.ns n).val (ev s.ns n).blk (Af s.ns k).kids f0 s.L m0=CT y.1 (if y.1.ended then Dj y.1 else if Bt s.ns c=19 then FG s.ns (ev s.ns n).val (ev s.ns n).blk ((Af s.ns k).kids.drop (i+1).toNat) y.1 else Cu LQ fun _=>Cu (CT y.1 (stG (ev s.ns n).val (ev s.ns n).blk (Af s.ns c) y.1)) fun f2=>FG s.ns (ev s.ns n).val (ev s.ns n).blk ((Af s.ns k).kids.drop (i+1).toNat) f2) s.L y.2:=by
 rw[h.1.2.1,Gl h.1.1.1.1 hc,FG]
theorem Wo{n:Nat}{s:ZS}{m0:Mc}{f0:Fr}{k:Int}{y:Fr×Mc}(h:FG s.ns (ev s.ns n).val (ev s.ns n).blk (Af s.ns k).kids f0 s.L m0=some y)(hf:fOk y.1 y.2)(g:DA m0 y.2 0):bQz (n+1) s m0 f0 k y:=⟨⟨h,hf⟩,g⟩
theorem b3c{n:Nat}{s:ZS}{m0:Mc}{f0:Fr}{k i c:Int}{y:Fr×Mc}(h:bkI n s m0 f0 k i y)(hc:(Af s.ns k).kids[i.toNat]? =some c)(hq:¬y.2.code=0):bQz (n+1) s m0 f0 k y:=
 Wo (by rw[RR h hc,Dk,if_neg hq]) h.1.2.2 h.2
theorem b3d{n:Nat}{s:ZS}{m0:Mc}{f0:Fr}{k i c:Int}{y:Fr×Mc}(h:bkI n s m0 f0 k i y)(hc:(Af s.ns k).kids[i.toNat]? =some c)(hq:y.2.code=0)(he:y.1.ended=true):bQz (n+1) s m0 f0 k y:=
 Wo (by rw[RR h hc,Dk,if_pos hq,if_pos he];rfl) h.1.2.2 h.2
theorem b3e{n:Nat}{s:ZS}{m0:Mc}{f0:Fr}{k i:Int}{y:Fr×Mc}(h:bkI n s m0 f0 k i y)(hl:¬i<((Af s.ns k).kids.length:Int)):bQz (n+1) s m0 f0 k y:=
 Wo (by rw[h.1.2.1,List.drop_eq_nil_of_le (by omega)];rfl) h.1.2.2 h.2
theorem Wp{n:Nat}{s:ZS}{m0:Mc}{f0:Fr}{k i c:Int}{y z:Fr×Mc}(h:bkI n s m0 f0 k i y)(hc:(Af s.ns k).kids[i.toNat]? =some c)(e:FG s.ns (ev s.ns n).val (ev s.ns n).blk (Af s.ns k).kids f0 s.L m0=FG s.ns (ev s.ns n).val (ev s.ns n).blk ((Af s.ns k).kids.drop (i+1).toNat) z.1 s.L z.2)(hf:fOk z.1 z.2)(g:DA m0 z.2 0):bkI n s m0 f0 k (i+1) z:=by
 have hl:=(List.getElem?_eq_some_iff.1 hc).1
 exact⟨⟨⟨by have:=h.1.1.1;omega,h.1.1.2⟩,e,hf⟩,g⟩
theorem b3f{n:Nat}{s:ZS}{m0:Mc}{f0:Fr}{k i c:Int}{y:Fr×Mc}(h:bkI n s m0 f0 k i y)(hc:(Af s.ns k).kids[i.toNat]? =some c)(hq:y.2.code=0)(he:y.1.ended=false)(hk:(Af s.ns c).kind=19):bkI n s m0 f0 k (i+1) y:=
 Wp h hc (by rw[RR h hc,Dk,if_pos hq,if_neg (by simp [he]),if_pos (show Bt s.ns c=19 from hk)]) h.1.2.2 h.2
theorem a2p{n:Nat}{s:ZS}{m0:Mc}{f0:Fr}{k i c:Int}{y:Fr×Mc}(h:bkI n s m0 f0 k i y)(hc:(Af s.ns k).kids[i.toNat]? =some c)(hq:y.2.code=0)(he:y.1.ended=false)(hk:¬(Af s.ns c).kind=19):
 FG s.ns (ev s.ns n).val (ev s.ns n).blk (Af s.ns k).kids f0 s.L m0=Cu (CT y.1 (stG (ev s.ns n).val (ev s.ns n).blk (Af s.ns c) y.1)) (fun f2=>FG s.ns (ev s.ns n).val (ev s.ns n).blk ((Af s.ns k).kids.drop (i+1).toNat) f2) s.L (BA s.L y.2):=by
 rw[RR h hc,Dk,if_pos hq,if_neg (by simp [he]),if_neg (show¬Bt s.ns c=19 from hk)];rfl
theorem b3g{n:Nat}{s:ZS}{m0:Mc}{f0:Fr}{k i c:Int}{y:Fr×Mc}(hp:bPz (n+1) s m0 f0 k)(h:bkI n s m0 f0 k i y)(hc:(Af s.ns k).kids[i.toNat]? =some c)(hq:y.2.code=0)(he:y.1.ended=false)(hk:¬(Af s.ns c).kind=19)(hs:¬(BA s.L y.2).code=0):bkI n s m0 f0 k (i+1) (y.1,BA s.L y.2):=by
 have g:=Wm h.2.1.1 hp.1.1.2
 refine Wp h hc ?_ (f_m h.1.2.2 g.2.1) (Fp (Gk h.2 g) (by omega))
 rw[a2p h hc hq he hk,Cu,Dk,if_neg hs];rfl
theorem b3h{ns:List Nd}(ht:tOk ns){c:Int}(hc:0≤c∧c<ns.length):kfZ (Af ns c):=by
 have p:=(HR (Pt ht hc)).2.2.2.2.2.1
 refine⟨fun hk=> ?_,fun hk=> ?_⟩
 ·rw[hk] at p;simp [Dv] at p;omega
 ·rw[hk] at p;simp [Dv] at p;omega
theorem b3i{n:Nat}{s:ZS}{m0:Mc}{f0:Fr}{k i c:Int}{y:Fr×Mc}(hp:bPz (n+1) s m0 f0 k)(h:bkI n s m0 f0 k i y)(hc:(Af s.ns k).kids[i.toNat]? =some c)(hs:(BA s.L y.2).code=0):sPz n s (BA s.L y.2) y.1 (Af s.ns c):=by
 have g:=PC h.2.1.1 hp.1.1.2 hs
 have hk:=Wn hp hc
 have hd:(BA s.L y.2).deep=m0.deep:=by rw[g.1.1.2,h.2.1.2]
 refine⟨⟨⟨hp.1.1,g.1.1.1⟩,⟨h.1.2.2.1.1,?_⟩,h.1.2.2.2⟩,⟨⟨a1v hp.1.1.1 hk.1 hk.2.1 (a1u ?_ hd),(GS hp.1.1.1 hk.1).1⟩,?_⟩,b3h hp.1.1.1 hk.1⟩
 ·have:=h.1.2.2.1.2;have:=g.2;omega
 ·have:=hp.2.2;unfold Cv at*;omega
 ·have:=g.1.2.2;have:=h.2.1.1.2;omega
theorem b3j{n:Nat}{s:ZS}{m0:Mc}{f0:Fr}{k i c:Int}{y z:Fr×Mc}(hp:bPz (n+1) s m0 f0 k)(h:bkI n s m0 f0 k i y)(hc:(Af s.ns k).kids[i.toNat]? =some c)(hq:y.2.code=0)(he:y.1.ended=false)(hk:¬(Af s.ns c).kind=19)(hs:(BA s.L y.2).code=0)(hz:sQz n s (BA s.L y.2) y.1 (Af s.ns c) z):bkI n s m0 f0 k (i+1) z:=by
 have g:=(PC h.2.1.1 hp.1.1.2 hs).1
 refine Wp h hc ?_ hz.1.2 (Fp (Gk (Gk h.2 g) hz.2) (by omega))
 have e:stG (ev s.ns n).val (ev s.ns n).blk (Af s.ns c) y.1 s.L (BA s.L y.2)=some z:=hz.1.1
 rw[a2p h hc hq he hk,Cu,Dk,if_pos hs,e];rfl
theorem b3k{n:Nat}{s:ZS}{m:Mc}{f:Fr}{k:Int}(hp:bPz n s m f k):0≤k∧k<s.ns.length:=hp.2.1.1
theorem a2q{n:Nat}{s:ZS}{m:Mc}{f:Fr}{k:Int}{y:Fr×Mc}(h:bQz n s m f k y):0≤y.2.steps∧y.2.steps≤2^40:=b2Y h
attribute [local irreducible] vQz vPz cQz bQz bPz sQz sPz zsI whI bkI
def EP(n:Nat):Sig:= {X:=ZX Nd,args:=fun x=>[mcA x.1 (zh x),frA (zf x),.agg (ndA false (zl x))],pre:=fun x=>sPz n x.1 (zh x) (zf x) (zl x),Y:=List Int×Int×Int×Int×Cls×Bool×Int,post:=fun x y=>sQz n x.1 (zh x) (zf x) (zl x) (yB y),res:=fun x y=> .tup [],outs:=fun x y=>[mcA x.1 (yB y).2,frA (yB y).1,.top],keep:=true}
def RS(n:Nat)(x:ZX Nd):LS:= {ι:=Int×List Int×Int×Int×Int,inv:=fun i=>zsI n x.1 (zh x) (zf x) (zl x) i.1 (yM i.2),regs:=fun i=>[(0,mcA x.1 (yM i.2)),(1,frA (zf x)),(5,.box 0 (ndA false (zl x))),(6,.int .i64 i.1)],als:=[],meas:=fun _=>0}
def RT(n:Nat)(x:ZX Nd):LS:= {ι:=List Int×Int×Int×Int×Cls×Bool×Int,inv:=fun i=>sQz n x.1 (zh x) (zf x) (zl x) (yB i),regs:=fun i=>[(0,mcA x.1 (yB i).2),(1,frA (yB i).1)],als:=[],meas:=fun _=>0}
def RU(n:Nat)(x:ZX Nd):LS:= {ι:=List Int×Int×Int×Int×Cls×Bool×Int,inv:=fun i=>sQz n x.1 (zh x) (zf x) (zl x) (yB i),regs:=fun i=>[(0,mcA x.1 (yB i).2),(1,frA (yB i).1)],als:=[],meas:=fun _=>0}
def RV(n:Nat)(x:ZX Nd):LS:= {ι:=Int×Nat×List Int×Int×Int×Int×Cls×Bool×Int,inv:=fun i=>whI n x.1 (zh x) (zf x) (zl x) i.1 (yB i.2.2).2 (yB i.2.2).1 i.2.1,regs:=fun i=>[(0,mcA x.1 (yB i.2.2).2),(1,frA (yB i.2.2).1),(5,.box 0 (ndA false (zl x))),(6,.int .i64 i.1)],als:=[],meas:=fun i=>i.2.1}
theorem b3l(n:Nat)(h:zAll G n):Ai G Tryz.prog 136 (EP n):=
 vcFun_okP [(179,0,(DI n)),(22,0,Fb),(23,0,Js),(104,0,Dm),(106,0,(JB n)),(135,0,GT)] [(42,⟨List UInt8×Int,Aw⟩)] false (fun x=>[(200004,RS n x),(100007,RT n x),(100012,RU n x),(21,RV n x)]) Tryz.func136 rfl (by decide) ⟨h.val,VS,VR,NF,h.blk,a1J,trivial⟩ (fun(x:ZX Nd)=>True∧Aa (decide ((↑(List.length (zl x).kids):Int)>(0:Int))) (((0:Int)≤(0:Int)∧(0:Int)<(↑(List.length (zl x).kids):Int))∧∀(e:Int),(zl x).kids[(0:Nat)]? =some e→cA (DI n) [.box 0 [nds x.1.ns,.int .i64 x.1.L,Ab (zh x).out,.int .i64 (0:Int),.int .i64 (zh x).code,.int .i64 (zh x).steps,.int .i64 (zh x).deep],.box 0 [AV.sl false 0 2 (List UInt8×Int) Aw (zf x).cells,.bool (zf x).ended,.int .i64 (zf x).ret],.int .i64 e] fun x_1 y=>eA (RS n x) [.box 0 [nds x_1.1.ns,.int .i64 x_1.1.L,Ab (yM y.2).out,.int .i64 (0:Int),.int .i64 (yM y.2).code,.int .i64 (yM y.2).steps,.int .i64 (yM y.2).deep],.box 0 [AV.sl false 0 2 (List UInt8×Int) Aw (zf x_1).cells,.bool (zf x_1).ended,.int .i64 (zf x_1).ret],.box 0 [.int .i64 (zl x).kind,.str (zl x).text,Aj (zl x).kids,.bool (zl x).blank],.int .i64 y.1]) (eA (RS n x) [.box 0 [nds x.1.ns,.int .i64 x.1.L,Ab (zh x).out,.int .i64 (0:Int),.int .i64 (zh x).code,.int .i64 (zh x).steps,.int .i64 (zh x).deep],.box 0 [AV.sl false 0 2 (List UInt8×Int) Aw (zf x).cells,.bool (zf x).ended,.int .i64 (zf x).ret],.box 0 [.int .i64 (zl x).kind,.str (zl x).text,Aj (zl x).kids,.bool (zl x).blank],.int .i64 (0:Int)])∧∀(i:Int×List Int×Int×Int×Int),zsI n x.1 (zh x) (zf x) (zl x) i.1 (yM i.2)→Aa ((yM i.2).code != (0:Int)) (rA (EP n) x [.tup [],.box 0 [nds x.1.ns,.int .i64 x.1.L,Ab (yM i.2).out,.int .i64 (0:Int),.int .i64 (yM i.2).code,.int .i64 (yM i.2).steps,.int .i64 (yM i.2).deep],.box 0 [AV.sl false 0 2 (List UInt8×Int) Aw (zf x).cells,.bool (zf x).ended,.int .i64 (zf x).ret],.top]) (Aa ((zl x).kind==(12:Int)) (true=true∧((cA Fb [AV.sl false 0 2 (List UInt8×Int) Aw (zf x).cells,.str (zl x).text,.int .i64 i.1] fun x_1 y=>true=true∧eA (RT n x) [.box 0 [nds x.1.ns,.int .i64 x.1.L,Ab (yM i.2).out,.int .i64 (0:Int),.int .i64 (yM i.2).code,.int .i64 (yM i.2).steps,.int .i64 (yM i.2).deep],.box 0 [AV.sl false 0 2 (List UInt8×Int) Aw (Cd x_1.1 x_1.2.1 x_1.2.2),.bool (zf x).ended,.int .i64 (zf x).ret]])∧cA Fb [AV.sl false 0 2 (List UInt8×Int) Aw (zf x).cells,.str (zl x).text,.int .i64 i.1] fun x_1 y=>true=true∧eA (RT n x) [.box 0 [nds x.1.ns,.int .i64 x.1.L,Ab (yM i.2).out,.int .i64 (0:Int),.int .i64 (yM i.2).code,.int .i64 (yM i.2).steps,.int .i64 (yM i.2).deep],.box 0 [AV.sl false 0 2 (List UInt8×Int) Aw (Cd x_1.1 x_1.2.1 x_1.2.2),.bool (zf x).ended,.int .i64 (zf x).ret]])∧∀(i:List Int×Int×Int×Int×Cls×Bool×Int),sQz n x.1 (zh x) (zf x) (zl x) (yB i)→rA (EP n) x [.tup [],.box 0 [nds x.1.ns,.int .i64 x.1.L,Ab (yB i).2.out,.int .i64 (0:Int),.int .i64 (yB i).2.code,.int .i64 (yB i).2.steps,.int .i64 (yB i).2.deep],.box 0 [AV.sl false 0 2 (List UInt8×Int) Aw (yB i).1.cells,.bool (yB i).1.ended,.int .i64 (yB i).1.ret],.top]) (Aa ((zl x).kind==(13:Int)) (true=true∧true=true∧∃(x_1:Cls×List UInt8),List.length x_1.1<(4611686018427387904:Nat)∧AV.sl false 0 2 (List UInt8×Int) Aw (zf x).cells=AV.sl false 0 2 (List UInt8×Int) Aw x_1.1∧(zl x).text=x_1.2∧∃(y0:Unit),(∀(y:Unit),True→AV.tup [.int .i64 (nOf (BQ x_1.1 x_1.2)),.bool (Option.isSome (BQ x_1.1 x_1.2))]=AV.tup [.int .i64 (nOf (BQ x_1.1 x_1.2)),.bool (Option.isSome (BQ x_1.1 x_1.2))])∧true=true∧Aa (!Option.isSome (BQ x_1.1 x_1.2)) (cA Dm [.box 0 [nds x.1.ns,.int .i64 x.1.L,Ab (yM i.2).out,.int .i64 (0:Int),.int .i64 (yM i.2).code,.int .i64 (yM i.2).steps,.int .i64 (yM i.2).deep]] fun x_2 y=>rA (EP n) x [.tup [],.box 0 [nds x_2.1.ns,.int .i64 x_2.1.L,Ab (Bm (zg x_2)).out,.int .i64 (0:Int),.int .i64 (Bm (zg x_2)).code,.int .i64 (Bm (zg x_2)).steps,.int .i64 (Bm (zg x_2)).deep],.box 0 [AV.sl false 0 2 (List UInt8×Int) Aw (zf x).cells,.bool (zf x).ended,.int .i64 (zf x).ret],.top]) (true=true∧((cA Fb [AV.sl false 0 2 (List UInt8×Int) Aw (zf x).cells,.str (zl x).text,.int .i64 i.1] fun x_2 y=>true=true∧eA (RU n x) [.box 0 [nds x.1.ns,.int .i64 x.1.L,Ab (yM i.2).out,.int .i64 (0:Int),.int .i64 (yM i.2).code,.int .i64 (yM i.2).steps,.int .i64 (yM i.2).deep],.box 0 [AV.sl false 0 2 (List UInt8×Int) Aw (Cd x_2.1 x_2.2.1 x_2.2.2),.bool (zf x).ended,.int .i64 (zf x).ret]])∧cA Fb [AV.sl false 0 2 (List UInt8×Int) Aw (zf x).cells,.str (zl x).text,.int .i64 i.1] fun x_2 y=>true=true∧eA (RU n x) [.box 0 [nds x.1.ns,.int .i64 x.1.L,Ab (yM i.2).out,.int .i64 (0:Int),.int .i64 (yM i.2).code,.int .i64 (yM i.2).steps,.int .i64 (yM i.2).deep],.box 0 [AV.sl false 0 2 (List UInt8×Int) Aw (Cd x_2.1 x_2.2.1 x_2.2.2),.bool (zf x).ended,.int .i64 (zf x).ret]])∧∀(i:List Int×Int×Int×Int×Cls×Bool×Int),sQz n x.1 (zh x) (zf x) (zl x) (yB i)→rA (EP n) x [.tup [],.box 0 [nds x.1.ns,.int .i64 x.1.L,Ab (yB i).2.out,.int .i64 (0:Int),.int .i64 (yB i).2.code,.int .i64 (yB i).2.steps,.int .i64 (yB i).2.deep],.box 0 [AV.sl false 0 2 (List UInt8×Int) Aw (yB i).1.cells,.bool (yB i).1.ended,.int .i64 (yB i).1.ret],.top])) (Aa ((zl x).kind==(15:Int)) (rA (EP n) x [.tup [],.box 0 [nds x.1.ns,.int .i64 x.1.L,Ab (yM i.2).out,.int .i64 (0:Int),.int .i64 (yM i.2).code,.int .i64 (yM i.2).steps,.int .i64 (yM i.2).deep],.box 0 [AV.sl false 0 2 (List UInt8×Int) Aw (zf x).cells,.bool true,.int .i64 i.1],.top]) (Aa ((zl x).kind==(16:Int)) (Aa (i.1 != (0:Int)) (((0:Int)≤(1:Int)∧(1:Int)<(↑(List.length (zl x).kids):Int))∧∀(e:Int),(zl x).kids[(1:Nat)]? =some e→cA (JB n) [.box 0 [nds x.1.ns,.int .i64 x.1.L,Ab (yM i.2).out,.int .i64 (0:Int),.int .i64 (yM i.2).code,.int .i64 (yM i.2).steps,.int .i64 (yM i.2).deep],.box 0 [AV.sl false 0 2 (List UInt8×Int) Aw (zf x).cells,.bool (zf x).ended,.int .i64 (zf x).ret],.int .i64 e] fun x_1 y=>rA (EP n) x [.tup [],.box 0 [nds x_1.1.ns,.int .i64 x_1.1.L,Ab (yB y).2.out,.int .i64 (0:Int),.int .i64 (yB y).2.code,.int .i64 (yB y).2.steps,.int .i64 (yB y).2.deep],.box 0 [AV.sl false 0 2 (List UInt8×Int) Aw (yB y).1.cells,.bool (yB y).1.ended,.int .i64 (yB y).1.ret],.top]) (Aa ((↑(List.length (zl x).kids):Int)==(3:Int)) (((0:Int)≤(2:Int)∧(2:Int)<(↑(List.length (zl x).kids):Int))∧∀(e:Int),(zl x).kids[(2:Nat)]? =some e→cA (JB n) [.box 0 [nds x.1.ns,.int .i64 x.1.L,Ab (yM i.2).out,.int .i64 (0:Int),.int .i64 (yM i.2).code,.int .i64 (yM i.2).steps,.int .i64 (yM i.2).deep],.box 0 [AV.sl false 0 2 (List UInt8×Int) Aw (zf x).cells,.bool (zf x).ended,.int .i64 (zf x).ret],.int .i64 e] fun x_1 y=>rA (EP n) x [.tup [],.box 0 [nds x_1.1.ns,.int .i64 x_1.1.L,Ab (yB y).2.out,.int .i64 (0:Int),.int .i64 (yB y).2.code,.int .i64 (yB y).2.steps,.int .i64 (yB y).2.deep],.box 0 [AV.sl false 0 2 (List UInt8×Int) Aw (yB y).1.cells,.bool (yB y).1.ended,.int .i64 (yB y).1.ret],.top]) (rA (EP n) x [.tup [],.box 0 [nds x.1.ns,.int .i64 x.1.L,Ab (yM i.2).out,.int .i64 (0:Int),.int .i64 (yM i.2).code,.int .i64 (yM i.2).steps,.int .i64 (yM i.2).deep],.box 0 [AV.sl false 0 2 (List UInt8×Int) Aw (zf x).cells,.bool (zf x).ended,.int .i64 (zf x).ret],.top]))) (Aa ((zl x).kind==(17:Int)) (eA (RV n x) [.box 0 [nds x.1.ns,.int .i64 x.1.L,Ab (yM i.2).out,.int .i64 (0:Int),.int .i64 (yM i.2).code,.int .i64 (yM i.2).steps,.int .i64 (yM i.2).deep],.box 0 [AV.sl false 0 2 (List UInt8×Int) Aw (zf x).cells,.bool (zf x).ended,.int .i64 (zf x).ret],.box 0 [.int .i64 (zl x).kind,.str (zl x).text,Aj (zl x).kids,.bool (zl x).blank],.int .i64 i.1]∧∀(i:Int×Nat×List Int×Int×Int×Int×Cls×Bool×Int),whI n x.1 (zh x) (zf x) (zl x) i.1 (yB i.2.2).2 (yB i.2.2).1 i.2.1→Aa (i.1 != (0:Int)) (((0:Int)≤(1:Int)∧(1:Int)<(↑(List.length (zl x).kids):Int))∧∀(e:Int),(zl x).kids[(1:Nat)]? =some e→cA (JB n) [.box 0 [nds x.1.ns,.int .i64 x.1.L,Ab (yB i.2.2).2.out,.int .i64 (0:Int),.int .i64 (yB i.2.2).2.code,.int .i64 (yB i.2.2).2.steps,.int .i64 (yB i.2.2).2.deep],.box 0 [AV.sl false 0 2 (List UInt8×Int) Aw (yB i.2.2).1.cells,.bool (yB i.2.2).1.ended,.int .i64 (yB i.2.2).1.ret],.int .i64 e] fun x_1 y=>Aa (yB y).1.ended (rA (EP n) x [.tup [],.box 0 [nds x_1.1.ns,.int .i64 x_1.1.L,Ab (yB y).2.out,.int .i64 (0:Int),.int .i64 (yB y).2.code,.int .i64 (yB y).2.steps,.int .i64 (yB y).2.deep],.box 0 [AV.sl false 0 2 (List UInt8×Int) Aw (yB y).1.cells,.bool (yB y).1.ended,.int .i64 (yB y).1.ret],.top]) (cA GT [.box 0 [nds x_1.1.ns,.int .i64 x_1.1.L,Ab (yB y).2.out,.int .i64 (0:Int),.int .i64 (yB y).2.code,.int .i64 (yB y).2.steps,.int .i64 (yB y).2.deep]] fun x_2 y_1=>Aa (!decide ((BA x_2.1.L (zg x_2)).code=(0:Int))) (rA (EP n) x [.tup [],.box 0 [nds x_2.1.ns,.int .i64 x_2.1.L,Ab (BA x_2.1.L (zg x_2)).out,.int .i64 (0:Int),.int .i64 (BA x_2.1.L (zg x_2)).code,.int .i64 (BA x_2.1.L (zg x_2)).steps,.int .i64 (BA x_2.1.L (zg x_2)).deep],.box 0 [AV.sl false 0 2 (List UInt8×Int) Aw (yB y).1.cells,.bool (yB y).1.ended,.int .i64 (yB y).1.ret],.top]) (((0:Int)≤(0:Int)∧(0:Int)<(↑(List.length (zl x).kids):Int))∧∀(e:Int),(zl x).kids[(0:Nat)]? =some e→cA (DI n) [.box 0 [nds x_2.1.ns,.int .i64 x_2.1.L,Ab (BA x_2.1.L (zg x_2)).out,.int .i64 (0:Int),.int .i64 (BA x_2.1.L (zg x_2)).code,.int .i64 (BA x_2.1.L (zg x_2)).steps,.int .i64 (BA x_2.1.L (zg x_2)).deep],.box 0 [AV.sl false 0 2 (List UInt8×Int) Aw (yB y).1.cells,.bool (yB y).1.ended,.int .i64 (yB y).1.ret],.int .i64 e] fun x_3 y=>Aa ((yM y.2).code != (0:Int)) (rA (EP n) x [.tup [],.box 0 [nds x_3.1.ns,.int .i64 x_3.1.L,Ab (yM y.2).out,.int .i64 (0:Int),.int .i64 (yM y.2).code,.int .i64 (yM y.2).steps,.int .i64 (yM y.2).deep],.box 0 [AV.sl false 0 2 (List UInt8×Int) Aw (zf x_3).cells,.bool (zf x_3).ended,.int .i64 (zf x_3).ret],.top]) (eN (RV n x) i [.box 0 [nds x_3.1.ns,.int .i64 x_3.1.L,Ab (yM y.2).out,.int .i64 (0:Int),.int .i64 (yM y.2).code,.int .i64 (yM y.2).steps,.int .i64 (yM y.2).deep],.box 0 [AV.sl false 0 2 (List UInt8×Int) Aw (zf x_3).cells,.bool (zf x_3).ended,.int .i64 (zf x_3).ret],.box 0 [.int .i64 (zl x).kind,.str (zl x).text,Aj (zl x).kids,.bool (zl x).blank],.int .i64 y.1])))) (rA (EP n) x [.tup [],.box 0 [nds x.1.ns,.int .i64 x.1.L,Ab (yB i.2.2).2.out,.int .i64 (0:Int),.int .i64 (yB i.2.2).2.code,.int .i64 (yB i.2.2).2.steps,.int .i64 (yB i.2.2).2.deep],.box 0 [AV.sl false 0 2 (List UInt8×Int) Aw (yB i.2.2).1.cells,.bool (yB i.2.2).1.ended,.int .i64 (yB i.2.2).1.ret],.top])) (rA (EP n) x [.tup [],.box 0 [nds x.1.ns,.int .i64 x.1.L,Ab (yM i.2).out,.int .i64 (0:Int),.int .i64 (yM i.2).code,.int .i64 (yM i.2).steps,.int .i64 (yM i.2).deep],.box 0 [AV.sl false 0 2 (List UInt8×Int) Aw (zf x).cells,.bool (zf x).ended,.int .i64 (zf x).ret],.top]))))))) (fun x=>by kernel_rfl) fun(x:ZX Nd) (hx:sPz n x.1 (zh x) (zf x) (zl x))=>(by
 dsimp only[cA,Aw,cls,eA,eN,frA,RT,RU,RV,RS,Aj,mcA,Bc,nds,Hx,Ab,rA,Fb,Dm,GT,JB,EP,DI,Au,Az,mvL,lnL,mvE,lnE,Bq]
 obtain⟨s,o,c,t,d,cs,en,re,z⟩:=x;dsimp only[zh,zf,zl] at hx ⊢
 have hx:sPz n s ⟨o,c,t,d⟩ ⟨cs,en,re⟩ z:=hx
 (repeat' first|(with_reducible first|rfl|exact True.intro|apply AK|apply And.intro|((first|apply AA|apply AI|apply AB|apply AJ)<;>intro _))|(apply Ax<;>intro _)|apply AH|refine Ae () ?_ ?_|((first|apply AO|apply AN|apply AM|apply AL|apply AG|apply AF|apply AE|apply AD|apply AC)<;>try dsimp only)|apply Ae|(refine Prod.forall.2 ?_;intro _;try dsimp only)|(intro _;try dsimp only))
 all_goals first|(show Nat;skip)|(simp only[Ma,decide_eq_true_eq,decide_eq_false_iff_not] at*)|skip
 all_goals first|(show Nat;skip)|(have hL:=b2G hx (show zsI _ _ _ _ _ _ _ by assumption);dsimp only at hL)|skip
 all_goals first|(show Nat;skip)|(have hW:=(RQ (show whI _ _ _ _ _ _ _ _ _ by assumption)).1)|skip
 all_goals first|(show Nat;skip)|(have h16:=b2Z hx ‹_›)|skip
 all_goals first
  |(show Nat;skip)
  |rfl
  |exact hx
  |assumption
  |exact b2B hx ‹_›
  |exact b2D hx ‹_›
  |exact b2E hx ‹_› ‹_› ‹_›
  |exact b2F hx ‹_› ‹_›
  |exact b2H hx ‹_› ‹_› ‹_›
  |exact b2I hx ‹_› ‹_› ‹_› ‹_›
  |exact b2K hx ‹_› ‹_› ‹_› ‹_›
  |exact b2L hx ‹_› ‹_› ‹_›
  |exact b2N hx ‹_› ‹_›
  |exact b2O ‹_› ‹_› ‹_› ‹_› ‹_› ‹_›
  |exact b2P ‹_› ‹_› ‹_› ‹_› ‹_› ‹_› ‹_›
  |exact b2Q hx ‹_› ‹_› ‹_› ‹_› ‹_›
  |exact b2R hx ‹_› ‹_› ‹_›
  |exact b2M hx ‹_› ‹_› ‹_› ‹_› ‹_› ‹_› ‹_›
  |exact b2S ‹_› ‹_›
  |exact b2T hx ‹_› ‹_›
  |exact b2U ‹_› ‹_› ‹_› ‹_› ‹_›
  |exact b2V hx ‹_› ‹_› ‹_› ‹_› ‹_› ‹_›
  |exact b2W hx ‹_› ‹_› ‹_› ‹_›
  |exact b2X hx ‹_› ‹_› ‹_› ‹_› ‹_› ‹_› ‹_› ‹_› ‹_›
  |exact(a2o hx ‹_› ‹_› ‹_› ‹_› ‹_› ‹_› ‹_› ‹_› ‹_›).1
  |exact(a2q ‹_›).1
  |exact(a2q ‹_›).2
  |((try simp only[AR]);omega)
  |skip
 all_goals first
  |exact(a2o hx ‹_› ‹_› ‹_› ‹_› ‹_› ‹_› ‹_› ‹_› ‹_›).2
  |skip)
def PD(n:Nat):Sig:= {X:=ZX Int,args:=fun x=>[mcA x.1 (zh x),frA (zf x),.int .i64 (zl x)],pre:=fun x=>bPz (n+1) x.1 (zh x) (zf x) (zl x),Y:=List Int×Int×Int×Int×Cls×Bool×Int,post:=fun x y=>bQz (n+1) x.1 (zh x) (zf x) (zl x) (yB y),res:=fun x y=> .tup [],outs:=fun x y=>[mcA x.1 (yB y).2,frA (yB y).1,.top],keep:=true}
def NL(n:Nat)(x:ZX Int):LS:= {ι:=Int×List Int×Int×Int×Int×Cls×Bool×Int,inv:=fun i=>bkI n x.1 (zh x) (zf x) (zl x) i.1 (yB i.2),regs:=fun i=>[(0,mcA x.1 (yB i.2).2),(1,frA (yB i.2).1),(15,Aj (Af x.1.ns (zl x)).kids),(16,.int .i64 (Af x.1.ns (zl x)).kids.length),(17,.int .i64 i.1)],als:=[],meas:=fun i=>(Af x.1.ns (zl x)).kids.length-i.1.toNat}
theorem b3m(n:Nat)(h:zAll G n):Ai G Tryz.prog 106 (PD n):=
 vcFun_okP [(135,0,GT),(136,0,(EP n))] [] false (fun x=>[(1,NL n x)]) Tryz.func106 rfl (by decide) ⟨a1J,(b3l n h),trivial⟩ (fun(x:ZX Int)=>True∧((0:Int)≤zl x∧zl x<(↑(List.length x.1.ns):Int))∧∀(e:Nd),x.1.ns[Int.toNat (zl x)]? =some e→eA (NL n x) [.box 0 [nds x.1.ns,.int .i64 x.1.L,Ab (zh x).out,.int .i64 (0:Int),.int .i64 (zh x).code,.int .i64 (zh x).steps,.int .i64 (zh x).deep],.box 0 [AV.sl false 0 2 (List UInt8×Int) Aw (zf x).cells,.bool (zf x).ended,.int .i64 (zf x).ret],Aj e.kids,.int .i64 (↑(List.length e.kids):Int),.int .i64 (0:Int)]∧∀(i:Int×List Int×Int×Int×Int×Cls×Bool×Int),bkI n x.1 (zh x) (zf x) (zl x) i.1 (yB i.2)→Aa (decide (i.1<(↑(List.length (Af x.1.ns (zl x)).kids):Int))) (((0:Int)≤i.1∧i.1<(↑(List.length (Af x.1.ns (zl x)).kids):Int))∧∀(e:Int),(Af x.1.ns (zl x)).kids[Int.toNat i.1]? =some e→Aa ((yB i.2).2.code != (0:Int)) (rA (PD n) x [.tup [],.box 0 [nds x.1.ns,.int .i64 x.1.L,Ab (yB i.2).2.out,.int .i64 (0:Int),.int .i64 (yB i.2).2.code,.int .i64 (yB i.2).2.steps,.int .i64 (yB i.2).2.deep],.box 0 [AV.sl false 0 2 (List UInt8×Int) Aw (yB i.2).1.cells,.bool (yB i.2).1.ended,.int .i64 (yB i.2).1.ret],.top]) (Aa (yB i.2).1.ended (rA (PD n) x [.tup [],.box 0 [nds x.1.ns,.int .i64 x.1.L,Ab (yB i.2).2.out,.int .i64 (0:Int),.int .i64 (yB i.2).2.code,.int .i64 (yB i.2).2.steps,.int .i64 (yB i.2).2.deep],.box 0 [AV.sl false 0 2 (List UInt8×Int) Aw (yB i.2).1.cells,.bool (yB i.2).1.ended,.int .i64 (yB i.2).1.ret],.top]) (((0:Int)≤e∧e<(↑(List.length x.1.ns):Int))∧∀(e_1:Nd),x.1.ns[Int.toNat e]? =some e_1→Aa (e_1.kind != (19:Int)) (cA GT [.box 0 [nds x.1.ns,.int .i64 x.1.L,Ab (yB i.2).2.out,.int .i64 (0:Int),.int .i64 (yB i.2).2.code,.int .i64 (yB i.2).2.steps,.int .i64 (yB i.2).2.deep]] fun x_1 y=>Aa (decide ((BA x_1.1.L (zg x_1)).code=(0:Int))) (((0:Int)≤e∧e<(↑(List.length x_1.1.ns):Int))∧∀(e_2:Nd),x_1.1.ns[Int.toNat e]? =some e_2→cA (EP n) [.box 0 [nds x_1.1.ns,.int .i64 x_1.1.L,Ab (BA x_1.1.L (zg x_1)).out,.int .i64 (0:Int),.int .i64 (BA x_1.1.L (zg x_1)).code,.int .i64 (BA x_1.1.L (zg x_1)).steps,.int .i64 (BA x_1.1.L (zg x_1)).deep],.box 0 [AV.sl false 0 2 (List UInt8×Int) Aw (yB i.2).1.cells,.bool (yB i.2).1.ended,.int .i64 (yB i.2).1.ret],.agg [.int .i64 e_2.kind,.str e_2.text,Aj e_2.kids,.bool e_2.blank]] fun x_2 y=>inR IntKind.i64 (i.1+(1:Int))∧eN (NL n x) i [.box 0 [nds x_2.1.ns,.int .i64 x_2.1.L,Ab (yB y).2.out,.int .i64 (0:Int),.int .i64 (yB y).2.code,.int .i64 (yB y).2.steps,.int .i64 (yB y).2.deep],.box 0 [AV.sl false 0 2 (List UInt8×Int) Aw (yB y).1.cells,.bool (yB y).1.ended,.int .i64 (yB y).1.ret],Aj (Af x.1.ns (zl x)).kids,.int .i64 (↑(List.length (Af x.1.ns (zl x)).kids):Int),.int .i64 (i.1+(1:Int))]) (inR IntKind.i64 (i.1+(1:Int))∧eN (NL n x) i [.box 0 [nds x_1.1.ns,.int .i64 x_1.1.L,Ab (BA x_1.1.L (zg x_1)).out,.int .i64 (0:Int),.int .i64 (BA x_1.1.L (zg x_1)).code,.int .i64 (BA x_1.1.L (zg x_1)).steps,.int .i64 (BA x_1.1.L (zg x_1)).deep],.box 0 [AV.sl false 0 2 (List UInt8×Int) Aw (yB i.2).1.cells,.bool (yB i.2).1.ended,.int .i64 (yB i.2).1.ret],Aj (Af x.1.ns (zl x)).kids,.int .i64 (↑(List.length (Af x.1.ns (zl x)).kids):Int),.int .i64 (i.1+(1:Int))])) (inR IntKind.i64 (i.1+(1:Int))∧eN (NL n x) i [.box 0 [nds x.1.ns,.int .i64 x.1.L,Ab (yB i.2).2.out,.int .i64 (0:Int),.int .i64 (yB i.2).2.code,.int .i64 (yB i.2).2.steps,.int .i64 (yB i.2).2.deep],.box 0 [AV.sl false 0 2 (List UInt8×Int) Aw (yB i.2).1.cells,.bool (yB i.2).1.ended,.int .i64 (yB i.2).1.ret],Aj (Af x.1.ns (zl x)).kids,.int .i64 (↑(List.length (Af x.1.ns (zl x)).kids):Int),.int .i64 (i.1+(1:Int))])))) (rA (PD n) x [.tup [],.box 0 [nds x.1.ns,.int .i64 x.1.L,Ab (yB i.2).2.out,.int .i64 (0:Int),.int .i64 (yB i.2).2.code,.int .i64 (yB i.2).2.steps,.int .i64 (yB i.2).2.deep],.box 0 [AV.sl false 0 2 (List UInt8×Int) Aw (yB i.2).1.cells,.bool (yB i.2).1.ended,.int .i64 (yB i.2).1.ret],.top])) (fun x=>by kernel_rfl) fun(x:ZX Int) (hx:bPz (n+1) x.1 (zh x) (zf x) (zl x))=>(by
 dsimp only[cA,Aw,cls,eA,eN,frA,NL,Aj,mcA,Bc,nds,Ab,rA,GT,PD,EP,Au,Az,mvL,lnL,mvE,lnE,Bq]
 obtain⟨s,o,c,t,d,cs,en,re,k⟩:=x;dsimp only[zh,zf,zl] at hx ⊢
 have hx:bPz (n+1) s ⟨o,c,t,d⟩ ⟨cs,en,re⟩ k:=hx
 have hk:=b3k hx
 (repeat' first|(with_reducible first|rfl|exact True.intro|apply AK|apply And.intro|((first|apply AA|apply AI|apply AB|apply AJ)<;>intro _))|(apply Ax<;>intro _)|apply AH|refine Ae () ?_ ?_|((first|apply AO|apply AN|apply AM|apply AL|apply AG|apply AF|apply AE|apply AD|apply AC)<;>try dsimp only)|apply Ae|(refine Prod.forall.2 ?_;intro _;try dsimp only)|(intro _;try dsimp only))
 all_goals(try simp only[Ma,decide_eq_true_eq,decide_eq_false_iff_not] at*)
 all_goals(repeat(rename s.ns[_]? =some _=>hq;have hqe:=(Bw hq).symm;clear hq;subst hqe))
 all_goals(try(have hB:=b3b (show bkI _ _ _ _ _ _ _ by assumption);dsimp only[yB] at hB))
 all_goals first
  |rfl
  |exact hx
  |exact hk.1
  |exact hk.2
  |assumption
  |exact b3a hx
  |exact b3c ‹_› ‹_› ‹_›
  |exact b3d ‹_› ‹_› ‹_› ‹_›
  |exact(Wn hx ‹_›).1.1
  |exact(Wn hx ‹_›).1.2
  |exact b3f ‹_› ‹_› ‹_› ‹_› ‹_›
  |exact b3g hx ‹_› ‹_› ‹_› ‹_› ‹_› ‹_›
  |exact b3i hx ‹_› ‹_› ‹_›
  |exact b3j hx ‹_› ‹_› ‹_› ‹_› ‹_› ‹_› ‹_›
  |exact b3e ‹_› ‹_›
  |((try simp only[AR]);omega)
  |skip)
theorem a2r{P:Program}{f:FuncId}{S:Sig}{fn:Func}{c:Code}(hfn:P.funcs[f]? =some fn)(hb:fn.body=some c)(hn:(fn.name== "runtime.NumGoroutine")=false)(hp:∀x,¬S.pre x):Ai G P f S:=
 ⟨⟨⟨fn,hfn,hn,by simp [hb]⟩,fun x y hx _=>(hp x hx).elim⟩,fun x hx=>(hp x hx).elim⟩
end Go.My
end
section
namespace Go.My
open Go.Eng
def restP{α:Type}(sg:List Sg)(x:Gs)(f:Ps→Option (α×Ps))(y:Gs)(g:Ps→Option (α×Ps))(d:Int):Prop:=
 gsOk sg y∧y.deep=x.deep+d∧x.pos≤y.pos∧(pur y).bind g=(pur x).bind f
theorem Ds{α:Type}{sg:List Sg}{x:Gs}{f:Ps→Option (α×Ps)}(h:gsOk sg x):restP sg x f x f 0:=⟨h,by omega,Int.le_refl _,rfl⟩
theorem DJ{α:Type}{sg:List Sg}{x y:Gs}{f g g':Ps→Option (α×Ps)}{d:Int}(h:restP sg x f y g d)(e:∀s,pur y=some s→g s=g' s):restP sg x f y g' d:=by
 refine⟨h.1,h.2.1,h.2.2.1,?_⟩
 rw[←h.2.2.2]
 cases hs:pur y with
 |none=>rfl
 |some s=>exact(e s hs).symm
theorem a2s{α:Type}{sg:List Sg}{x y z:Gs}{f g g':Ps→Option (α×Ps)}{h:Ps→Option Ps}{d:Int}(h1:restP sg x f y g d)(h2:VV sg y h z)(e:∀s,pur y=some s→g s=(h s).bind g'):restP sg x f z g' d:=by
 obtain⟨a1,a2,a3,a4⟩:=h1;obtain⟨b1,b2,b3,b4⟩:=h2
 refine⟨b1,by omega,by omega,?_⟩
 rw[b4,←a4]
 cases hs:pur y with
 |none=>rfl
 |some s=>simp only[Option.bind_some];rw[e s hs]
theorem BJ{α β:Type}{sg:List Sg}{x y:Gs}{z:β×Gs}{f g:Ps→Option (α×Ps)}{k:β→Ps→Option (α×Ps)}{h:Ps→Option (β×Ps)}{d:Int}(h1:restP sg x f y g d)(h2:Bl sg y h z)
 (e:∀s,pur y=some s→g s=(h s).bind fun p=>k p.1 p.2):restP sg x f z.2 (k z.1) d:=by
 obtain⟨a1,a2,a3,a4⟩:=h1;obtain⟨b1,b2,b3,b4,b5⟩:=h2
 refine⟨b1,by omega,by omega,?_⟩
 rw[b4,←a4]
 cases hs:pur y with
 |none=>rfl
 |some s=>
  simp only[Option.bind_some];rw[e s hs]
  rw[hs] at b5
  simp only[Option.bind_some] at b5
  cases hp:h s with
  |none=>rfl
  |some p=>simp only[Option.map_some,Option.bind_some];rw[b5 p hp]
theorem FK{α:Type}{sg:List Sg}{x y:Gs}{f:Ps→Option (α×Ps)}{a:α}(h:restP sg x f y (fun s=>some (a,s)) 0):Bl sg x f (a,y):=by
 obtain⟨a1,a2,a3,a4⟩:=h
 refine⟨a1,by simp only;omega,a3,?_,?_⟩
 ·rw[←a4];cases pur y<;>rfl
 ·intro p hp;rw[←a4] at hp
  cases hs:pur y with
  |none=>rw[hs] at hp;cases hp
  |some s=>rw[hs] at hp;simp only[Option.bind_some,Option.some.injEq] at hp;rw[←hp]
theorem PE{α:Type}{sg:List Sg}{x y:Gs}{f g:Ps→Option (α×Ps)}{a:α}(h:restP sg x f y g 0)(hb:y.bad=true):Bl sg x f (a,y):=by
 obtain⟨a1,a2,a3,a4⟩:=h
 rw[DU hb] at a4
 have hn:(pur x).bind f=none:=a4.symm
 refine⟨a1,by simp only;omega,a3,?_,fun p hp=>by rw[hn] at hp;cases hp⟩
 rw[hn,DU hb];rfl
theorem a2t{α:Type}{sg:List Sg}{x y:Gs}{f g:Ps→Option (α×Ps)}{d:Int}(h:restP sg x f y g d)(e:∀s,pur y=some s→g s=none):(pur x).bind f=none:=by
 rw[←h.2.2.2]
 cases hs:pur y with
 |none=>rfl
 |some s=>exact e s hs
theorem a2u{α:Type}{sg:List Sg}{x y:Gs}{f g:Ps→Option (α×Ps)}{a:α}(h:restP sg x f y g 0)(e:∀s,pur y=some s→g s=none):Bl sg x f (a,Bd y):=by
 have hn:=a2t h e
 refine⟨LX h.1,by simp only[Bd];have:=h.2.1;omega,h.2.2.1,?_,fun p hp=>by rw[hn] at hp;cases hp⟩
 rw[hn,Jw];rfl
theorem KH{α:Type}{sg:List Sg}{x y:Gs}{f g g':Ps→Option (α×Ps)}{d e:Int}(h:restP sg x f y g d)(hd:0≤y.deep+e∧y.deep+e≤21)(hg:∀s,pur y=some s→g s=g' (dp s e)):restP sg x f (gDp y e) g' (d+e):=by
 obtain⟨a1,a2,a3,a4⟩:=h
 refine⟨⟨a1.1,hd,a1.2.2⟩,by simp only[gDp];omega,a3,?_⟩
 rw[←a4]
 cases hb:y.bad with
 |true=>rw[DU hb,DU (by simpa [gDp] using hb)];rfl
 |false=>
  rw[Dd hb,Dd (g:=gDp y e) (by simpa [gDp] using hb)]
  simp only[Option.bind_some]
  rw[hg _ (Dd hb)];rfl
theorem a2v{α:Type}{sg:List Sg}{x y:Gs}{f g g':Ps→Option (α×Ps)}{d:Int}(h:restP sg x f y g d)(hg:∀s,pur y=some s→g s=none):restP sg x f (Bd y) g' d:=by
 have hn:=a2t h hg
 refine⟨LX h.1,h.2.1,h.2.2.1,?_⟩
 rw[Jw,hn];rfl
theorem Ie{sg:List Sg}{g:Gs}{s:Ps}{m:List UInt8}(hs:pur g=some s)(hm:isG sg g 4 m=true):isM sg s m=true:=VX hm hs
theorem Ez{sg:List Sg}{g:Gs}{s:Ps}{m:List UInt8}(hs:pur g=some s)(hm:isG sg g 4 m=false):isM sg s m=false:=RC hm hs
theorem EA{sg:List Sg}{g:Gs}{s:Ps}{m:List UInt8}(hs:pur g=some s)(hm:isG sg g 1 m=false):isW sg s m=false:=RC hm hs
theorem Gt{α:Type}{sg:List Sg}{x y:Gs}{f g g':Ps→Option (α×Ps)}{d:Int}{m:List UInt8}{k:Int}(h:restP sg x f y g d)(hk:k≠0)(hm:isG sg y k m=true)(hg:∀s,pur y=some s→isT sg s k m=true→g s=g' (adv s)):
 restP sg x f (An y) g' d:=by
 obtain⟨h1,h2,h3⟩:=a1N h.1 hk hm
 refine a2s h h1 fun s hs=> ?_
 have ht:=VX hm hs
 rw[hg s hs ht,ht];rfl
theorem Hz{α:Type}{sg:List Sg}{x y:Gs}{f g g':Ps→Option (α×Ps)}{d:Int}{m:List UInt8}(h:restP sg x f y g d)(hg:∀s,pur y=some s→g s=(BG sg m s).bind g'):restP sg x f (Aq sg y m) g' d:=
 a2s h (NG h.1).1 hg
theorem b3n{α:Type}{sg:List Sg}{x:Gs}{y:α×Gs}{f:Ps→Option (α×Ps)}(h:Bl sg x f y):restP sg x f y.2 (fun s=>some (y.1,s)) 0:=by
 obtain⟨a1,a2,a3,a4,a5⟩:=h
 refine⟨a1,by omega,a3,?_⟩
 cases hp:(pur x).bind f with
 |none=>rw[a4,hp];rfl
 |some p=>rw[a4,hp,a5 p hp];rfl
theorem b3o{sg:List Sg}{one:Ps→PR}{m:List UInt8}{n:Nat}{ks:List Int}{s:Ps}(h:isM sg s m=true):Bn sg one m (n+1) ks s=some (ks,s):=by rw[Bn,if_pos h]
theorem b3p{sg:List Sg}{one:Ps→PR}{m:List UInt8}{n:Nat}{ks:List Int}{s:Ps}(h:isM sg s m=false):Bn sg one m (n+1) ks s=(one s).bind fun p=>if isM sg p.2 [44] then Bn sg one m n (ks++[p.1]) (adv p.2) else some (ks++[p.1],p.2):=by
 rw[Bn,if_neg (by simp [h])]
def EB(sg:List Sg):Nat→Int→Int
 |0,i=>i
 |n+1,i=>if i+1<sg.length∧(sgO sg i).kind=1 then(if(sgO sg (i+1)).text=[44] then EB sg n (i+2) else i+1) else i
def JG(sg:List Sg)(i k:Int)(t:List UInt8):Bool:=decide ((sgO sg i).kind=k)&&((sgO sg i).text==t)
def Fs(sg:List Sg)(i:Int):Bool:=decide (i+1<sg.length)&&(JG sg i 4 [41]&&JG sg (i+1) 4 [61,62])
def KI(sg:List Sg)(s:Ps):Bool:=Fs sg (EB sg (sg.length+1) (s.pos+1))
def sgM(sg:List Sg):Prop:=∀e∈sg,(e.text=[41]∨e.text=[61,62]∨e.text=[44])→e.kind=4
theorem Wq{sg:List Sg}{i:Int}(h:(sgO sg i).text≠[]∨(sgO sg i).kind≠0):i.toNat<sg.length∧sgO sg i∈sg:=by
 unfold sgO at h ⊢
 rw[List.getD_eq_getElem?_getD] at h ⊢
 cases hx:sg[i.toNat]? with
 |none=>rw[hx] at h;simp [EL] at h
 |some e=>exact⟨(List.getElem?_eq_some_iff.1 hx).1,by simpa using List.mem_of_getElem? hx⟩
theorem RW{sg:List Sg}(hm:sgM sg){i:Int}(h:(sgO sg i).text=[41]∨(sgO sg i).text=[61,62]∨(sgO sg i).text=[44]):(sgO sg i).kind=4:=by
 refine hm _ (Wq (.inl ?_)).2 h
 rcases h with h|h|h<;>rw[h]<;>simp
def a2w(sg:List Sg)(i:Int):Bool:=((sgO sg i).text==[41])&&((sgO sg (i+1)).text==[61,62])
theorem Wr{sg:List Sg}(hm:sgM sg){i:Int}(h0:0≤i):a2w sg i=Fs sg i:=by
 unfold a2w Fs JG
 cases h1:((sgO sg i).text==[41]) with
 |false=>simp
 |true=>
  have k1:=RW hm (.inl (by simpa using h1))
  cases h2:((sgO sg (i+1)).text==[61,62]) with
  |false=>simp
  |true=>
   have k2:=RW hm (.inr (.inl (by simpa using h2)))
   have:=(Wq (sg:=sg) (i:=i+1) (.inl (by simp at h2;rw[h2];simp))).1
   simp [k1,k2];omega
theorem RX{sg:List Sg}{i:Int}(h:DB sg i=true):(sgO sg i).kind=1:=by
 simp [DB] at h;exact h.1
theorem a2x{sg:List Sg}(hm:sgM sg):∀(n:Nat) (i:Int),0≤i→Fs sg (Dr sg n i)=true→Fs sg (EB sg n i)=true
 |0,i,h0,h=>by simpa [Dr,EB] using h
 |n+1,i,h0,h=>by
  rw[Dr] at h;rw[EB]
  cases hn:DB sg i with
  |false=>
   rw[hn] at h;simp only[Bool.false_eq_true,if_false] at h
   have h4:(sgO sg i).kind=4:=by
    simp only[Fs,JG,Bool.and_eq_true,decide_eq_true_eq] at h;exact h.2.1.1
   rw[if_neg (by rw[h4];omega)];exact h
  |true=>
   rw[hn,if_pos rfl] at h
   have hk:=RX hn
   have hlt:i+1<sg.length:=by
    split at h
    ·rename_i ht
     have:=(Wq (sg:=sg) (i:=i+1) (.inl (by rw[ht];simp))).1;omega
    ·simp only[Fs,Bool.and_eq_true,decide_eq_true_eq] at h;omega
   rw[if_pos ⟨hlt,hk⟩]
   split at h
   ·rename_i ht;rw[if_pos ht];exact a2x hm n (i+2) (by omega) h
   ·rename_i ht;rw[if_neg ht];exact h
theorem a2y{sg:List Sg}(hm:sgM sg):∀(n:Nat) (i:Int),0≤i→Fs sg (EB sg n i)=true→Fs sg (Dr sg n i)=false→∀(N:Nat) (ks:List Int) (s:Ps),s.pos=i→Bn sg (BB sg) [41] N ks s=none
 |0,i,h0,h1,h2=>by simp [Dr,EB] at h1 h2;rw[h1] at h2;cases h2
 |n+1,i,h0,h1,h2=>by
  intro N ks s hs
  match N with
  |0=>rfl
  |N+1=>
  rw[EB] at h1;rw[Dr] at h2
  cases hn:DB sg i with
  |false=>
   rw[hn] at h2;simp only[Bool.false_eq_true,if_false] at h2
   split at h1
   ·rename_i hh
    have hm4:isM sg s [41]=false:=by simp [isM,isT,hs,hh.2]
    rw[Bn,if_neg (by simp [hm4]),BB,hs,if_neg (by simp [hn])];rfl
   ·rw[h1] at h2;cases h2
  |true=>
   rw[hn,if_pos rfl] at h2
   have hk:=RX hn
   have hm4:isM sg s [41]=false:=by simp [isM,isT,hs,hk]
   split at h1
   ·split at h1
    ·rename_i ht;rw[if_pos ht] at h2
     have hk2:=RW hm (.inr (.inr ht))
     rw[Bn,if_neg (by simp [hm4]),BB,hs,if_pos hn,FI,Gn,Ba]
     split
     ·rfl
     ·simp only[Option.map_some,Option.bind_some,adv]
      have hc:isM sg ⟨s.pos+1,s.deep,s.nodes++[⟨1,(sgO sg s.pos).text,[],false⟩]⟩ [44]=true:=by simp [isM,isT,hs,ht,hk2]
      rw[if_pos hc]
      exact a2y hm n (i+2) (by omega) h1 h2 N _ _ (by simp only;omega)
    ·rename_i ht;rw[if_neg ht] at h2;rw[h1] at h2;cases h2
   ·exfalso
    have:(sgO sg i).kind=4:=by simp only[Fs,JG,Bool.and_eq_true,decide_eq_true_eq] at h1;exact h1.2.1.1
    omega
theorem NM{sg:List Sg}(hm:sgM sg):∀(n:Nat) (t:NT) (s:Ps),DB sg s.pos=true→(sgO sg (s.pos+1)).text=[44]→0≤s.pos→(pE sg n t s=none∨∃p,pE sg n t s=some p∧p.2.pos=s.pos+1)
 |0,t,s,h1,h2,h0=> .inl (by cases t<;>rfl)
 |n+1,t,s,h1,h2,h0=>by
  have hk:=RW hm (.inr (.inr h2))
  have tst:∀(q:Ps) (m:List UInt8),q.pos=s.pos+1→m≠[44]→isM sg q m=false:=by
   intro q m hq hne;simp only[isM,isT,hq,h2]
   simp;intro _;exact fun e=>hne e.symm
  cases t with
  |value=>
   rw[pE]
   rcases NM hm n .pick s h1 h2 h0 with h|⟨p,h,hp⟩
   ·left;rw[h];rfl
   ·right;refine⟨p,?_,hp⟩
    rw[h,Option.bind_some,if_neg (by simp [tst p.2 [46,46] hp (by simp)])]
  |pick=>
   rw[pE]
   split
   ·exact .inl rfl
   ·rcases NM hm n (.chain 0) (dp s 1) h1 h2 h0 with h|⟨p,h,hp⟩
    ·left;rw[h];rfl
    ·right;refine⟨(p.1,dp p.2 (-1)),?_,hp⟩
     rw[h,Option.bind_some,if_neg (by simp [tst p.2 [63] hp (by simp)])]
  |chain l=>
   rw[pE]
   split
   ·exact NM hm n .fin s h1 h2 h0
   ·rcases NM hm n (.chain (l+1)) s h1 h2 h0 with h|⟨p,h,hp⟩
    ·left;rw[h];rfl
    ·right
     have hc:Ju sg l p.2=[]:=by
      have:∀m∈Bv l,isM sg p.2 m=false:=by
       intro m hmm
       refine tst p.2 m hp ?_
       intro e;subst e
       unfold Bv at hmm
       split at hmm<;>simp at hmm
      rw[Ju,List.find?_eq_none.2 (by intro m hmm;simp [this m hmm])];rfl
     refine⟨(p.1,p.2),?_,hp⟩
     rw[h,Option.bind_some,EM,if_neg (by simp),if_pos hc];rfl
  |fin=>
   rw[pE]
   rcases NM hm n .base s h1 h2 h0 with h|⟨p,h,hp⟩
   ·left;rw[h];rfl
   ·right;refine⟨p,?_,hp⟩
    rw[h,Option.bind_some,Gp,if_neg (by simp [tst p.2 [40] hp (by simp)]),if_neg (by simp [tst p.2 [46] hp (by simp)])]
  |base=>
   rw[pE,if_pos (RX h1),BB,if_pos h1,FI,Gn,Ba]
   split
   ·exact .inl rfl
   ·exact .inr ⟨_,rfl,rfl⟩
theorem NN{sg:List Sg}:∀(n:Nat) (t:NT) (s:Ps),DB sg s.pos=false→(sgO sg s.pos).kind=1→pE sg n t s=none
 |0,t,s,h1,h2=>by cases t<;>rfl
 |n+1,t,s,h1,h2=>by
  cases t with
  |value=>rw[pE,NN n .pick s h1 h2];rfl
  |pick=>rw[pE];split
         ·rfl
         ·rw[NN n (.chain 0) (dp s 1) h1 h2];rfl
  |chain l=>rw[pE];split
            ·exact NN n .fin s h1 h2
            ·rw[NN n (.chain (l+1)) s h1 h2];rfl
  |fin=>rw[pE,NN n .base s h1 h2];rfl
  |base=>rw[pE,if_pos h2,BB,if_neg (by simp [h1])]
theorem b3q{sg:List Sg}(hm:sgM sg){s:Ps}{n:Nat}{x:Nd}(h0:0≤s.pos)(h1:KI sg s=true)(h2:Et sg s=false)(k:Int→Nd):
 ((pE sg n .value (adv s)).bind fun p=>Br sg [41] (k p.1) p.2)=none:=by
 have h2':Fs sg (Dr sg (sg.length+1) (s.pos+1))=false:=by
  have hp:∀(n:Nat) (i:Int),0≤i→0≤Dr sg n i:=by
   intro n
   induction n with
   |zero=>intro i hi;simpa [Dr] using hi
   |succ n ih=>intro i hi;rw[Dr];split
               ·split
                ·exact ih _ (by omega)
                ·omega
               ·exact hi
  rw[←Wr hm (hp _ _ (by omega))];exact h2
 unfold KI at h1
 rw[EB] at h1;rw[Dr] at h2'
 cases hn:DB sg (s.pos+1) with
 |false=>
  rw[hn] at h2';simp only[Bool.false_eq_true,if_false] at h2'
  split at h1
  ·rename_i hh
   rw[NN n .value (adv s) hn hh.2];rfl
  ·rw[h1] at h2';cases h2'
 |true=>
  rw[hn,if_pos rfl] at h2'
  split at h1
  ·split at h1
   ·rename_i ht
    rcases NM hm n .value (adv s) hn (by simpa [adv] using ht) (by simp only[adv];omega) with h|⟨p,h,hp⟩
    ·rw[h];rfl
    ·rw[h,Option.bind_some,Br]
     have:isM sg p.2 [41]=false:=by
      simp only[isM,isT,hp,adv]
      rw[show s.pos+1+1=s.pos+1+1 from rfl,ht];simp
     rw[if_neg (by simp [this])]
   ·rename_i ht;rw[if_neg ht] at h2';rw[h1] at h2';cases h2'
  ·exfalso
   have:(sgO sg (s.pos+1)).kind=4:=by simp only[Fs,JG,Bool.and_eq_true,decide_eq_true_eq] at h1;exact h1.2.1.1
   have:=RX hn
   omega
theorem a2z{sg:List Sg}{n:Nat}{s:Ps}:pE sg (n+1) .pick s=if 20≤s.deep then none else(pE sg n (.chain 0) (dp s 1)).bind fun p=>
 if isM sg p.2 [63] then(pE sg n .pick (adv p.2)).bind fun a=>(BG sg [58] a.2).bind fun s1=>(pE sg n .pick s1).bind fun b=>(Ba ⟨8,[],[p.1,a.1,b.1],false⟩ b.2).map fun q=>(q.1,dp q.2 (-1))
 else some (p.1,dp p.2 (-1)):=rfl
theorem b3r{sg:List Sg}{n l:Nat}{s:Ps}:pE sg (n+1) (.chain l) s=if l=6 then pE sg n .fin s else(pE sg n (.chain (l+1)) s).bind fun p=>EM sg l (pE sg n (.chain (l+1))) (2*sg.length+4) [] [p.1] p.2:=rfl
theorem EC{α:Type}{sg:List Sg}{x:Gs}{f:Ps→Option (α×Ps)}{y:α×Gs}(h:Ag sg x f y):gsOk sg y.2:=h.1.1
theorem CF{α:Type}{sg:List Sg}{x:Gs}{f:Ps→Option (α×Ps)}{y:α×Gs}(h:Ag sg x f y):y.2.deep=x.deep∧x.pos≤y.2.pos∧y.2.pos≤sg.length∧(y.2.bad=false→x.bad=false∧x.pos<y.2.pos):=by
 refine⟨h.1.2.1,h.1.2.2.1,h.1.1.1.2,fun hb=>⟨?_,h.2 hb⟩⟩
 cases hx:x.bad with
 |false=>rfl
 |true=>
  have:=h.1.2.2.2.1
  rw[DU hx,Dd hb] at this;cases this
theorem HA{g:Gs}{x:Nd}:(Ah g x).deep=g.deep∧(Ah g x).pos=g.pos∧((Ah g x).bad=false→g.bad=false):=by
 unfold Ah;split
 ·rename_i h;exact⟨rfl,rfl,fun hb=>by simp [Bd] at hb⟩
 ·exact⟨rfl,rfl,fun hb=>hb⟩
theorem RY{sg:List Sg}{x y:Gs}{f:Ps→PR}{w:Nd}(h:restP sg x f y (Ba w) 0)(hw:Cz w):Bl sg x f (AQ y,Ah y w):=by
 have h2:=BJ (k:=fun a s=>some (a,s)) h (Pv h.1 hw) (fun s _=>by cases Ba w s<;>rfl)
 exact FK h2
theorem RZ{sg:List Sg}{x y:Gs}{f:Ps→PR}{w:Nd}{m:List UInt8}(h:restP sg x f y (Br sg m w) 0)(hw:Cz w):Bl sg x f (BC sg y m,Bs sg y m w):=by
 have h2:=BJ (k:=fun a s=>some (a,s)) h (KD h.1 hw).1 (fun s _=>by cases Br sg m w s<;>rfl)
 exact FK h2
theorem b3s{sg:List Sg}{x:Gs}{n:Nat}(h:gsOk sg x)(hd:x.deep≤20):restP sg x (pE sg (n+1) .pick) (gDp (if x.deep=20 then Bd x else x) 1)
 (fun s=>(pE sg n (.chain 0) s).bind fun p=>if isM sg p.2 [63] then(pE sg n .pick (adv p.2)).bind fun a=>(BG sg [58] a.2).bind fun s1=>(pE sg n .pick s1).bind fun b=>(Ba ⟨8,[],[p.1,a.1,b.1],false⟩ b.2).map fun q=>(q.1,dp q.2 (-1)) else some (p.1,dp p.2 (-1))) 1:=by
 split
 ·rename_i h20
  have h2:=a2v (d:=0) (g':=pE sg (n+1) .pick) (Ds (f:=pE sg (n+1) .pick) h) (fun s hs=>by
   obtain⟨_,rfl⟩:=Eu.1 hs
   rw[a2z,if_pos (by simp only;omega)])
  refine KH (d:=0) h2 ⟨by simp only[Bd];omega,by simp only[Bd];omega⟩ (fun s hs=> ?_)
  rw[Jw] at hs;cases hs
 ·rename_i h20
  refine KH (d:=0) (Ds h) ⟨by have:=h.2.1.1;omega,by omega⟩ (fun s hs=> ?_)
  obtain⟨_,rfl⟩:=Eu.1 hs
  rw[a2z,if_neg (by simp only;omega)]
theorem a2A{sg:List Sg}{x:Gs}{n:Nat}{z:Int×Gs}(h:gsOk sg x)(hd:x.deep≤20)(h1:Ag sg (gDp (if x.deep=20 then Bd x else x) 1) (pE sg n (.chain 0)) z):
 restP sg x (pE sg (n+1) .pick) z.2 (fun s=>if isM sg s [63] then(pE sg n .pick (adv s)).bind fun a=>(BG sg [58] a.2).bind fun s1=>(pE sg n .pick s1).bind fun b=>(Ba ⟨8,[],[z.1,a.1,b.1],false⟩ b.2).map fun q=>(q.1,dp q.2 (-1)) else some (z.1,dp s (-1))) 1:=
 BJ (k:=fun k s=>if isM sg s [63] then(pE sg n .pick (adv s)).bind fun a=>(BG sg [58] a.2).bind fun s1=>(pE sg n .pick s1).bind fun b=>(Ba ⟨8,[],[k,a.1,b.1],false⟩ b.2).map fun q=>(q.1,dp q.2 (-1)) else some (k,dp s (-1))) (b3s h hd) h1.1 (fun _ _=>rfl)
theorem PF{x:Gs}:(gDp (if x.deep=20 then Bd x else x) 1).pos=x.pos∧(gDp (if x.deep=20 then Bd x else x) 1).deep=x.deep+1∧((gDp (if x.deep=20 then Bd x else x) 1).bad=false→x.bad=false∧x.deep≠20):=by
 split
 ·exact⟨rfl,rfl,fun h=>by simp [gDp,Bd] at h⟩
 ·rename_i h;exact⟨rfl,rfl,fun h2=>⟨h2,h⟩⟩
theorem b3t{sg:List Sg}{x:Gs}{n:Nat}{z:Int×Gs}(h:gsOk sg x)(hd:x.deep≤20)(h1:Ag sg (gDp (if x.deep=20 then Bd x else x) 1) (pE sg n (.chain 0)) z)(hq:isG sg z.2 4 [63]=false):
 Ag sg x (pE sg (n+1) .pick) (z.1,gDp z.2 (-1)):=by
 have h2:=DJ (a2A h hd h1) (g':=fun s=>some (z.1,dp s (-1))) (fun s hs=>by rw[if_neg (by simp [Ez hs hq])])
 obtain⟨e1,e2,e3,e4⟩:=CF h1
 obtain⟨p1,p2,p3⟩:= @PF x
 refine⟨FK (KH (e:= -1) h2 ?_ (fun s hs=>rfl)),fun hb=> ?_⟩
 ·have:=h.2.1;omega
 ·have:=e4 hb;show x.pos<z.2.pos;omega
theorem b3u{sg:List Sg}{x:Gs}{n:Nat}{z a b:Int×Gs}(h:gsOk sg x)(hd:x.deep≤20)(h1:Ag sg (gDp (if x.deep=20 then Bd x else x) 1) (pE sg n (.chain 0)) z)(hq:isG sg z.2 4 [63]=true)
 (h2:Ag sg (An z.2) (pE sg n .pick) a) (h3:Ag sg (Aq sg a.2 [58]) (pE sg n .pick) b):
 Ag sg x (pE sg (n+1) .pick) (AQ b.2,gDp (Ah b.2 ⟨8,[],[z.1,a.1,b.1],false⟩) (-1)):=by
 have k1:=Gt (g':=fun s=>(pE sg n .pick s).bind fun a=>(BG sg [58] a.2).bind fun s1=>(pE sg n .pick s1).bind fun b=>(Ba ⟨8,[],[z.1,a.1,b.1],false⟩ b.2).map fun q=>(q.1,dp q.2 (-1)))
  (a2A h hd h1) (by omega) hq (fun s hs ht=>by rw[if_pos (show isM sg s [63]=true from ht)])
 have k2:=BJ (k:=fun a s=>(BG sg [58] s).bind fun s1=>(pE sg n .pick s1).bind fun b=>(Ba ⟨8,[],[z.1,a,b.1],false⟩ b.2).map fun q=>(q.1,dp q.2 (-1))) k1 h2.1 (fun _ _=>rfl)
 have k3:=Hz (g':=fun s1=>(pE sg n .pick s1).bind fun b=>(Ba ⟨8,[],[z.1,a.1,b.1],false⟩ b.2).map fun q=>(q.1,dp q.2 (-1))) k2 (fun _ _=>rfl)
 have k4:=BJ (k:=fun b s=>(Ba ⟨8,[],[z.1,a.1,b],false⟩ s).map fun q=>(q.1,dp q.2 (-1))) k3 h3.1 (fun _ _=>rfl)
 have hw:Cz ⟨8,[],[z.1,a.1,b.1],false⟩:=⟨by simp,by simp⟩
 have k5:=BJ (k:=fun k s=>some (k,dp s (-1))) k4 (Pv k4.1 hw) (fun s _=>by cases Ba ⟨8,[],[z.1,a.1,b.1],false⟩ s<;>rfl)
 simp only at k5
 obtain⟨d1,d2,d3⟩:= @HA b.2 ⟨8,[],[z.1,a.1,b.1],false⟩
 refine⟨FK (KH (e:= -1) k5 ?_ (fun s hs=>rfl)),fun hb=> ?_⟩
 ·have:=k5.2.1;have:=h.2.1;omega
 ·have hb2:=d3 hb
  obtain⟨p1,p2,p3⟩:= @PF x
  have e1:=CF h1;have e2:=CF h2;have e3:=CF h3
  have e4:=NG (m:=[58]) (EC h2)
  have e5:=(NG (m:=[58]) (EC h2)).1.2.2.1
  show x.pos<(Ah b.2 ⟨8,[],[z.1,a.1,b.1],false⟩).pos
  have ea:(An z.2).pos=z.2.pos+1:=rfl
  have:=e3.2.1
  omega
def KJ(sg:List Sg)(n:Nat)(x y:Gs)(ks:List Int)(N:Nat):Prop:=
 restP sg x (pE sg (n+1) .value) y (fun s=>(FJ sg (pE sg n .value) N ks s).bind fun q=>Ba ⟨10,[],q.1,false⟩ q.2) 0∧(sg.length:Int)-y.pos<N∧(ks.length:Int)≤y.pos+1∧(y.bad=false→x.pos<y.pos)
theorem b3v{sg:List Sg}{x:Gs}{n:Nat}{z:Int×Gs}(h:gsOk sg x)(h1:Ag sg x (pE sg n .pick) z)(hq:isG sg z.2 4 [46,46]=false):Ag sg x (pE sg (n+1) .value) z:=by
 have k1:=BJ (k:=fun k s=>if isM sg s [46,46] then(FJ sg (pE sg n .value) (sg.length+1) [k] s).bind fun q=>Ba ⟨10,[],q.1,false⟩ q.2 else some (k,s)) (Ds (f:=pE sg (n+1) .value) h) h1.1 (fun _ _=>rfl)
 have k2:=DJ k1 (g':=fun s=>some (z.1,s)) (fun s hs=>by rw[if_neg (by simp [Ez hs hq])])
 exact⟨FK k2,h1.2⟩
theorem b3w{sg:List Sg}{x:Gs}{n:Nat}{z:Int×Gs}(h:gsOk sg x)(h1:Ag sg x (pE sg n .pick) z)(hq:isG sg z.2 4 [46,46]=true):KJ sg n x z.2 [z.1] (sg.length+1):=by
 have k1:=BJ (k:=fun k s=>if isM sg s [46,46] then(FJ sg (pE sg n .value) (sg.length+1) [k] s).bind fun q=>Ba ⟨10,[],q.1,false⟩ q.2 else some (k,s)) (Ds (f:=pE sg (n+1) .value) h) h1.1 (fun _ _=>rfl)
 have k2:=DJ k1 (g':=fun s=>(FJ sg (pE sg n .value) (sg.length+1) [z.1] s).bind fun q=>Ba ⟨10,[],q.1,false⟩ q.2) (fun s hs=>by rw[if_pos (Ie hs hq)])
 have:=k2.1.1
 exact⟨k2,by omega,by simp;omega,h1.2⟩
theorem b3x{sg:List Sg}{x y:Gs}{n N:Nat}{ks:List Int}{w:Int×Gs}(hs:sgB sg)(h:KJ sg n x y ks N)(hq:isG sg y 4 [46,46]=true)
 (h2:Ag sg (CD sg (An y)) (Dc sg (pE sg n .value) (Dp sg (An y))) w):∃M,N=M+1∧KJ sg n x w.2 (ks++[w.1]) M:=by
 obtain⟨h1,hN,hk,hb⟩:=h
 obtain⟨hl1,hl⟩:=CC hq (by omega)
 match N with
 |0=>omega
 |M+1=>
  refine⟨M,rfl,?_⟩
  have k1:=Gt (g':=fun s=>((BB sg s).bind fun p=>(Dc sg (pE sg n .value) p.1 p.2).bind fun q=>FJ sg (pE sg n .value) M (ks++[q.1]) q.2).bind fun q=>Ba ⟨10,[],q.1,false⟩ q.2)
   h1 (by omega) hq (fun s hs ht=>by rw[FJ,if_pos (show isM sg s [46,46]=true from ht)])
  have k2:=BJ (k:=fun k s=>((Dc sg (pE sg n .value) k s).bind fun q=>FJ sg (pE sg n .value) M (ks++[q.1]) q.2).bind fun q=>Ba ⟨10,[],q.1,false⟩ q.2) k1 (Jx hs k1.1).1 (fun s _=>by simp only[Option.bind_assoc])
  have k3:=BJ (k:=fun k s=>(FJ sg (pE sg n .value) M (ks++[k]) s).bind fun q=>Ba ⟨10,[],q.1,false⟩ q.2) k2 h2.1 (fun s _=>by simp only[Option.bind_assoc])
  have e0:(An y).pos≤(CD sg (An y)).pos:=(Jx hs k1.1).1.2.2.1
  have e1:=CF h2
  have ea:(An y).pos=y.pos+1:=rfl
  refine⟨k3,by omega,by simp;omega,fun hb2=> ?_⟩
  have:=h1.2.2.1
  omega
theorem b3y{sg:List Sg}{x y:Gs}{n N:Nat}{ks:List Int}(h:KJ sg n x y ks N)(hq:isG sg y 4 [46,46]=false)(hs:sgB sg):Ag sg x (pE sg (n+1) .value) (AQ y,Ah y ⟨10,[],ks,false⟩):=by
 obtain⟨h1,hN,hk,hb⟩:=h
 have hp:=h1.1.1
 match N with
 |0=>omega
 |M+1=>
  have k1:=DJ h1 (g':=Ba ⟨10,[],ks,false⟩) (fun s hs=>by rw[FJ,if_neg (by simp [Ez hs hq])];rfl)
  have:=hs.1
  refine⟨RY k1 ⟨by simp,by simp only;omega⟩,fun hb2=> ?_⟩
  obtain⟨d1,d2,d3⟩:= @HA y ⟨10,[],ks,false⟩
  simp only[d2];exact hb (d3 hb2)
theorem a2B{sg:List Sg}{one:Ps→PR}{m:List UInt8}{a:List Int}:∀(n:Nat) (ks:List Int) (s:Ps),Bn sg one m n (a++ks) s=(Bn sg one m n ks s).map fun p=>(a++p.1,p.2)
 |0,ks,s=>rfl
 |n+1,ks,s=>by
  rw[Bn,Bn]
  split
  ·rfl
  ·cases one s with
   |none=>rfl
   |some p=>
    simp only[Option.bind_some]
    split
    ·rw[List.append_assoc,a2B n (ks++[p.1])]
    ·simp
def EQ(sg:List Sg)(one:Ps→PR)(m:List UInt8)(x y:Gs)(ks:List Int)(N:Nat):Prop:=
 restP sg x (Bn sg one m (sg.length+1) []) y (Bn sg one m N ks) 0∧(sg.length:Int)-y.pos<N∧(ks.length:Int)≤y.pos
theorem Ws{sg:List Sg}{one:Ps→PR}{m:List UInt8}{x:Gs}(h:gsOk sg x):EQ sg one m x x [] (sg.length+1):=by
 have:=h.1
 exact⟨Ds h,by omega,by simp;omega⟩
theorem Wt{sg:List Sg}{one:Ps→PR}{m:List UInt8}{x y:Gs}{ks:List Int}{N:Nat}(h:EQ sg one m x y ks N)(hb:y.bad=true):Bl sg x (Bn sg one m (sg.length+1) []) (ks,y):=PE h.1 hb
theorem Wu{sg:List Sg}{one:Ps→PR}{m:List UInt8}{x y:Gs}{ks:List Int}{N:Nat}(h:EQ sg one m x y ks N)(hq:isG sg y 4 m=true):Bl sg x (Bn sg one m (sg.length+1) []) (ks,y):=by
 obtain⟨h1,hN,hk⟩:=h
 have:=h1.1.1
 match N with
 |0=>omega
 |M+1=>exact FK (DJ h1 (g':=fun s=>some (ks,s)) (fun s hs=>b3o (Ie hs hq)))
theorem a2C{sg:List Sg}{one:Ps→PR}{m:List UInt8}{x y:Gs}{ks:List Int}{M:Nat}{z:Int×Gs}(h:EQ sg one m x y ks (M+1))(hq:isG sg y 4 m=false)(hz:Ag sg y one z):
 restP sg x (Bn sg one m (sg.length+1) []) z.2 (fun s=>if isM sg s [44] then Bn sg one m M (ks++[z.1]) (adv s) else some (ks++[z.1],s)) 0:=by
 have k1:=DJ h.1 (g':=fun s=>(one s).bind fun p=>if isM sg p.2 [44] then Bn sg one m M (ks++[p.1]) (adv p.2) else some (ks++[p.1],p.2)) (fun s hs=>b3p (Ez hs hq))
 exact BJ (k:=fun k s=>if isM sg s [44] then Bn sg one m M (ks++[k]) (adv s) else some (ks++[k],s)) k1 hz.1 (fun _ _=>rfl)
theorem a2D{sg:List Sg}{one:Ps→PR}{m:List UInt8}{x y:Gs}{ks:List Int}{N:Nat}(h:EQ sg one m x y ks N):∃M,N=M+1:=by
 obtain⟨h1,hN,hk⟩:=h
 have:=h1.1.1
 match N with
 |0=>omega
 |M+1=>exact⟨M,rfl⟩
theorem b3z{sg:List Sg}{one:Ps→PR}{m:List UInt8}{x y:Gs}{ks:List Int}{N:Nat}{z:Int×Gs}(h:EQ sg one m x y ks N)(hq:isG sg y 4 m=false)(hz:Ag sg y one z)(hc:isG sg z.2 4 [44]=false):
 Bl sg x (Bn sg one m (sg.length+1) []) (ks++[z.1],z.2):=by
 obtain⟨M,rfl⟩:=a2D h
 exact FK (DJ (a2C h hq hz) (g':=fun s=>some (ks++[z.1],s)) (fun s hs=>by rw[if_neg (by simp [Ez hs hc])]))
theorem b3A{sg:List Sg}{one:Ps→PR}{m:List UInt8}{x y:Gs}{ks:List Int}{N:Nat}{z:Int×Gs}(h:EQ sg one m x y ks N)(hq:isG sg y 4 m=false)(hz:Ag sg y one z)(hc:isG sg z.2 4 [44]=true):
 ∃M,N=M+1∧EQ sg one m x (An z.2) (ks++[z.1]) M:=by
 obtain⟨M,rfl⟩:=a2D h
 have k1:=Gt (g':=Bn sg one m M (ks++[z.1])) (a2C h hq hz) (by omega) hc (fun s hs ht=>by rw[if_pos (show isM sg s [44]=true from ht)])
 have e:=CF hz
 obtain⟨h1,hN,hk⟩:=h
 refine⟨M,rfl,k1,?_,?_⟩
 ·simp only[An];omega
 ·simp only[An,List.length_append,List.length_cons,List.length_nil];omega
theorem b3B{sg:List Sg}{val:Ps→PR}{x:Gs}{k:Int}{l:List Int×Gs}(hx:gsOk sg x)(hl:Bl sg (Aq sg x [40]) (Bn sg val [41] (sg.length+1) []) l)(hll:l.1.length≤3001):
 Ag sg x (Dc sg val k) (BC sg l.2 [41],Bs sg l.2 [41] ⟨5,[],k::l.1,false⟩):=by
 have k1:=Hz (g':=fun s=>(Bn sg val [41] (sg.length+1) [k] s).bind fun p=>Br sg [41] ⟨5,[],p.1,false⟩ p.2) (Ds (f:=Dc sg val k) hx) (fun _ _=>rfl)
 have k2:=BJ (k:=fun ks s=>Br sg [41] ⟨5,[],k::ks,false⟩ s) k1 hl (fun s _=>by
  rw[show([k]:List Int)=[k]++[] from rfl,a2B]
  cases Bn sg val [41] (sg.length+1) [] s<;>rfl)
 have hw:Cz ⟨5,[],k::l.1,false⟩:=⟨by simp,by simp;omega⟩
 refine⟨RZ k2 hw,fun hb=> ?_⟩
 have:=(KD (m:=[41]) hl.1 hw).2 hb
 have e1:=hl.2.2.1
 have e2:=(NG (m:=[40]) hx).1.2.2.1
 simp only at this ⊢
 omega
def chF(sg:List Sg)(n l N:Nat)(t:List UInt8)(ks:List Int):Ps→PR:=EM sg l (pE sg n (.chain (l+1))) N t ks
def chO(sg:List Sg)(n l:Nat)(x y:Gs)(k:Int)(N:Nat):Prop:=
 restP sg x (pE sg (n+1) (.chain l)) y (chF sg n l N [] [k]) 0∧2*((sg.length:Int)-y.pos)+3≤N∧(y.bad=false→x.pos<y.pos)
def chN(sg:List Sg)(n l:Nat)(m:List UInt8)(x y:Gs)(ks:List Int)(N:Nat):Prop:=
 restP sg x (pE sg (n+1) (.chain l)) y (chF sg n l N m ks) 0∧(2*((sg.length:Int)-y.pos)+4≤N∨(isG sg y 4 m=true∧2*((sg.length:Int)-y.pos)+3≤N))∧(ks.length:Int)≤y.pos+1∧(y.bad=false→x.pos<y.pos)
theorem b3C{sg:List Sg}{x:Gs}{n:Nat}{z:Int×Gs}(h1:Ag sg x (pE sg n .fin) z):Ag sg x (pE sg (n+1) (.chain 6)) z:=h1
theorem a2E{sg:List Sg}{x:Gs}{n l:Nat}{z:Int×Gs}(h:gsOk sg x)(hl:l≠6)(h1:Ag sg x (pE sg n (.chain (l+1))) z):chO sg n l x z.2 z.1 (2*sg.length+4):=by
 have k1:=DJ (Ds (f:=pE sg (n+1) (.chain l)) h) (g':=fun s=>(pE sg n (.chain (l+1)) s).bind fun p=>EM sg l (pE sg n (.chain (l+1))) (2*sg.length+4) [] [p.1] p.2) (fun s _=>by rw[b3r,if_neg hl])
 have k2:=BJ (k:=fun k s=>chF sg n l (2*sg.length+4) [] [k] s) k1 h1.1 (fun _ _=>rfl)
 have:=k2.1.1
 exact⟨k2,by omega,h1.2⟩
def BD(sg:List Sg)(l:Nat)(g:Gs):List UInt8:=((Bv l).find? fun m=>isG sg g 4 m).getD []
theorem FL{sg:List Sg}{l:Nat}{g:Gs}{s:Ps}(hs:pur g=some s):Ju sg l s=BD sg l g:=by
 unfold Ju BD
 congr 2
 funext m
 exact(RB hs).symm
theorem chMG_t{sg:List Sg}{l:Nat}{g:Gs}(hb:g.bad=true):BD sg l g=[]:=by
 unfold BD
 rw[List.find?_eq_none.2 (by intro m _;rw[a1M (DU hb) (by omega)];simp)];rfl
theorem Sa{l:Nat}{m:List UInt8}(h:m∈Bv l):m≠[]:=by
 unfold Bv at h
 split at h<;>simp at h<;>(first|(subst h;simp)|(rcases h with rfl|rfl<;>simp))
theorem HB{sg:List Sg}{l:Nat}{g:Gs}(h:BD sg l g≠[]):isG sg g 4 (BD sg l g)=true∧BD sg l g∈Bv l:=by
 unfold BD at h ⊢
 cases hf:(Bv l).find? fun m=>isG sg g 4 m with
 |none=>rw[hf] at h;exact(h rfl).elim
 |some m=>exact⟨by simpa using List.find?_some hf,by simpa using List.mem_of_find?_eq_some hf⟩
theorem b3D{sg:List Sg}{g:Gs}{m m':List UInt8}(h:isG sg g 4 m=true)(h':isG sg g 4 m'=true):m=m':=by
 simp [isG] at h h';rw[←h.2,h'.2]
theorem a2F{sg:List Sg}{l:Nat}{g:Gs}{m:List UInt8}(hm:m∈Bv l)(h:isG sg g 4 m=true):BD sg l g=m:=by
 unfold BD
 cases hf:(Bv l).find? fun m=>isG sg g 4 m with
 |none=>exact(List.find?_eq_none.1 hf m hm (by simpa using h)).elim
 |some m'=>exact(b3D (by simpa using List.find?_some hf) h)
theorem b3E{sg:List Sg}{n l:Nat}{x y:Gs}{k:Int}{N:Nat}(h:chO sg n l x y k N)(hm:BD sg l y=[]):Ag sg x (pE sg (n+1) (.chain l)) (k,y):=by
 obtain⟨h1,hN,hb⟩:=h
 have:=h1.1.1
 match N with
 |0=>omega
 |N+1=>
  exact⟨FK (DJ h1 (g':=fun s=>some (k,s)) (fun s hs=>by rw[chF,EM,if_neg (by simp),if_pos (by rw[FL hs,hm])];rfl)),hb⟩
theorem b3F{sg:List Sg}{n l:Nat}{x y:Gs}{k:Int}{N:Nat}(h:chO sg n l x y k N)(hm:BD sg l y≠[]):chN sg n l (BD sg l y) x y [k] N:=by
 obtain⟨h1,hN,hb⟩:=h
 have:=h1.1.1
 match N with
 |0=>omega
 |N+1=>
  refine⟨DJ h1 (fun s hs=> ?_),.inr ⟨(HB hm).1,hN⟩,by simp;omega,hb⟩
  rw[chF,chF,EM,EM,if_neg (by simp),if_neg (by rw[FL hs];exact hm),if_neg (by rw[FL hs];simp)]
theorem b3G{sg:List Sg}{n l:Nat}{m:List UInt8}{x y:Gs}{ks:List Int}{N:Nat}{z:Int×Gs}(hml:m∈Bv l)(h:chN sg n l m x y ks N)(hq:isG sg y 4 m=true)(hz:Ag sg (An y) (pE sg n (.chain (l+1))) z):
 ∃M,N=M+1∧chN sg n l m x z.2 (ks++[z.1]) M:=by
 obtain⟨h1,hN,hk,hb⟩:=h
 have hp:=h1.1.1
 have hN2:2*((sg.length:Int)-y.pos)+3≤N:=by rcases hN with h|h<;>omega
 match N with
 |0=>omega
 |M+1=>
  refine⟨M,rfl,?_⟩
  have hmg:=a2F hml hq
  have k1:=Gt (g':=fun s=>(pE sg n (.chain (l+1)) s).bind fun p=>chF sg n l M m (ks++[p.1]) p.2) h1 (by omega) hq (fun s hs ht=>by
   rw[chF,EM,if_neg (by rw[FL hs,hmg];simp),if_neg (by rw[FL hs,hmg];exact Sa hml),FL hs,hmg];rfl)
  have k2:=BJ (k:=fun k s=>chF sg n l M m (ks++[k]) s) k1 hz.1 (fun _ _=>rfl)
  have e:=CF hz
  simp only[An] at e
  have:=h1.2.2.1
  refine⟨k2,.inl (by omega),by simp;omega,fun hb2=>by omega⟩
theorem b3H{sg:List Sg}{n l:Nat}{m:List UInt8}{x y:Gs}{ks:List Int}{N:Nat}(hml:m∈Bv l)(hs:sgB sg)(h:chN sg n l m x y ks N)(hq:isG sg y 4 m=false):
 ∃M,N=M+1∧chO sg n l x (Ah y ⟨7,m,ks,false⟩) (AQ y) M:=by
 obtain⟨h1,hN,hk,hb⟩:=h
 have hp:=h1.1.1
 have hN2:2*((sg.length:Int)-y.pos)+4≤N:=by
  rcases hN with h|h
  ·exact h
  ·rw[hq] at h;cases h.1
 match N with
 |0=>omega
 |M+1=>
  have hw:Cz ⟨7,m,ks,false⟩:=by
   refine⟨?_,by have:=hs.1;simp only;omega⟩
   simp only
   unfold Bv at hml
   split at hml<;>simp at hml<;>(first|(subst hml;simp)|(rcases hml with rfl|rfl<;>simp))
  have k1:=DJ h1 (g':=fun s=>(Ba ⟨7,m,ks,false⟩ s).bind fun p=>chF sg n l M [] [p.1] p.2) (fun s hs=>by
   rw[chF,EM,if_pos ⟨Sa hml,fun e=>by
    rw[FL hs] at e
    have:=(HB (sg:=sg) (l:=l) (g:=y) (by rw[e];exact Sa hml)).1
    rw[e,hq] at this;cases this⟩];rfl)
  have k2:=BJ (k:=fun k s=>chF sg n l M [] [k] s) k1 (Pv h1.1 hw) (fun _ _=>rfl)
  obtain⟨d1,d2,d3⟩:= @HA y ⟨7,m,ks,false⟩
  refine⟨M,rfl,k2,by rw[d2];omega,fun hb2=>by rw[d2];exact hb (d3 hb2)⟩
def enI(sg:List Sg)(n:Nat)(x y:Gs)(k:Int)(N:Nat):Prop:=
 restP sg x (pE sg (n+1) .fin) y (Gp sg (pE sg n .value) N k) 0∧(y.bad=false→(sg.length:Int)-y.pos<N)∧(y.bad=false→x.pos<y.pos)
theorem b3I{sg:List Sg}{x:Gs}{n:Nat}{z:Int×Gs}(h:gsOk sg x)(h1:Ag sg x (pE sg n .base) z):enI sg n x z.2 z.1 (sg.length+1):=by
 have k1:=BJ (k:=fun k s=>Gp sg (pE sg n .value) (sg.length+1) k s) (Ds (f:=pE sg (n+1) .fin) h) h1.1 (fun _ _=>rfl)
 have:=k1.1.1
 exact⟨k1,fun _=>by omega,h1.2⟩
theorem PG{sg:List Sg}{n:Nat}{x y:Gs}{k:Int}{N:Nat}(h:enI sg n x y k N)(hb:y.bad=false):∃M,N=M+1:=by
 have h1:=h.1.1.1;have h2:=h.2.1 hb
 match N with
 |0=>omega
 |M+1=>exact⟨M,rfl⟩
theorem a2G{sg:List Sg}{n:Nat}{x y:Gs}{k a:Int}{N:Nat}(h:enI sg n x y k N)(hb:y.bad=true):Ag sg x (pE sg (n+1) .fin) (a,y):=
 ⟨PE h.1 hb,fun hb2=>by simp only at hb2;rw[hb] at hb2;cases hb2⟩
theorem b3J{sg:List Sg}{n:Nat}{x y:Gs}{k:Int}{N:Nat}{w:Int×Gs}(h:enI sg n x y k N)(hq:isG sg y 4 [40]=true)(hw:Ag sg y (Dc sg (pE sg n .value) k) w):
 ∃M,N=M+1∧enI sg n x w.2 w.1 M:=by
 have hl:=CC hq (by omega)
 obtain⟨M,rfl⟩:=PG h hl.1
 obtain⟨h1,hN,hb⟩:=h
 have k1:=DJ h1 (g':=fun s=>(Dc sg (pE sg n .value) k s).bind fun p=>Gp sg (pE sg n .value) M p.1 p.2) (fun s hs=>by rw[Gp,if_pos (Ie hs hq)])
 have k2:=BJ (k:=fun k s=>Gp sg (pE sg n .value) M k s) k1 hw.1 (fun _ _=>rfl)
 have e:=CF hw
 have hN2:=hN hl.1;have hb2:=hb hl.1
 exact⟨M,rfl,k2,fun hwb=>by have:=e.2.2.2 hwb;omega,fun hwb=>by have:=e.2.2.2 hwb;omega⟩
theorem a2H{sg:List Sg}{n:Nat}{x y:Gs}{k:Int}{N:Nat}(hs:sgB sg)(h:enI sg n x y k N)(hp:isG sg y 4 [40]=false)(hq:isG sg y 4 [46]=true)(hn:nmG sg (An y) 0=true):
 ∃M,N=M+1∧enI sg n x (BX (Ah (An y) ⟨6,(pkG sg (An y) 0).text,[k],false⟩)) (AQ (An y)) M:=by
 have hl:=CC hq (by omega)
 obtain⟨M,rfl⟩:=PG h hl.1
 obtain⟨h1,hN,hb⟩:=h
 have hw:Cz ⟨6,(pkG sg (An y) 0).text,[k],false⟩:=⟨KE hs,by simp⟩
 have hn2:=IV hn
 have k1:=Gt (g':=fun s=>(Gn (Ba ⟨6,(pkG sg (An y) 0).text,[k],false⟩ s)).bind fun p=>Gp sg (pE sg n .value) M p.1 p.2) h1 (by omega) hq (fun s hs ht=>by
  obtain⟨hb0,rfl⟩:=Eu.1 hs
  rw[Gp,if_neg (by simp [Ez hs hp]),if_pos (show isM sg _ [46]=true from ht)]
  have e1:DB sg (y.pos+1)=true:=by
   have:=KC (sg:=sg) (n:=0) (g:=An y) (Dd hn2.1)
   rw[hn] at this;simpa [An] using this.symm
  have e2:(pkG sg (An y) 0)=sgO sg (y.pos+1):=by rw[GV hn2.1];simp [An]
  rw[if_pos e1,e2])
 have hg:=VY k1.1 hw (fun _=>by omega)
 have k2:=BJ (k:=fun k s=>Gp sg (pE sg n .value) M k s) k1 hg.1 (fun _ _=>rfl)
 have e:=CF hg
 have hN2:=hN hl.1;have hb2:=hb hl.1
 simp only[An] at e
 exact⟨M,rfl,k2,fun hwb=>by have:=e.2.2.2 hwb;simp only[An] at*;omega,fun hwb=>by have:=e.2.2.2 hwb;simp only[An] at*;omega⟩
theorem a2I{sg:List Sg}{n:Nat}{x y:Gs}{k a:Int}{N:Nat}(h:enI sg n x y k N)(hp:isG sg y 4 [40]=false)(hq:isG sg y 4 [46]=true)(hn:nmG sg (An y) 0=false):
 Ag sg x (pE sg (n+1) .fin) (a,Bd (An y)):=by
 have hl:=CC hq (by omega)
 obtain⟨M,rfl⟩:=PG h hl.1
 obtain⟨h1,hN,hb⟩:=h
 have k1:=Gt (g':=fun _=>none) h1 (by omega) hq (fun s hs ht=>by
  obtain⟨hb0,rfl⟩:=Eu.1 hs
  rw[Gp,if_neg (by simp [Ez hs hp]),if_pos (show isM sg _ [46]=true from ht)]
  have e1:DB sg (y.pos+1)=false:=by
   have:=KC (sg:=sg) (n:=0) (g:=An y) (Dd (by simpa [An] using hb0))
   rw[hn] at this;simpa [An] using this.symm
  rw[if_neg (by simp [e1])])
 exact⟨a2u k1 (fun _ _=>rfl),fun hb2=>by simp [Bd] at hb2⟩
theorem a2J{sg:List Sg}{n:Nat}{x y:Gs}{k:Int}{N:Nat}(h:enI sg n x y k N)(hb:y.bad=false)(hp:isG sg y 4 [40]=false)(hq:isG sg y 4 [46]=false):Ag sg x (pE sg (n+1) .fin) (k,y):=by
 obtain⟨M,rfl⟩:=PG h hb
 exact⟨FK (DJ h.1 (g':=fun s=>some (k,s)) (fun s hs=>by rw[Gp,if_neg (by simp [Ez hs hp]),if_neg (by simp [Ez hs hq])])),h.2.2⟩
theorem Sb{sg:List Sg}{g:Gs}{s:Ps}(hs:pur g=some s):(pkG sg g 0).kind=(sgO sg s.pos).kind:=by
 obtain⟨h,rfl⟩:=Eu.1 hs
 rw[GV h];simp
theorem PH{sg:List Sg}{g:Gs}(h:(pkG sg g 0).kind≠0):g.bad=false∧g.pos<sg.length:=by
 unfold pkG at h
 split at h
 ·simp [EL] at h
 ·rename_i hh;simp only[Int.add_zero] at hh;exact⟨by cases hb:g.bad<;>simp_all,by omega⟩
theorem Wv{sg:List Sg}{x:Gs}{n:Nat}(hs:sgB sg)(h:gsOk sg x)(hk:(pkG sg x 0).kind=1):Ag sg x (pE sg (n+1) .base) (Dp sg x,CD sg x):=by
 obtain⟨a,b⟩:=Jx hs h
 have e:(pur x).bind (pE sg (n+1) .base)=(pur x).bind (BB sg):=by
  cases hp:pur x with
  |none=>rfl
  |some s=>simp only[Option.bind_some];rw[pE,if_pos (by rw[←Sb hp];exact hk)]
 obtain⟨a1,a2,a3,a4,a5⟩:=a
 exact⟨⟨a1,a2,a3,by rw[e];exact a4,by rw[e];exact a5⟩,b⟩
theorem Ww{sg:List Sg}{x:Gs}{n:Nat}{k:Int}(hs:sgB sg)(h:gsOk sg x)(hk:(pkG sg x 0).kind=k)(hk2:k=2∨k=3):Ag sg x (pE sg (n+1) .base) (AQ x,De sg x k false):=by
 have hl:=PH (sg:=sg) (g:=x) (by rw[hk];omega)
 obtain⟨a,b⟩:=Pw (k:=k) (b:=false) hs h (fun _=>hl.2)
 have e:(pur x).bind (pE sg (n+1) .base)=(pur x).bind (FI sg k false):=by
  cases hp:pur x with
  |none=>rfl
  |some s=>
   simp only[Option.bind_some]
   have:=Sb (sg:=sg) hp
   rcases hk2 with rfl|rfl
   ·rw[pE,if_neg (by omega),if_pos (by omega)]
   ·rw[pE,if_neg (by omega),if_neg (by omega),if_pos (by omega)]
 obtain⟨a1,a2,a3,a4,a5⟩:=a
 exact⟨⟨a1,a2,a3,by rw[e];exact a4,by rw[e];exact a5⟩,b⟩
theorem NO{sg:List Sg}{x:Gs}{s:Ps}{n:Nat}(hs:pur x=some s)(h1:(pkG sg x 0).kind≠1)(h2:(pkG sg x 0).kind≠2)(h3:(pkG sg x 0).kind≠3):pE sg (n+1) .base s=
 if isM sg s [91] then(Bn sg (pE sg n .value) [93] (sg.length+1) [] (adv s)).bind fun p=>Br sg [93] ⟨4,[],p.1,false⟩ p.2
 else if isM sg s [40]&&Et sg s then(Bn sg (BB sg) [41] (sg.length+1) [] (adv s)).bind fun p=>(BG sg [41] p.2).bind fun s1=>(BG sg [61,62] s1).bind fun s2=>(pE sg n .pick s2).bind fun q=>Ba ⟨9,[],p.1++[q.1],false⟩ q.2
 else if isM sg s [40] then(pE sg n .value (adv s)).bind fun p=>Br sg [41] ⟨11,[],[p.1],false⟩ p.2
 else none:=by
 have:=Sb (sg:=sg) hs
 rw[pE,if_neg (by omega),if_neg (by omega),if_neg (by omega)]
theorem a2K{sg:List Sg}{x:Gs}{n:Nat}{l:List Int×Gs}(h:gsOk sg x)(h1:(pkG sg x 0).kind≠1)(h2:(pkG sg x 0).kind≠2)(h3:(pkG sg x 0).kind≠3)(hq:isG sg x 4 [91]=true)
 (hl:Bl sg (An x) (Bn sg (pE sg n .value) [93] (sg.length+1) []) l) (hll:l.1.length≤3001):
 Ag sg x (pE sg (n+1) .base) (BC sg l.2 [93],Bs sg l.2 [93] ⟨4,[],l.1,false⟩):=by
 have k1:=Gt (g':=fun s=>(Bn sg (pE sg n .value) [93] (sg.length+1) [] s).bind fun p=>Br sg [93] ⟨4,[],p.1,false⟩ p.2) (Ds (f:=pE sg (n+1) .base) h) (by omega) hq
  (fun s hs ht=>by rw[NO hs h1 h2 h3,if_pos (show isM sg s [91]=true from ht)])
 have k2:=BJ (k:=fun ks s=>Br sg [93] ⟨4,[],ks,false⟩ s) k1 hl (fun _ _=>rfl)
 have hw:Cz ⟨4,[],l.1,false⟩:=⟨by simp,by simp only;omega⟩
 refine⟨RZ k2 hw,fun hb=> ?_⟩
 have:=(KD (m:=[93]) hl.1 hw).2 hb
 have e1:=hl.2.2.1
 simp only[An] at this e1 ⊢
 omega
theorem a2L{sg:List Sg}{x:Gs}{n:Nat}{z:Int×Gs}(h:gsOk sg x)(h1:(pkG sg x 0).kind≠1)(h2:(pkG sg x 0).kind≠2)(h3:(pkG sg x 0).kind≠3)(hn:isG sg x 4 [91]=false)(hq:isG sg x 4 [40]=true)
 (ha:∀s,pur x=some s→Et sg s=false) (hz:Ag sg (An x) (pE sg n .value) z):
 Ag sg x (pE sg (n+1) .base) (BC sg z.2 [41],Bs sg z.2 [41] ⟨11,[],[z.1],false⟩):=by
 have k1:=Gt (g':=fun s=>(pE sg n .value s).bind fun p=>Br sg [41] ⟨11,[],[p.1],false⟩ p.2) (Ds (f:=pE sg (n+1) .base) h) (by omega) hq
  (fun s hs ht=>by rw[NO hs h1 h2 h3,if_neg (by simp [Ez hs hn]),if_neg (by simp [ha s hs]),if_pos (show isM sg s [40]=true from ht)])
 have k2:=BJ (k:=fun k s=>Br sg [41] ⟨11,[],[k],false⟩ s) k1 hz.1 (fun _ _=>rfl)
 have hw:Cz ⟨11,[],[z.1],false⟩:=⟨by simp,by simp⟩
 refine⟨RZ k2 hw,fun hb=> ?_⟩
 have:=(KD (m:=[41]) hz.1.1 hw).2 hb
 have e1:=hz.1.2.2.1
 simp only[An] at this e1 ⊢
 omega
theorem a2M{sg:List Sg}{x:Gs}{n:Nat}{a:Int}(h:gsOk sg x)(h1:(pkG sg x 0).kind≠1)(h2:(pkG sg x 0).kind≠2)(h3:(pkG sg x 0).kind≠3)(hn:isG sg x 4 [91]=false)(hq:isG sg x 4 [40]=false):
 Ag sg x (pE sg (n+1) .base) (a,Bd x):=
 ⟨a2u (Ds h) (fun s hs=>by rw[NO hs h1 h2 h3,if_neg (by simp [Ez hs hn]),if_neg (by simp [Ez hs hq]),if_neg (by simp [Ez hs hq])]),fun hb=>by simp [Bd] at hb⟩
def fnR(sg:List Sg)(n:Nat)(s:Ps):PR:=(BG sg [40] s).bind fun s0=>(Bn sg (BB sg) [41] (sg.length+1) [] s0).bind fun p=>(BG sg [41] p.2).bind fun s1=>(BG sg [61,62] s1).bind fun s2=>(pE sg n .pick s2).bind fun q=>Ba ⟨9,[],p.1++[q.1],false⟩ q.2
theorem b3K{sg:List Sg}{x:Gs}{n:Nat}{z:Int×Gs}(h1:(pkG sg x 0).kind≠1)(h2:(pkG sg x 0).kind≠2)(h3:(pkG sg x 0).kind≠3)(hn:isG sg x 4 [91]=false)(hq:isG sg x 4 [40]=true)
 (ha:∀s,pur x=some s→Et sg s=true) (hz:Ag sg x (fnR sg n) z):Ag sg x (pE sg (n+1) .base) z:=by
 have e:(pur x).bind (pE sg (n+1) .base)=(pur x).bind (fnR sg n):=by
  cases hp:pur x with
  |none=>rfl
  |some s=>
   simp only[Option.bind_some]
   rw[NO hp h1 h2 h3,if_neg (by simp [Ez hp hn]),if_pos (by simp [Ie hp hq,ha s hp]),fnR,BG,if_pos (Ie hp hq)];rfl
 obtain⟨⟨a1,a2,a3,a4,a5⟩,b⟩:=hz
 exact⟨⟨a1,a2,a3,by rw[e];exact a4,by rw[e];exact a5⟩,b⟩
theorem a2N{sg:List Sg}{x:Gs}{n:Nat}{l:List Int×Gs}{z:Int×Gs}(h:gsOk sg x)(hl:Bl sg (Aq sg x [40]) (Bn sg (BB sg) [41] (sg.length+1) []) l)(hll:l.1.length≤3001)
 (hz:Ag sg (Aq sg (Aq sg l.2 [41]) [61,62]) (pE sg n .pick) z):Ag sg x (fnR sg n) (AQ z.2,Ah z.2 ⟨9,[],l.1++[z.1],false⟩):=by
 have k1:=Hz (g':=fun s0=>(Bn sg (BB sg) [41] (sg.length+1) [] s0).bind fun p=>(BG sg [41] p.2).bind fun s1=>(BG sg [61,62] s1).bind fun s2=>(pE sg n .pick s2).bind fun q=>Ba ⟨9,[],p.1++[q.1],false⟩ q.2) (Ds (f:=fnR sg n) h) (fun _ _=>rfl)
 have k2:=BJ (k:=fun ks s=>(BG sg [41] s).bind fun s1=>(BG sg [61,62] s1).bind fun s2=>(pE sg n .pick s2).bind fun q=>Ba ⟨9,[],ks++[q.1],false⟩ q.2) k1 hl (fun _ _=>rfl)
 have k3:=Hz (g':=fun s1=>(BG sg [61,62] s1).bind fun s2=>(pE sg n .pick s2).bind fun q=>Ba ⟨9,[],l.1++[q.1],false⟩ q.2) k2 (fun _ _=>rfl)
 have k4:=Hz (g':=fun s2=>(pE sg n .pick s2).bind fun q=>Ba ⟨9,[],l.1++[q.1],false⟩ q.2) k3 (fun _ _=>rfl)
 have k5:=BJ (k:=fun k s=>Ba ⟨9,[],l.1++[k],false⟩ s) k4 hz.1 (fun _ _=>rfl)
 have hw:Cz ⟨9,[],l.1++[z.1],false⟩:=⟨by simp,by simp;omega⟩
 refine⟨RY k5 hw,fun hb=> ?_⟩
 obtain⟨d1,d2,d3⟩:= @HA z.2 ⟨9,[],l.1++[z.1],false⟩
 have e1:=CF hz
 have e2:=k4.2.2.1
 have:=e1.2.2.2 (d3 hb)
 simp only[d2];omega
end Go.My
end
