/- joined -/
import Derived.Test.YtpkkcecninnjiaaGreatDoorQK
import Derived.Test.YtpkkcecninnjiaaGreatDoorProg
set_option linter.unusedSimpArgs false
set_option linter.unusedVariables false
section
namespace Go.My
open Go.Eng Go.Proofs
variable {G:GInv}
variable {b i j k:Int}{c:WC}{e:Nd}{ks:Ad}{m n:Nat}{post pre:Aa}{s s0 t:Ws}
def wpL(p:Pc)(w bud:Int):List Aa:=if CY p then JZ p w bud else []
def wpS(p:Pc)(w bud:Int):Int:=if CY p then KO p w bud else 0
theorem d0g(h1:0≤i)(h2:i≤100000):(blk i).length≤100000:=by simp [blk];omega
def wrA(c:WC)(s:Ws):AV:= .box 0 [nds c.ns,.int .i64 c.w,.int .i64 c.bud,.sl true 0 1 Aa Bo s.ls,.int .i64 s.st]
abbrev yW (y:List Aa×Int):Ws:=⟨y.1,y.2⟩
abbrev xW {α:Type} (x:WC×List Aa×Int×α):Ws:=⟨x.2.1,x.2.2.1⟩
def Be(a b:Ws):Prop:=b=a
structure wvP (c:WC) (n:Nat) (s:Ws) (pre:Aa) (k:Int) (post:Aa) (i:Int):Prop where
 vw:vwP c n pre k post i
 rm:s.ls.length+81≤2^41
theorem d0h(h:wvP c n s pre k post i):Fc c.ns k pre post i=true∧pfR c.ns n k pre post i=bdP c.ns n k pre post i:=by
 have hb:=h.vw.bd
 have h1:Fu pre=true:=by simp only[Fu,AY,Bf];exact hb.pr
 have h2:Fu post=true:=by simp only[Fu,AY,Bf];exact hb.po
 have:= @b3Y c.ns n k i pre post h.vw.va (Cm.2 hb.ind) h1 h2
 exact⟨this.2,this.1⟩
theorem d0i(h:wvP c n s pre k post i):pfP c.ns n k pre post:=
 ⟨h.vw.tr.ok,h.vw.tr.l30,h.vw.tr.ln,fun _=>h.vw.bd.tw,by have:=h.vw.bd.pr;omega,by have:=h.vw.bd.po;omega⟩
theorem d0j(h:wvP c n s pre k post i):wpL (bdP c.ns n k pre post i) c.w c.bud=JZ (bdP c.ns n k pre post i) c.w c.bud∧wpS (bdP c.ns n k pre post i) c.w c.bud=KO (bdP c.ns n k pre post i) c.w c.bud∧(JZ (bdP c.ns n k pre post i) c.w c.bud).length≤81:=by
 have hb:=Sx h.vw.bd
 exact⟨by rw[wpL,if_pos hb],by rw[wpS,if_pos hb],b3v (JX hb)⟩
theorem b4c(h:KO (bdP c.ns n k pre post i) c.w c.bud=2):Be (Cp c n pre k post i s) ⟨s.ls++JZ (bdP c.ns n k pre post i) c.w c.bud,2⟩:=by rw[Be,Cp,if_pos h]
theorem d0k(h:¬KO (bdP c.ns n k pre post i) c.w c.bud=2):Be (Cp c n pre k post i s) ⟨s.ls++JZ (bdP c.ns n k pre post i) c.w c.bud,s.st⟩:=by rw[Be,Cp,if_neg h]
structure ndP (c:WC) (n m:Nat) (s:Ws) (k i:Int):Prop where
 v:ndV c n m k i
 rm:s.ls.length+wW c.ns m k≤2^41
structure alP (c:WC) (n m:Nat) (s:Ws) (ks:Ad) (i:Int):Prop where
 v:alV c n m ks i
 rm:s.ls.length+(wL (wW c.ns m) ks+ks.length)≤2^41
 kl:ks.length≤2^40
 i0:0≤i∧i≤61
theorem MR(ih:∀ {k i:Int} {s:Ws},ndV c n m k i→(wN c n m k i s).ls.length≤s.ls.length+wW c.ns m k)(h:alV c n m (Ab c.ns b).kids (i+2)):(CM c.ns (wN c n m) b i s).ls.length≤s.ls.length+bkW c.ns m b:=Vg ih h
theorem YV(h:ndV c n m k i):(Ai c.ns k=12∨Ai c.ns k=13∨Ai c.ns k=14∨Ai c.ns k=15∨Ai c.ns k=16∨Ai c.ns k=17∨Ai c.ns k=19∨Ai c.ns k=20∨Ai c.ns k=21):=(b4b h.tk).2
theorem SE(h:ndV c n (m+1) k i)(h21:¬Ai c.ns k=21):wW c.ns (m+1) k=85+wL (wW c.ns m) (Ab c.ns k).kids:=d0f (by have:=YV h;omega) (b4b h.tk).1
theorem YW(h:ndV c n (m+1) k i)(h21:Ai c.ns k=21):wW c.ns (m+1) k=2+(wL (wW c.ns m) (Ab c.ns k).kids+(Ab c.ns k).kids.length):=by
 rw[wW,if_neg (by rw[h21];decide),if_pos (.inr (.inl h21))]
theorem PT(h:ndV c n m k i)(hk:Ai c.ns k=12∨Ai c.ns k=13∨Ai c.ns k=20∨Ai c.ns k=21):(Ab c.ns k).text.length≤30∧BI (Ab c.ns k).text=true:=by
 have ht:=(CU (DE h.up)).2.2.1
 have:DK (Ab c.ns k).text=true:=by
  have h2:(Ab c.ns k).kind=12∨(Ab c.ns k).kind=13∨(Ab c.ns k).kind=20∨(Ab c.ns k).kind=21:=hk
  rw[Fz,if_pos (by omega)] at ht;exact ht
 exact⟨Yn this,b2j this⟩
theorem d0l(h:ndV c n m k i):(Ab c.ns k).text.length≤1048576:=by
 have:=b1N (BF.1 h.up.1);have:=h.tr.tx;omega
theorem d0m(h:ndV c n m k i):c.ns[k.toNat]? =some (Ab c.ns k):=by
 have hr:=BF.1 h.up.1
 have e:c.ns[k.toNat]? =some c.ns[k.toNat]:=DS (by omega)
 rw[BR e];exact e
theorem Vh{x:Nd}(h:2≤x.kids.length∧x.kids.length≤3):(x.kids.length=2∧x.kids=[kd x 0,kd x 1])∨(x.kids.length=3∧x.kids=[kd x 0,kd x 1,kd x 2]):=by
 obtain⟨k,t,ks,b⟩:=x
 match ks,h with
 |[a,b],_=>exact .inl ⟨rfl,rfl⟩
 |[a,b,c],_=>exact .inr ⟨rfl,rfl⟩
 |[],h=>simp at h
 |[a],h=>simp at h
 |a::b::c::d::l,h=>simp at h
structure brW (c:WC) (n m:Nat) (b i:Int):Prop where
 up:BB c.ns b
 al:alV c n m (Ab c.ns b).kids (i+2)
 kl:(Ab c.ns b).kids.length≤12
theorem Vi(h:ndV c n (m+1) k i)(hk:¬Ai c.ns k=21)(hb:b∈(Ab c.ns k).kids)(h18:Ai c.ns b=18):brW c n m b i∧2+bkW c.ns m b=wW c.ns m b:=
 ⟨⟨(CQ h.up hb).1,d0d h hk hb h18,(CU (DE (CQ h.up hb).1)).2.1⟩,d0e h.up h.lt hb h18⟩
theorem a5a(h:ndV c n (m+1) k i)(hk:Ai c.ns k=16)(hl:¬(Ab c.ns k).kids.length=3):brW c n m (kd (Ab c.ns k) 1) i∧87+bkW c.ns m (kd (Ab c.ns k) 1)≤wW c.ns (m+1) k:=by
 have hi:=LD h.up hk
 rcases Vh hi.1 with⟨e,hks⟩|⟨e,_⟩
 ·have h1:=Vi (b:=kd (Ab c.ns k) 1) h (by omega) (DN (by omega)) (hi.2.2 _ (by rw[hks];simp))
  rw[SE h (by omega),hks,Dy,Dy]
  exact⟨h1.1,by omega⟩
 ·exact absurd e hl
theorem YX(h:ndV c n (m+1) k i)(hk:Ai c.ns k=16)(hl:(Ab c.ns k).kids.length=3):brW c n m (kd (Ab c.ns k) 1) i∧brW c n m (kd (Ab c.ns k) 2) i∧89+(bkW c.ns m (kd (Ab c.ns k) 1)+bkW c.ns m (kd (Ab c.ns k) 2))≤wW c.ns (m+1) k:=by
 have hi:=LD h.up hk
 rcases Vh hi.1 with⟨e,_⟩|⟨e,hks⟩
 ·omega
 ·have h1:=Vi (b:=kd (Ab c.ns k) 1) h (by omega) (DN (by omega)) (hi.2.2 _ (by rw[hks];simp))
  have h2:=Vi (b:=kd (Ab c.ns k) 2) h (by omega) (DN (by omega)) (hi.2.2 _ (by rw[hks];simp))
  rw[SE h (by omega),hks,Dy,Dy,Dy]
  exact⟨h1.1,h2.1,by omega⟩
theorem YY(h:ndV c n (m+1) k i)(hk:Ai c.ns k=17):brW c n m (kd (Ab c.ns k) 1) i∧87+bkW c.ns m (kd (Ab c.ns k) 1)≤wW c.ns (m+1) k:=by
 have hi:=PN h.up hk
 have hm:=DN (x:=Ab c.ns k) (i:=1) (by omega)
 have h1:=Vi h (by omega) hm hi.2.2
 have h2:=Sk (w:=wW c.ns m) hm
 rw[SE h (by omega)]
 exact⟨h1.1,by omega⟩
theorem YZ(h:ndV c n (m+1) k i)(hk:Ai c.ns k=20):brW c n m (kd (Ab c.ns k) ((Ab c.ns k).kids.length-1)) i∧87+bkW c.ns m (kd (Ab c.ns k) ((Ab c.ns k).kids.length-1))≤wW c.ns (m+1) k:=by
 have hi:=MN h.up hk
 have hm:=DN (x:=Ab c.ns k) (i:=(Ab c.ns k).kids.length-1) (by omega)
 have h1:=Vi h (by omega) hm hi.2.1
 have h2:=Sk (w:=wW c.ns m) hm
 rw[SE h (by omega)]
 exact⟨h1.1,by omega⟩
theorem On{c:WC}{n:Nat}:∀ {m:Nat} {k i:Int} {s:Ws},ndV c n m k i→(wN c n m k i s).ls.length≤s.ls.length+wW c.ns m k
 |0,k,i,s,h=>by have:=BF.1 h.up.1;have:=h.lt;omega
 |m+1,k,i,s,h=>by
  have ih:∀ {k i:Int} {s:Ws},ndV c n m k i→(wN c n m k i s).ls.length≤s.ls.length+wW c.ns m k:=On
  have hkid:∀j:Nat,j<(Ab c.ns k).kids.length→kd (Ab c.ns k) j∈(Ab c.ns k).kids:=fun j hj=>DN hj
  have hk:=YV h
  unfold Ai at hk
  have hvl:∀ {pre post:Aa} {s:Ws},0<(Ab c.ns k).kids.length→Bg (Ai c.ns (kd (Ab c.ns k) 0))=true→(pre.length≤40∧BI pre=true)→(post.length≤40∧BI post=true)→(Cp c n pre (kd (Ab c.ns k) 0) post i s).ls.length≤s.ls.length+81:=
   fun hl hv hp hq=>YU (a4Z h (hkid 0 hl) hv hp hq)
  rw[wN]
  unfold wV1
  by_cases e21:(Ab c.ns k).kind=21
  ·simp only[e21]
   have hw:=YW h e21
   have h1:=Vg ih (i:=i+2) (s:=BO i ([99,108,97,115,115,32]++(Ab c.ns k).text++[32,123]) s) (YT h e21)
   simp only[show¬(21:Int)=19 by decide,show¬(21:Int)=12 by decide,show¬(21:Int)=13 by decide,show¬(21:Int)=14 by decide,show¬(21:Int)=15 by decide,show¬(21:Int)=16 by decide,show¬(21:Int)=17 by decide,show¬(21:Int)=20 by decide,Br,BN]
   rw[Jl] at h1 ⊢;omega
  have hw:=SE h e21
  split
  ·rw[Jl];omega
  split
  ·rename_i e
   have hn:=PT h (.inl e)
   split
   ·rw[Jl];omega
   ·have hm:=hkid 0 (by omega)
    have:=hvl (pre:=[118,97,114,32]++(Ab c.ns k).text++[32,61]) (post:=[59]) (s:=s) (by omega) (HP h.up (.inl e) _ hm) ⟨by simp;omega,by rw[GC,GC,hn.2];rfl⟩ ⟨by simp,rfl⟩
    omega
  split
  ·rename_i e
   have hn:=PT h (.inr (.inl e))
   have hl:=(GN h.up).2.1
   rw[e] at hl
   have:(Ci 13).1=1:=rfl
   have hm:=hkid 0 (by omega)
   have:=hvl (pre:=(Ab c.ns k).text++[32,61]) (post:=[59]) (s:=s) (by omega) (HP h.up (.inr (.inl e)) _ hm) ⟨by simp;omega,by rw[GC,hn.2];rfl⟩ ⟨by simp,rfl⟩
   omega
  split
  ·rename_i e
   have hl:=(GN h.up).2.1
   rw[e] at hl
   have:(Ci 14).1=1:=rfl
   have hm:=hkid 0 (by omega)
   have:=hvl (pre:=[]) (post:=[59]) (s:=s) (by omega) (HP h.up (.inr (.inr (.inl e))) _ hm) ⟨by simp,rfl⟩ ⟨by simp,rfl⟩
   omega
  split
  ·rename_i e
   split
   ·rw[Jl];omega
   ·have hm:=hkid 0 (by omega)
    have:=hvl (pre:=[114,101,116,117,114,110,32]) (post:=[59]) (s:=s) (by omega) (HP h.up (.inr (.inr (.inr (.inl e)))) _ hm) ⟨by simp,rfl⟩ ⟨by simp,rfl⟩
    omega
  split
  ·rename_i e
   have hi:=LD h.up e
   have h1:=hvl (pre:=[105,102,32,40]) (post:=[41,32,123]) (s:=s) (by omega) hi.2.1 ⟨by simp,rfl⟩ ⟨by simp,rfl⟩
   rw[Jl]
   split
   ·rename_i e3
    have h2:=YX h e e3
    have h3:=MR ih (s:=Cp c n [105,102,32,40] (kd (Ab c.ns k) 0) [41,32,123] i s) h2.1.al
    have h4:=MR ih (s:=BO i [125,32,101,108,115,101,32,123] (CM c.ns (wN c n m) (kd (Ab c.ns k) 1) i (Cp c n [105,102,32,40] (kd (Ab c.ns k) 0) [41,32,123] i s))) h2.2.1.al
    rw[Jl] at h4;omega
   ·rename_i e3
    have h2:=a5a h e e3
    have h3:=MR ih (s:=Cp c n [105,102,32,40] (kd (Ab c.ns k) 0) [41,32,123] i s) h2.1.al
    omega
  split
  ·rename_i e
   have hi:=PN h.up e
   have h1:=hvl (pre:=[119,104,105,108,101,32,40]) (post:=[41,32,123]) (s:=s) (by omega) hi.2.1 ⟨by simp,rfl⟩ ⟨by simp,rfl⟩
   have h2:=YY h e
   have h3:=MR ih (s:=Cp c n [119,104,105,108,101,32,40] (kd (Ab c.ns k) 0) [41,32,123] i s) h2.1.al
   rw[Jl];omega
  split
  ·rename_i e
   have h2:=YZ h e
   have h3:=MR ih (s:=BO i (hdT c.ns (Ab c.ns k)) s) h2.1.al
   rw[Jl] at h3 ⊢;omega
  ·omega
def wlI(ns:List Nd)(f:Int→Int→Ws→Ws)(w:Int→Nat)(ks:Ad)(i:Int)(s0:Ws)(j:Int)(s:Ws):Prop:=
 (0≤j∧j≤ks.length)∧Et ns f i (ks.drop j.toNat) s=Et ns f i ks s0∧s.ls.length+(wL w (ks.drop j.toNat)+(ks.drop j.toNat).length)≤2^41
theorem d0n(h:alP c n m s ks i):wlI c.ns (wN c n m) (wW c.ns m) ks i s 0 s:=⟨by omega,rfl,h.rm⟩
theorem d0o(h:wlI c.ns (wN c n m) (wW c.ns m) ks i s0 j s):0≤j∧j≤ks.length:=h.1
theorem a5b(h:wlI c.ns (wN c n m) (wW c.ns m) ks i s0 j s)(hk:ks[j.toNat]? =some k):s.ls.length+(1+wW c.ns m k)≤2^41:=by
 have h3:=h.2.2
 rw[GI hk,Dy,AE] at h3;omega
theorem d0p(hx:alP c n m s ks i)(hk:ks[j.toNat]? =some k):0≤k∧k<c.ns.length:=BF.1 (hx.v k (Bq hk)).up.1
theorem d0q(h:wlI c.ns (wN c n m) (wW c.ns m) ks i s0 j s)(hx:alP c n m s0 ks i)(hk:ks[j.toNat]? =some k):ndP c n m s k i:=⟨hx.v k (Bq hk),by have:=a5b h hk;omega⟩
theorem d0r{ls:List Aa}{st:Int}(h:wlI c.ns (wN c n m) (wW c.ns m) ks i s0 j ⟨ls,st⟩)(hx:alP c n m s0 ks i)(hk:ks[j.toNat]? =some k):ndP c n m ⟨ls++[[]],st⟩ k i:=⟨hx.v k (Bq hk),by have:=a5b h hk;simp at this ⊢;omega⟩
theorem b4d(h:wlI c.ns (wN c n m) (wW c.ns m) ks i s0 j s)(hx:alP c n m s0 ks i)(hk:ks[j.toNat]? =some k)(ht:t=wN c n m k i (HO c.ns k s)):wlI c.ns (wN c n m) (wW c.ns m) ks i s0 (j+1) t:=by
 have hl:=(Ec hk).1
 have h2:=h.2.1;have h3:=h.2.2
 have h4:=On (s:=HO c.ns k s) (hx.v k (Bq hk))
 have h5:= @b4a c.ns k s
 rw[GI hk] at h2 h3
 rw[Et] at h2
 rw[Dy,AE] at h3
 refine⟨by have:=h.1;omega,?_,?_⟩
 ·rw[CW h.1.1,ht];exact h2
 ·rw[CW h.1.1,ht];omega
theorem d0s{ls:List Aa}{st:Int}(h:wlI c.ns (wN c n m) (wW c.ns m) ks i s0 j ⟨ls,st⟩)(hx:alP c n m s0 ks i)(hk:ks[j.toNat]? =some k)(he:c.ns[k.toNat]? =some e)(hb:e.blank=true)(ht:Be (wN c n m k i ⟨ls++[[]],st⟩) t):wlI c.ns (wN c n m) (wW c.ns m) ks i s0 (j+1) t:=
 b4d h hx hk (by rw[HO,BR he,if_pos hb];exact ht)
theorem d0t(h:wlI c.ns (wN c n m) (wW c.ns m) ks i s0 j s)(hx:alP c n m s0 ks i)(hk:ks[j.toNat]? =some k)(he:c.ns[k.toNat]? =some e)(hb:e.blank=false)(ht:Be (wN c n m k i s) t):wlI c.ns (wN c n m) (wW c.ns m) ks i s0 (j+1) t:=
 b4d h hx hk (by rw[HO,BR he,if_neg (by rw[hb];simp)];exact ht)
theorem d0u(h:wlI c.ns (wN c n m) (wW c.ns m) ks i s0 j s)(hj:¬j<ks.length):Be (Et c.ns (wN c n m) i ks s0) s:=by
 have h2:=h.2.1
 rw[EG (by have:=h.1;omega),Et] at h2
 exact h2
abbrev vWs (x:List Aa×Int×Int):Ws:=⟨x.1,x.2.1⟩
attribute [local irreducible] wlI
structure bkP (c:WC) (n m:Nat) (s:Ws) (b i:Int):Prop where
 br:brW c n m b i
 rm:s.ls.length+bkW c.ns m b≤2^41
 i0:0≤i∧i≤59
theorem d0v(h:bkP c n m s b i)(he:c.ns[b.toNat]? =some e):alP c n m s e.kids (i+2):=by
 rw[←BR he]
 exact⟨h.br.al,h.rm,by have:=h.br.kl;omega,by have:=h.i0;omega⟩
theorem d0w(he:c.ns[b.toNat]? =some e)(h:Be (Et c.ns (wN c n m) (i+2) e.kids s) t):Be (CM c.ns (wN c n m) b i s) t:=by
 rw[CM,BR he];exact h
structure hdP (ns:List Nd) (x:Nd):Prop where
 kl:1≤x.kids.length∧x.kids.length≤12
 nm:∀k∈x.kids.take (x.kids.length-1),(Ab ns k).text.length≤30
 nd:∀k∈x.kids,0≤k∧k<ns.length
 tx:x.text.length≤30
end Go.My
end
section
namespace Go.My
open Go.Eng Go.Proofs
variable {G:GInv}
variable {b bud d e i k w:Int}{c:WC}{m n:Nat}{ns:List Nd}{s t u v x y:Ws}
def tIf:Aa:=[105,102,32,40]
def tWh:Aa:=[119,104,105,108,101,32,40]
def tPE:Aa:=[41,32,123]
theorem nq(h:t=wV1 c n (wN c n m) (Ab c.ns k) i s):Be (wN c n (m+1) k i s) t:=h
theorem Za(h:ndP c n (m+1) s k i):s.ls.length+2≤2^41∧(¬(Ab c.ns k).kind=21→s.ls.length+85≤2^41):=by
 have h1:=h.rm
 by_cases e:(Ab c.ns k).kind=21
 ·have:=YW h.v e;omega
 ·have:=SE h.v e;omega
theorem MS(h:ndP c n m s k i):(0≤k∧k<c.ns.length)∧(0≤i∧i≤59)∧(Ab c.ns k).kids.length≤12:=⟨BF.1 h.v.up.1,a4Y h.v,(CU (DE h.v.up)).2.1⟩
theorem d0x(hk:(Ab c.ns k).kind=19)(h:Be (BO i (Ab c.ns k).text s) t):Be (wN c n (m+1) k i s) t:=nq (by rw[wV1,if_pos hk];exact h)
theorem SF{pre post:Aa}(h:ndP c n (m+1) s k i)(hk:¬(Ab c.ns k).kind=21)(hd:(Ab c.ns k).kids[(0:Nat)]? =some d)(hv:Bg (Ai c.ns d)=true)(hp:pre.length≤40∧BI pre=true)(hq:post.length≤40∧BI post=true):wvP c n s pre d post i:=
 ⟨a4Z h.v (Bq hd) hv hp hq,by have:=(Za h).2 hk;omega⟩
theorem d0y(h:ndP c n (m+1) s k i)(hk:(Ab c.ns k).kind=12)(hd:(Ab c.ns k).kids[(0:Nat)]? =some d):wvP c n s ([118,97,114,32]++(Ab c.ns k).text++[32,61]) d [59] i:=by
 have hn:=PT h.v (.inl hk)
 exact SF h (by omega) hd (HP h.v.up (.inl hk) d (Bq hd)) ⟨by simp;omega,by rw[GC,GC,hn.2];rfl⟩ ⟨by simp,rfl⟩
theorem a5c(h:ndP c n m s k i)(hk:(Ab c.ns k).kind=12∨(Ab c.ns k).kind=13∨(Ab c.ns k).kind=20∨(Ab c.ns k).kind=21):(Ab c.ns k).text.length≤30:=(PT h.v hk).1
theorem d0z(h:ndP c n (m+1) s k i)(hk:(Ab c.ns k).kind=13)(hd:(Ab c.ns k).kids[(0:Nat)]? =some d):wvP c n s ((Ab c.ns k).text++[32,61]) d [59] i:=by
 have hn:=PT h.v (.inr (.inl hk))
 exact SF h (by omega) hd (HP h.v.up (.inr (.inl hk)) d (Bq hd)) ⟨by simp;omega,by rw[GC,hn.2];rfl⟩ ⟨by simp,rfl⟩
theorem d0A(h:ndP c n (m+1) s k i)(hk:(Ab c.ns k).kind=14)(hd:(Ab c.ns k).kids[(0:Nat)]? =some d):wvP c n s [] d [59] i:=
 SF h (by omega) hd (HP h.v.up (.inr (.inr (.inl hk))) d (Bq hd)) ⟨by simp,rfl⟩ ⟨by simp,rfl⟩
theorem d0B(h:ndP c n (m+1) s k i)(hk:(Ab c.ns k).kind=15)(hd:(Ab c.ns k).kids[(0:Nat)]? =some d):wvP c n s [114,101,116,117,114,110,32] d [59] i:=
 SF h (by omega) hd (HP h.v.up (.inr (.inr (.inr (.inl hk)))) d (Bq hd)) ⟨by simp,rfl⟩ ⟨by simp,rfl⟩
theorem b4e(h:ndP c n (m+1) s k i)(hk:(Ab c.ns k).kind=16)(hd:(Ab c.ns k).kids[(0:Nat)]? =some d):wvP c n s tIf d tPE i:=
 SF h (by omega) hd (by have:=(LD h.v.up hk).2.1;rwa [Dw hd] at this) ⟨by decide,rfl⟩ ⟨by decide,rfl⟩
def SH(c:WC)(n:Nat)(k i:Int)(s:Ws):Ws:=Cp c n tIf (kd (Ab c.ns k) 0) tPE i s
def SI(c:WC)(n m:Nat)(k i:Int)(s:Ws):Ws:=CM c.ns (wN c n m) (kd (Ab c.ns k) 1) i (SH c n k i s)
def SJ(c:WC)(n m:Nat)(k i:Int)(s:Ws):Ws:=BO i [125,32,101,108,115,101,32,123] (SI c n m k i s)
def Zb(c:WC)(n m:Nat)(k i:Int)(s:Ws):Ws:=CM c.ns (wN c n m) (kd (Ab c.ns k) 2) i (SJ c n m k i s)
theorem d0C(h:ndP c n (m+1) s k i)(hk:(Ab c.ns k).kind=16):(Ab c.ns k).kids[(0:Nat)]? =some (kd (Ab c.ns k) 0):=by
 have hi:=LD h.v.up hk
 have hg:(Ab c.ns k).kids[0]? =some (Ab c.ns k).kids[0]:=DS (by omega)
 rw[Dw hg];exact hg
theorem b4f(h:ndP c n (m+1) s k i)(hk:(Ab c.ns k).kind=16):(SH c n k i s).ls.length≤s.ls.length+81:=YU (b4e h hk (d0C h hk)).vw
theorem a5d(h:ndP c n (m+1) s k i)(hk:(Ab c.ns k).kind=16):brW c n m (kd (Ab c.ns k) 1) i∧s.ls.length+(87+bkW c.ns m (kd (Ab c.ns k) 1))≤2^41:=by
 have h1:=h.rm
 by_cases e:(Ab c.ns k).kids.length=3
 ·have:=YX h.v hk e;exact⟨this.1,by omega⟩
 ·have:=a5a h.v hk e;exact⟨this.1,by omega⟩
theorem d0D(h:ndP c n (m+1) s k i)(hk:(Ab c.ns k).kind=16):bkP c n m (SH c n k i s) (kd (Ab c.ns k) 1) i:=by
 have h1:=a5d h hk;have h2:=b4f h hk
 exact⟨h1.1,by omega,(MS h).2.1⟩
theorem b4g(h:ndP c n (m+1) s k i)(hk:(Ab c.ns k).kind=16):(SI c n m k i s).ls.length≤s.ls.length+(81+bkW c.ns m (kd (Ab c.ns k) 1)):=by
 have h1:=a5d h hk;have h2:=b4f h hk
 have h3:=MR (s:=SH c n k i s) On h1.1.al
 unfold SI;omega
theorem b4h(h:ndP c n (m+1) s k i)(hk:(Ab c.ns k).kind=16)(e:(Ab c.ns k).kids.length=3):bkP c n m (SJ c n m k i s) (kd (Ab c.ns k) 2) i∧(Zb c n m k i s).ls.length+2≤2^41:=by
 have h1:=YX h.v hk e;have h2:=b4g h hk;have h3:=h.rm
 have h4:(SJ c n m k i s).ls.length=(SI c n m k i s).ls.length+1:=Jl
 have h5:=MR (s:=SJ c n m k i s) On h1.2.1.al
 exact⟨⟨h1.2.1,by omega,(MS h).2.1⟩,by unfold Zb;omega⟩
theorem d0E(h1:Be (Cp c n tIf d tPE i s) t)(hd:(Ab c.ns k).kids[(0:Nat)]? =some d)(hb:(Ab c.ns k).kids[(1:Nat)]? =some b)(h:ndP c n (m+1) s k i)(hk:(Ab c.ns k).kind=16):bkP c n m t b i:=by
 have:=d0D h hk
 rw[SH,Dw hd,Dw hb,←h1] at this;exact this
theorem a5e(h2:Be (CM c.ns (wN c n m) b i t) u)(h1:Be (Cp c n tIf d tPE i s) t)(hd:(Ab c.ns k).kids[(0:Nat)]? =some d)(hb:(Ab c.ns k).kids[(1:Nat)]? =some b):u=SI c n m k i s:=by
 rw[SI,SH,Dw hd,Dw hb,←h1];exact h2
theorem d0F(h2:Be (CM c.ns (wN c n m) b i t) u)(h1:Be (Cp c n tIf d tPE i s) t)(hd:(Ab c.ns k).kids[(0:Nat)]? =some d)(hb:(Ab c.ns k).kids[(1:Nat)]? =some b)(h:ndP c n (m+1) s k i)(hk:(Ab c.ns k).kind=16):u.ls.length+6≤2^41:=by
 have h3:=b4g h hk;have h4:=a5d h hk
 rw[a5e h2 h1 hd hb];omega
theorem b4i(h3:Be (BO i [125,32,101,108,115,101,32,123] u) v)(h2:Be (CM c.ns (wN c n m) b i t) u)(h1:Be (Cp c n tIf d tPE i s) t)(hd:(Ab c.ns k).kids[(0:Nat)]? =some d)(hb:(Ab c.ns k).kids[(1:Nat)]? =some b):v=SJ c n m k i s:=by
 rw[SJ,←a5e h2 h1 hd hb];exact h3
theorem d0G(h3:Be (BO i [125,32,101,108,115,101,32,123] u) v)(h2:Be (CM c.ns (wN c n m) b i t) u)(h1:Be (Cp c n tIf d tPE i s) t)(hd:(Ab c.ns k).kids[(0:Nat)]? =some d)(hb:(Ab c.ns k).kids[(1:Nat)]? =some b)(he:(Ab c.ns k).kids[(2:Nat)]? =some e)(h:ndP c n (m+1) s k i)(hk:(Ab c.ns k).kind=16)(hl:((Ab c.ns k).kids.length:Int)=3):bkP c n m v e i:=by
 have:=(b4h h hk (by omega)).1
 rw[Dw he,←b4i h3 h2 h1 hd hb] at this;exact this
theorem b4j(h4:Be (CM c.ns (wN c n m) e i v) x)(h3:Be (BO i [125,32,101,108,115,101,32,123] u) v)(h2:Be (CM c.ns (wN c n m) b i t) u)(h1:Be (Cp c n tIf d tPE i s) t)(hd:(Ab c.ns k).kids[(0:Nat)]? =some d)(hb:(Ab c.ns k).kids[(1:Nat)]? =some b)(he:(Ab c.ns k).kids[(2:Nat)]? =some e):x=Zb c n m k i s:=by
 rw[Zb,Dw he,←b4i h3 h2 h1 hd hb];exact h4
theorem d0H(h4:Be (CM c.ns (wN c n m) e i v) x)(h3:Be (BO i [125,32,101,108,115,101,32,123] u) v)(h2:Be (CM c.ns (wN c n m) b i t) u)(h1:Be (Cp c n tIf d tPE i s) t)(hd:(Ab c.ns k).kids[(0:Nat)]? =some d)(hb:(Ab c.ns k).kids[(1:Nat)]? =some b)(he:(Ab c.ns k).kids[(2:Nat)]? =some e)(h:ndP c n (m+1) s k i)(hk:(Ab c.ns k).kind=16)(hl:((Ab c.ns k).kids.length:Int)=3):x.ls.length+2≤2^41:=by
 rw[b4j h4 h3 h2 h1 hd hb he];exact(b4h h hk (by omega)).2
theorem d0I(h5:Be (BO i [125] x) y)(h4:Be (CM c.ns (wN c n m) e i v) x)(h3:Be (BO i [125,32,101,108,115,101,32,123] u) v)(h2:Be (CM c.ns (wN c n m) b i t) u)(h1:Be (Cp c n tIf d tPE i s) t)(hd:(Ab c.ns k).kids[(0:Nat)]? =some d)(hb:(Ab c.ns k).kids[(1:Nat)]? =some b)(he:(Ab c.ns k).kids[(2:Nat)]? =some e)(hk:(Ab c.ns k).kind=16)(hl:((Ab c.ns k).kids.length:Int)=3):Be (wN c n (m+1) k i s) y:=by
 have h6:=b4j h4 h3 h2 h1 hd hb he
 refine nq ?_
 rw[wV1,if_neg (by omega),if_neg (by omega),if_neg (by omega),if_neg (by omega),if_neg (by omega),if_pos hk,if_pos (by omega)]
 rw[h6] at h5;exact h5
theorem d0J(h5:Be (BO i [125] u) y)(h2:Be (CM c.ns (wN c n m) b i t) u)(h1:Be (Cp c n tIf d tPE i s) t)(hd:(Ab c.ns k).kids[(0:Nat)]? =some d)(hb:(Ab c.ns k).kids[(1:Nat)]? =some b)(hk:(Ab c.ns k).kind=16)(hl:¬((Ab c.ns k).kids.length:Int)=3):Be (wN c n (m+1) k i s) y:=by
 have h6:=a5e h2 h1 hd hb
 refine nq ?_
 rw[wV1,if_neg (by omega),if_neg (by omega),if_neg (by omega),if_neg (by omega),if_neg (by omega),if_pos hk,if_neg (by omega)]
 rw[h6] at h5;exact h5
theorem a5f(h:ndP c n (m+1) s k i)(hk:(Ab c.ns k).kind=17)(hd:(Ab c.ns k).kids[(0:Nat)]? =some d):wvP c n s tWh d tPE i:=
 SF h (by omega) hd (by have:=(PN h.v.up hk).2.1;rwa [Dw hd] at this) ⟨by decide,rfl⟩ ⟨by decide,rfl⟩
theorem d0K(h1:Be (Cp c n tWh d tPE i s) t)(hd:(Ab c.ns k).kids[(0:Nat)]? =some d)(hb:(Ab c.ns k).kids[(1:Nat)]? =some b)(h:ndP c n (m+1) s k i)(hk:(Ab c.ns k).kind=17):bkP c n m t b i:=by
 have h2:=YY h.v hk;have h3:=h.rm
 have h4:=YU (s:=s) (a5f h hk hd).vw
 rw[Dw hb] at h2
 rw[←h1] at h4
 exact⟨h2.1,by omega,(MS h).2.1⟩
theorem d0L(h2:Be (CM c.ns (wN c n m) b i t) u)(h1:Be (Cp c n tWh d tPE i s) t)(hd:(Ab c.ns k).kids[(0:Nat)]? =some d)(hb:(Ab c.ns k).kids[(1:Nat)]? =some b)(h:ndP c n (m+1) s k i)(hk:(Ab c.ns k).kind=17):u.ls.length+2≤2^41:=by
 have h3:=YY h.v hk;have h4:=h.rm
 have h5:=YU (s:=s) (a5f h hk hd).vw
 rw[Dw hb] at h3
 rw[←h1] at h5
 have h6:=MR (s:=t) On h3.1.al
 rw[h2];omega
theorem d0M(h5:Be (BO i [125] u) y)(h2:Be (CM c.ns (wN c n m) b i t) u)(h1:Be (Cp c n tWh d tPE i s) t)(hd:(Ab c.ns k).kids[(0:Nat)]? =some d)(hb:(Ab c.ns k).kids[(1:Nat)]? =some b)(hk:(Ab c.ns k).kind=17):Be (wN c n (m+1) k i s) y:=by
 refine nq ?_
 rw[wV1,if_neg (by omega),if_neg (by omega),if_neg (by omega),if_neg (by omega),if_neg (by omega),if_neg (by omega),if_pos hk,Dw hd,Dw hb]
 rw[h2,h1] at h5;exact h5
theorem d0N(h:ndP c n (m+1) s k i)(hk:(Ab c.ns k).kind=20):hdP c.ns (Ab c.ns k):=by
 have hi:=MN h.v.up hk
 refine⟨⟨hi.1,(MS h).2.2⟩,fun e he=> ?_,fun e he=>BF.1 (CQ h.v.up he).1.1,a5c h (by omega)⟩
 have ht:=(CU (DE (CQ h.v.up (GX he)).1)).2.2.1
 have h4:(Ab c.ns e).kind=1:=hi.2.2 e he
 rw[h4] at ht
 exact Yn (by simpa [Fz] using ht)
theorem d0O(h1:Be (BO i (hdT c.ns (Ab c.ns k)) s) t)(hb:(Ab c.ns k).kids[(((Ab c.ns k).kids.length:Int)-1).toNat]? =some b)(h:ndP c n (m+1) s k i)(hk:(Ab c.ns k).kind=20):bkP c n m t b i:=by
 have h2:=YZ h.v hk;have h3:=h.rm
 have hl:=(MN h.v.up hk).1
 rw[show(((Ab c.ns k).kids.length:Int)-1).toNat=(Ab c.ns k).kids.length-1 by omega] at hb
 rw[Dw hb] at h2
 refine⟨h2.1,?_,(MS h).2.1⟩
 rw[h1,Jl];omega
theorem d0P(h2:Be (CM c.ns (wN c n m) b i t) u)(h1:Be (BO i (hdT c.ns (Ab c.ns k)) s) t)(hb:(Ab c.ns k).kids[(((Ab c.ns k).kids.length:Int)-1).toNat]? =some b)(h:ndP c n (m+1) s k i)(hk:(Ab c.ns k).kind=20):u.ls.length+2≤2^41:=by
 have h3:=YZ h.v hk;have h4:=h.rm
 have hl:=(MN h.v.up hk).1
 rw[show(((Ab c.ns k).kids.length:Int)-1).toNat=(Ab c.ns k).kids.length-1 by omega] at hb
 rw[Dw hb] at h3
 have h6:=MR (s:=t) On h3.1.al
 rw[←h2] at h6
 rw[h1,Jl] at h6;omega
theorem d0Q(h1:Be (BO i ([99,108,97,115,115,32]++(Ab c.ns k).text++[32,123]) s) t)(h:ndP c n (m+1) s k i)(hk:(Ab c.ns k).kind=21):alP c n m t (Ab c.ns k).kids (i+2):=by
 have h2:=YW h.v hk;have h3:=h.rm;have h4:=(MS h).2
 refine⟨YT h.v hk,?_,by omega,by omega⟩
 rw[h1,Jl];omega
theorem d0R(h2:Be (Et c.ns (wN c n m) (i+2) (Ab c.ns k).kids t) u)(h1:Be (BO i ([99,108,97,115,115,32]++(Ab c.ns k).text++[32,123]) s) t)(h:ndP c n (m+1) s k i)(hk:(Ab c.ns k).kind=21):u.ls.length≤2^41:=by
 have h3:=YW h.v hk;have h4:=h.rm
 have h5:=Vg (s:=t) On (YT h.v hk)
 rw[←h2] at h5
 rw[h1,Jl] at h5;omega
theorem d0S(h5:Be (BO i [125] u) y)(h2:Be (Et c.ns (wN c n m) (i+2) (Ab c.ns k).kids t) u)(h1:Be (BO i ([99,108,97,115,115,32]++(Ab c.ns k).text++[32,123]) s) t)(hk:(Ab c.ns k).kind=21):Be (wN c n (m+1) k i s) y:=by
 refine nq ?_
 rw[wV1,if_neg (by omega),if_neg (by omega),if_neg (by omega),if_neg (by omega),if_neg (by omega),if_neg (by omega),if_neg (by omega),if_neg (by omega),if_pos hk]
 rw[h2,h1] at h5;exact h5
theorem d0T(h:ndP c n m s k i)(hk:((((((((¬(Ab c.ns k).kind=19∧¬(Ab c.ns k).kind=12)∧¬(Ab c.ns k).kind=13)∧¬(Ab c.ns k).kind=14)∧¬(Ab c.ns k).kind=15)∧¬(Ab c.ns k).kind=16)∧¬(Ab c.ns k).kind=17)∧¬(Ab c.ns k).kind=20)∧¬(Ab c.ns k).kind=21)):False:=by
 have:=YV h.v
 unfold Ai at this
 omega
theorem a5g(h:ndP c n (m+1) s k i):((Ab c.ns k).kind=13∨(Ab c.ns k).kind=14→1≤(Ab c.ns k).kids.length)∧((Ab c.ns k).kind=16∨(Ab c.ns k).kind=17→2≤(Ab c.ns k).kids.length)∧((Ab c.ns k).kind=20→1≤(Ab c.ns k).kids.length):=by
 have hl:=(GN h.v.up).2.1
 refine⟨fun e=> ?_,fun e=> ?_,fun e=>(MN h.v.up e).1⟩
 ·rcases e with e|e<;>rw[e] at hl<;>exact(by have:(Ci 13).1=1:=rfl;have:(Ci 14).1=1:=rfl;omega)
 ·rcases e with e|e
  ·exact(LD h.v.up e).1.1
  ·exact Nat.le_of_eq (PN h.v.up e).1.symm
structure trN (ns:List Nd) (n:Nat):Prop where
 ok:Ew ns
 l30:ns.length≤2^30
 ln:ns.length≤n
 tx:txS ns≤1048576
def b4k(ns:List Nd)(k i:Int):Bool:=(DW ns k&&(inn i 0 40&& !decide (DD ns k=0)))&&MO (Ai ns k)
theorem wn_nd(hx:trN ns n)(h:b4k ns k i=true):ndP ⟨ns,w,bud⟩ n n ⟨[],1⟩ k i:=by
 simp only[b4k,AY,EV,GY] at h
 obtain⟨⟨h1,h2,h3⟩,h4⟩:=h
 have hr:=BF.1 h1
 have hi:=Cm.1 h2
 obtain⟨_,⟨ds,hd⟩,_⟩:=Ua h3
 have hat:=(NY hd k.toNat (by omega)).1
 have hl:=hx.ln
 have hup:BB ns k:=Mn h3
 refine⟨⟨⟨hx.ok,hx.l30,hx.ln,hx.tx⟩,hup,by omega,h4,⟨k.toNat+1,ds,hd,by omega,?_⟩,by omega⟩,?_⟩
 ·show i+ds.getD k.toNat 0+(if Ai ns k=21 then 1 else 0)≤59
  split<;>omega
 ·have:=c8q hd (m:=n) hup (by omega) (by omega) h4
  show 0+wW ns n k≤_
  omega
theorem d0U{β:Type}{q:WC×β→Prop}(c:WC)(h:∃b,q (c,b)):∃x,q x:=let⟨b,hb⟩:=h;⟨(c,b),hb⟩
def wfR(ns:List Nd)(n:Nat)(w bud:Int):Ws:=if CT ns then Et ns (wN ⟨ns,w,bud⟩ n n) 0 (Ab ns ((ns.length:Int)-1)).kids ⟨[],1⟩ else⟨[],0⟩
theorem a5h(h:CT ns=false):wfR ns n w bud=⟨[],0⟩:=by rw[wfR,if_neg (by rw[h];simp)]
theorem Zd(h:CT ns=true):(1≤ns.length∧Ai ns ((ns.length:Int)-1)=22)∧BB ns ((ns.length:Int)-1)∧∃ds,Da ns ns.length=some ds:=by
 simp only[CT,AY,Bf,EV,GY] at h
 obtain⟨⟨h1,_⟩,h2,h3,_⟩:=h
 obtain⟨_,⟨ds,hd⟩,_⟩:=Ua h3
 refine⟨⟨h1,h2⟩,Mn h3,ds,?_⟩
 rw[show((ns.length:Int)-1).toNat+1=ns.length by omega] at hd;exact hd
theorem a5i(hx:trN ns n)(h:CT ns=true):alP ⟨ns,w,bud⟩ n n ⟨[],1⟩ (Ab ns ((ns.length:Int)-1)).kids 0:=by
 obtain⟨⟨h1,h2⟩,hup,ds,hd⟩:=Zd h
 have hl:=hx.ln
 have hk:=(CU (DE hup)).2.1
 refine⟨fun e he=> ?_,?_,by omega,by omega⟩
 ·have h3:=CQ hup he
  have h4:=LC hd hup (by omega) he
  have h5:=a4K hup h2 e he
  refine⟨⟨hx.ok,hx.l30,hx.ln,hx.tx⟩,h3.1,by omega,?_,⟨ns.length,ds,hd,by omega,?_⟩,by omega⟩
  ·simp only[Mk,CG] at h5
   simp only[MO,CG]
   exact .inr h5
  ·show 0+ds.getD e.toNat 0+(if Ai ns e=21 then 1 else 0)≤59
   split<;>omega
 ·have h6:=c8r hd (m:=n+1) hup (by omega) (by omega) h2
  rw[wW,if_neg (by rw[h2];decide),if_pos (.inr (.inr h2))] at h6
  show 0+(wL (wW ns n) (Ab ns ((ns.length:Int)-1)).kids+(Ab ns ((ns.length:Int)-1)).kids.length)≤_
  omega
theorem b4l{e:Nd}(h:CT ns=true)(he:ns[((ns.length:Int)-1).toNat]? =some e)(ht:Be (Et ns (wN ⟨ns,w,bud⟩ n n) 0 e.kids ⟨[],1⟩) t):t=wfR ns n w bud:=by
 rw[wfR,if_pos h,BR he];exact ht
end Go.My
end
section
namespace Go.My
open Go.Eng
variable {i k:Int}{m n:Nat}{ns:List Nd}{s:Ws}
def byW(ns:List Nd):Nat→Int→Nat
 |0,_=>0
 |m+1,k=>(Ab ns k).text.length+10000+wL (byW ns m) (Ab ns k).kids
theorem b4m{v w:Int→Nat}:∀ {l:Ad},(∀c∈l,v c≤w c)→wL v l≤wL w l
 |[],_=>by simp [wL]
 |c::l,h=>by
  have h1:=h c (by simp)
  have h2:=b4m (v:=v) (w:=w) (l:=l) fun d hd=>h d (by simp [hd])
  rw[Dy,Dy];omega
theorem a5j{v w:Int→Nat}:∀ {l:Ad},(∀c∈l,v c=w c)→wL v l=wL w l
 |[],_=>by simp [wL]
 |c::l,h=>by
  have h1:=h c (by simp)
  have h2:=a5j (v:=v) (w:=w) (l:=l) fun d hd=>h d (by simp [hd])
  rw[Dy,Dy,h1,h2]
theorem b4n{ns:List Nd}:∀ {n m:Nat} {k:Int},BB ns k→k<m→tW ns n k≤byW ns m k
 |0,m,k,h,hm=>by rw[tW];omega
 |n+1,0,k,h,hm=>by have:=BF.1 h.1;omega
 |n+1,m+1,k,h,hm=>by
  have:=b4m (v:=tW ns n) (w:=byW ns m) (l:=(Ab ns k).kids) fun c hc=>by
   have h1:=CQ h hc
   exact b4n h1.1 (by omega)
  rw[tW,byW];omega
theorem b4o{ns:List Nd}:∀ {m m':Nat} {k:Int},BB ns k→k<m→k<m'→byW ns m k=byW ns m' k
 |0,_,k,h,hm,_=>by have:=BF.1 h.1;omega
 |_+1,0,k,h,_,hm=>by have:=BF.1 h.1;omega
 |m+1,m'+1,k,h,hm,hm'=>by
  rw[byW,byW,a5j fun c hc=>by
   have h1:=CQ h hc
   exact b4o (m:=m) (m':=m') h1.1 (by omega) (by omega)]
theorem d0V(h:BB ns k)(hm:k<m):(Ab ns k).text.length≤byW ns m k:=by
 have:=BF.1 h.1
 obtain⟨m1,rfl⟩:∃m1,m=m1+1:=⟨m-1,by omega⟩
 rw[byW];omega
theorem b4p{b:Int}(h:BB ns b)(hm:b<m):wL (byW ns m) (Ab ns b).kids+10000≤byW ns m b:=by
 have:=BF.1 h.1
 obtain⟨m1,rfl⟩:∃m1,m=m1+1:=⟨m-1,by omega⟩
 have e:wL (byW ns (m1+1)) (Ab ns b).kids=wL (byW ns m1) (Ab ns b).kids:=a5j fun c hc=>by
  have h1:=CQ h hc
  exact b4o h1.1 (by omega) (by omega)
 rw[e];conv=>rhs;rw[byW]
 omega
theorem Ze{f:Int→Nat}{g:Int→Ad}:∀ {l:Ad},((l.flatMap g).map f).sum=(l.map fun c=>((g c).map f).sum).sum
 |[]=>rfl
 |c::l=>by
  have:=Ze (f:=f) (g:=g) (l:=l)
  simp only[GV,FJ,Qx,En,Lg,this]
def byF(ns:List Nd)(k:Int):Nat:=(Ab ns k).text.length+10000
theorem b4q{ns:List Nd}:∀ {m:Nat} {k:Int},byW ns m k=((vis ns m k).map (byF ns)).sum
 |0,k=>by simp [byW,vis]
 |m+1,k=>by
  rw[byW,vis,En,Lg,Ze]
  have:wL (byW ns m) (Ab ns k).kids=((GM ns k).map fun c=>((vis ns m c).map (byF ns)).sum).sum:=by
   unfold wL GM
   congr 1
   exact List.map_congr_left fun c _=>b4q
  rw[this,byF]
theorem b4r{ns:List Nd}{f:Int→Nat}:∀ {n:Nat} {l:Ad},((l.flatMap (vis ns n)).map f).sum=((WL ns n l).map f).sum
 |0,l=>by
  have:l.flatMap (vis ns 0)=[]:=by simp [vis]
  rw[this];rfl
 |n+1,l=>by
  rw[WL,FJ,Qx,←b4r (l:=l.flatMap (GM ns)),List.flatMap_assoc,Ze,Ze]
  induction l with
  |nil=>rfl
  |cons c l ih=>
   simp only[En,Lg] at ih ⊢
   rw[ih,vis,En,Lg];omega
theorem d0W(h:CT ns=true):byW ns n ((ns.length:Int)-1)≤txS ns+3000000:=by
 obtain⟨h1,h2,h3,_⟩:=Um h
 have e:= @b4r ns (byF ns) n [(ns.length:Int)-1]
 simp only[GV,List.flatMap_nil,GE] at e
 have h4:=a9f h1 h2 n
 have h5:=Ul (byF ns) _ _ h4.1 h4.2
 have h6:((List.range ns.length).map fun i:Nat=>byF ns i).sum=txS ns+10000*ns.length:=by
  unfold txS byF
  generalize ns.length=q
  induction q with
  |zero=>rfl
  |succ q ih=>
   rw[List.range_succ,FJ,Qx,FJ,Qx,ih]
   simp;omega
 rw[b4q,e];omega
theorem d0X{pre post:Aa}(h:bdQ ns n k pre post i):CB (bdP ns n k pre post i).chunks≤pre.length+1+tW ns n k+post.length:=by
 have h2:CB (Dt ns n k pre).chunks+(Dt ns n k pre).text.length≤tot (Gf pre)+tW ns n k:=(PD (rd:=true) (a:=0) (s:=Gf pre) h.up h.lt h.vl).1.tt
 have h3:CB (bdP ns n k pre post i).chunks=CB (Dt ns n k pre).chunks+((Dt ns n k pre).text.length+post.length):=by
  rw[bdP,ML,a3S];simp [CB]
 have h4:tot (Gf pre)≤pre.length+1:=by
  have e:tot (b00 pre)=pre.length:=by simp [tot,CB,b00]
  unfold Gf;split
  ·have h5:=(Ja (rd:=true) (r:=AP true (b00 pre)) (fr:=1) (nest:=4) (sp:=true) (s:=Bx true 2 2 (b00 pre))).tt
   have h6:=(PC (rd:=true) (v:=2) (c:=2) (s:=b00 pre)).tt
   omega
  ·omega
 omega
theorem b4s{a b:List Aa}:lnS (a++b)=lnS a+lnS b:=by simp [lnS]
theorem d0Y{a:Aa}:lnS [a]=a.length:=by simp [lnS]
theorem d0Z(h:0≤i∧i≤61):(blk i).length≤61:=by simp [blk];omega
theorem d1a{t:Aa}(h:0≤i∧i≤61):lnS (BO i t s).ls≤lnS s.ls+61+t.length:=by
 have:=d0Z h
 simp only[BO,b4s,d0Y,Ba];omega
theorem d1b{ns:List Nd}{k:Int}{s:Ws}:lnS (HO ns k s).ls=lnS s.ls:=by unfold HO;split<;>simp [lnS]
theorem d1c{c:WC}{pre post:Aa}(h:vwP c n pre k post i):lnS (Cp c n pre k post i s).ls≤lnS s.ls+(tW c.ns n k+8300):=by
 have h1:=(Yp (v:=(srF (bdP c.ns n k pre post i) c.w c.bud).1.best) (JX (Sx h.bd))).1
 have h2:=d0X h.bd
 have hp:=h.bd.pr.1;have hq:=h.bd.po.1
 simp only[Cp,b4s,JZ]
 omega
theorem Zf{c:WC}{n m:Nat}(ih:∀ {k i:Int} {s:Ws},ndV c n m k i→lnS (wN c n m k i s).ls≤lnS s.ls+byW c.ns m k){i:Int}:∀ {l:Ad} {s:Ws},alV c n m l i→lnS (Et c.ns (wN c n m) i l s).ls≤lnS s.ls+wL (byW c.ns m) l
 |[],s,_=>by rw[Et];omega
 |k::l,s,h=>by
  have h1:=ih (s:=HO c.ns k s) (h k (by simp))
  have h2:=Zf ih (i:=i) (l:=l) (s:=wN c n m k i (HO c.ns k s)) fun e he=>h e (by simp [he])
  have h3:= @d1b c.ns k s
  rw[Et,Dy];omega
theorem Vj{c:WC}(ih:∀ {k i:Int} {s:Ws},ndV c n m k i→lnS (wN c n m k i s).ls≤lnS s.ls+byW c.ns m k){b:Int}(h:alV c n m (Ab c.ns b).kids (i+2))(hb:BB c.ns b)(hm:b<m):lnS (CM c.ns (wN c n m) b i s).ls+10000≤lnS s.ls+byW c.ns m b:=by
 have h1:=Zf ih h (s:=s)
 have h2:=b4p hb hm
 unfold CM;omega
theorem b4t{c:WC}{n:Nat}:∀ {m:Nat} {k i:Int} {s:Ws},ndV c n m k i→lnS (wN c n m k i s).ls≤lnS s.ls+byW c.ns m k
 |0,k,i,s,h=>by have:=BF.1 h.up.1;have:=h.lt;omega
 |m+1,k,i,s,h=>by
  have ih:∀ {k i:Int} {s:Ws},ndV c n m k i→lnS (wN c n m k i s).ls≤lnS s.ls+byW c.ns m k:=b4t
  have hkid:∀j:Nat,j<(Ab c.ns k).kids.length→kd (Ab c.ns k) j∈(Ab c.ns k).kids:=fun j hj=>DN hj
  have hk:=YV h
  have hi61:0≤i∧i≤61:=by have:=a4Y h;omega
  have hlt:=h.lt
  unfold Ai at hk
  have hkm:∀ {d:Int},d∈(Ab c.ns k).kids→BB c.ns d∧d<m:=fun hd=>by
   have h1:=CQ h.up hd
   exact⟨h1.1,by omega⟩
  have hvl:∀ {pre post:Aa} {s:Ws},0<(Ab c.ns k).kids.length→Bg (Ai c.ns (kd (Ab c.ns k) 0))=true→(pre.length≤40∧BI pre=true)→(post.length≤40∧BI post=true)→lnS (Cp c n pre (kd (Ab c.ns k) 0) post i s).ls≤lnS s.ls+(byW c.ns m (kd (Ab c.ns k) 0)+8300):=
   fun {pre post s} hl hv hp hq=>by
    have h1:=d1c (s:=s) (a4Z h (hkid 0 hl) hv hp hq)
    have h2:=hkm (hkid 0 hl)
    have h3:=b4n (n:=n) h2.1 h2.2
    exact Jt h1 (Nat.add_le_add_left (Nat.add_le_add_right h3 8300) _)
  have hv1:0<(Ab c.ns k).kids.length→byW c.ns m (kd (Ab c.ns k) 0)≤wL (byW c.ns m) (Ab c.ns k).kids:=fun hl=>Sk (hkid 0 hl)
  have hln:∀(t:Aa) (s:Ws),lnS (BO i t s).ls≤lnS s.ls+61+t.length:=fun t s=>d1a hi61
  have hx:byW c.ns (m+1) k=(Ab c.ns k).text.length+10000+wL (byW c.ns m) (Ab c.ns k).kids:=by rw[byW]
  rw[wN,hx]
  unfold wV1
  by_cases e21:(Ab c.ns k).kind=21
  ·simp only[e21]
   have h1:=Zf ih (i:=i+2) (s:=BO i ([99,108,97,115,115,32]++(Ab c.ns k).text++[32,123]) s) (YT h e21)
   have h2:=hln ([99,108,97,115,115,32]++(Ab c.ns k).text++[32,123]) s
   simp only[show¬(21:Int)=19 by decide,show¬(21:Int)=12 by decide,show¬(21:Int)=13 by decide,show¬(21:Int)=14 by decide,show¬(21:Int)=15 by decide,show¬(21:Int)=16 by decide,show¬(21:Int)=17 by decide,show¬(21:Int)=20 by decide,Br,BN]
   have h3:=hln [125] (Et c.ns (wN c n m) (i+2) (Ab c.ns k).kids (BO i ([99,108,97,115,115,32]++(Ab c.ns k).text++[32,123]) s))
   simp only[Ba,AE,AX] at h2 h3
   omega
  split
  ·have:=hln (Ab c.ns k).text s;omega
  split
  ·rename_i e
   have hn:=PT h (.inl e)
   split
   ·have:=hln ([118,97,114,32]++(Ab c.ns k).text++[59]) s
    simp only[Ba,AE,AX] at this;omega
   ·have hm:=hkid 0 (by omega)
    have:=hvl (pre:=[118,97,114,32]++(Ab c.ns k).text++[32,61]) (post:=[59]) (s:=s) (by omega) (HP h.up (.inl e) _ hm) ⟨by simp;omega,by rw[GC,GC,hn.2];rfl⟩ ⟨by simp,rfl⟩
    have:=hv1 (by omega)
    omega
  split
  ·rename_i e
   have hn:=PT h (.inr (.inl e))
   have hl:=(GN h.up).2.1
   rw[e] at hl
   have:(Ci 13).1=1:=rfl
   have hm:=hkid 0 (by omega)
   have:=hvl (pre:=(Ab c.ns k).text++[32,61]) (post:=[59]) (s:=s) (by omega) (HP h.up (.inr (.inl e)) _ hm) ⟨by simp;omega,by rw[GC,hn.2];rfl⟩ ⟨by simp,rfl⟩
   have:=hv1 (by omega)
   omega
  split
  ·rename_i e
   have hl:=(GN h.up).2.1
   rw[e] at hl
   have:(Ci 14).1=1:=rfl
   have hm:=hkid 0 (by omega)
   have:=hvl (pre:=[]) (post:=[59]) (s:=s) (by omega) (HP h.up (.inr (.inr (.inl e))) _ hm) ⟨by simp,rfl⟩ ⟨by simp,rfl⟩
   have:=hv1 (by omega)
   omega
  split
  ·rename_i e
   split
   ·have:=hln [114,101,116,117,114,110,59] s
    simp only[AE,AX] at this;omega
   ·have hm:=hkid 0 (by omega)
    have:=hvl (pre:=[114,101,116,117,114,110,32]) (post:=[59]) (s:=s) (by omega) (HP h.up (.inr (.inr (.inr (.inl e)))) _ hm) ⟨by simp,rfl⟩ ⟨by simp,rfl⟩
    have:=hv1 (by omega)
    omega
  split
  ·rename_i e
   have hi:=LD h.up e
   have h1:=hvl (pre:=[105,102,32,40]) (post:=[41,32,123]) (s:=s) (by omega) hi.2.1 ⟨by simp,rfl⟩ ⟨by simp,rfl⟩
   split
   ·rename_i e3
    have h2:=YX h e e3
    rcases Vh hi.1 with⟨e4,_⟩|⟨_,hks⟩
    ·omega
    have hw:wL (byW c.ns m) (Ab c.ns k).kids=byW c.ns m (kd (Ab c.ns k) 0)+(byW c.ns m (kd (Ab c.ns k) 1)+byW c.ns m (kd (Ab c.ns k) 2)):=by
     conv=>lhs;rw[hks]
     simp [wL]
    have k1:=hkm (hkid 1 (by omega));have k2:=hkm (hkid 2 (by omega))
    have h3:=Vj ih (s:=Cp c n [105,102,32,40] (kd (Ab c.ns k) 0) [41,32,123] i s) h2.1.al k1.1 k1.2
    have h4:=Vj ih (s:=BO i [125,32,101,108,115,101,32,123] (CM c.ns (wN c n m) (kd (Ab c.ns k) 1) i (Cp c n [105,102,32,40] (kd (Ab c.ns k) 0) [41,32,123] i s))) h2.2.1.al k2.1 k2.2
    have h5:=hln [125,32,101,108,115,101,32,123] (CM c.ns (wN c n m) (kd (Ab c.ns k) 1) i (Cp c n [105,102,32,40] (kd (Ab c.ns k) 0) [41,32,123] i s))
    have h6:=hln [125] (CM c.ns (wN c n m) (kd (Ab c.ns k) 2) i (BO i [125,32,101,108,115,101,32,123] (CM c.ns (wN c n m) (kd (Ab c.ns k) 1) i (Cp c n [105,102,32,40] (kd (Ab c.ns k) 0) [41,32,123] i s))))
    simp only[AE,AX] at h5 h6
    omega
   ·rename_i e3
    have h2:=a5a h e e3
    have hks:(Ab c.ns k).kids=[kd (Ab c.ns k) 0,kd (Ab c.ns k) 1]:=by
     rcases Vh hi.1 with⟨_,hks⟩|⟨e4,_⟩
     ·exact hks
     ·exact absurd e4 e3
    have hw:wL (byW c.ns m) (Ab c.ns k).kids=byW c.ns m (kd (Ab c.ns k) 0)+byW c.ns m (kd (Ab c.ns k) 1):=by
     conv=>lhs;rw[hks]
     simp [wL]
    have k1:=hkm (hkid 1 (by omega))
    have h3:=Vj ih (s:=Cp c n [105,102,32,40] (kd (Ab c.ns k) 0) [41,32,123] i s) h2.1.al k1.1 k1.2
    have h6:=hln [125] (CM c.ns (wN c n m) (kd (Ab c.ns k) 1) i (Cp c n [105,102,32,40] (kd (Ab c.ns k) 0) [41,32,123] i s))
    simp only[AE,AX] at h6
    omega
  split
  ·rename_i e
   have hi:=PN h.up e
   have h1:=hvl (pre:=[119,104,105,108,101,32,40]) (post:=[41,32,123]) (s:=s) (by omega) hi.2.1 ⟨by simp,rfl⟩ ⟨by simp,rfl⟩
   have h2:=YY h e
   have hks:(Ab c.ns k).kids=[kd (Ab c.ns k) 0,kd (Ab c.ns k) 1]:=by
    rcases Vh (x:=Ab c.ns k) (by omega) with⟨_,e5⟩|⟨e5,_⟩
    ·exact e5
    ·omega
   have hw:wL (byW c.ns m) (Ab c.ns k).kids=byW c.ns m (kd (Ab c.ns k) 0)+byW c.ns m (kd (Ab c.ns k) 1):=by
    conv=>lhs;rw[hks]
    simp [wL]
   have k1:=hkm (hkid 1 (by omega))
   have h3:=Vj ih (s:=Cp c n [119,104,105,108,101,32,40] (kd (Ab c.ns k) 0) [41,32,123] i s) h2.1.al k1.1 k1.2
   have h6:=hln [125] (CM c.ns (wN c n m) (kd (Ab c.ns k) 1) i (Cp c n [119,104,105,108,101,32,40] (kd (Ab c.ns k) 0) [41,32,123] i s))
   simp only[AE,AX] at h6
   omega
  split
  ·rename_i e
   have h2:=YZ h e
   have hi:=MN h.up e
   have k1:=hkm (hkid ((Ab c.ns k).kids.length-1) (by omega))
   have h3:=Vj ih (s:=BO i (hdT c.ns (Ab c.ns k)) s) h2.1.al k1.1 k1.2
   have h4:=hln (hdT c.ns (Ab c.ns k)) s
   have h5:=Sj (ns:=c.ns) (w:=byW c.ns m) (l:=(Ab c.ns k).kids.take ((Ab c.ns k).kids.length-1)) (first:=true) fun d hd=>by
    have:=hkm (GX hd)
    exact d0V this.1 this.2
   have h6:=US (w:=byW c.ns m) (x:=Ab c.ns k) (by omega)
   have h7:=hln [125] (CM c.ns (wN c n m) (kd (Ab c.ns k) ((Ab c.ns k).kids.length-1)) i (BO i (hdT c.ns (Ab c.ns k)) s))
   have h8:=(CU (DE h.up)).2.1
   have h9:((Ab c.ns k).kids.take ((Ab c.ns k).kids.length-1)).length≤12:=by rw[DU];omega
   have h10:(hdT c.ns (Ab c.ns k)).length=(Ab c.ns k).text.length+1+(Fg c.ns ((Ab c.ns k).kids.take ((Ab c.ns k).kids.length-1)) true).length+3:=by simp only[hdT,Ba,AE,AX]
   simp only[AE,AX] at h7
   omega
  ·omega
theorem d1d{w bud:Int}(hx:trN ns n):lnS (wfR ns n w bud).ls≤txS ns+3000000:=by
 cases h:CT ns with
 |false=>rw[a5h h];simp [lnS]
 |true=>
  have h1:=a5i (w:=w) (bud:=bud) hx h
  have h2:=Zf (s:=⟨[],1⟩) (fun h=>b4t h) h1.v
  obtain⟨_,hup,_⟩:=Zd h
  have hn:=hx.ln
  have h3:=b4p (m:=n) hup (by omega)
  have h4:=d0W (n:=n) h
  rw[wfR,if_pos h]
  have h5:lnS ([]:List Aa)=0:=rfl
  dsimp only at h2
  omega
end Go.My
end
section
namespace Go.My
open Go.Eng Go.Proofs
variable {G:GInv}
structure Gr where
 notes:Ad
 member:Int
end Go.My
end
section
namespace Go.My
open Go.Eng
section
variable {α:Type} (lt:α→α→Bool)
variable {lt}
end
end Go.My
end
section
namespace Go.My
open Go.Eng Go.Proofs
variable {G:GInv}
end Go.My
end
section
namespace Go.My
open Go.Eng Go.Proofs
variable {G:GInv}
theorem d1e{n:Int}(h0:0≤n)(h1:n<256):∃c:UInt8,n=(c.toNat:Int):=⟨UInt8.ofNat n.toNat,by
 have:n.toNat % 256=n.toNat:=by omega
 simp;omega⟩
theorem d1f{n:Int}{q:UInt8→Prop}(h0:0≤n)(h1:n<256)(h:∀c:UInt8,n=(c.toNat:Int)→q c):∃c:UInt8,n=(c.toNat:Int)∧q c:=by
 obtain⟨c,hc⟩:=d1e h0 h1
 exact⟨c,hc,h c hc⟩
section
variable {α:Type}
variable {mk:Int→α→α} {sz:α→Nat}
end
end Go.My
end
section
namespace Go.My
open Go.Eng Go.Proofs
variable {G:GInv}
end Go.My
end
section
namespace Go.My
open Go.Eng
structure Rw where
 stop:Int→Option Nd
 tgt:Int→Int→Int→Int
 par:Int→Int→Int→Bool
end Go.My
end
section
namespace Go.My
open Go.Eng Go.Proofs
variable {G:GInv}
def d1g(ns:List Nd)(n:Nat)(c:Int):Prop:=BB ns c∧c<n∧(vis ns n c).length≤300
structure TX where
 ns:List Nd
 s:List Sg
 st:Ad
end Go.My
end
section
namespace Go.My
open Go.Eng Go.Proofs
variable {G:GInv}
structure telP (ns:List Nd) (n:Nat) (x:Nd) (s:List Sg):Prop where
 nl:ns.length<2^62
 k12:x.kids.length≤12
 lo:(Ci x.kind).1≤x.kids.length
 hi:x.kids.length≤(Ci x.kind).2
 kid:∀c∈x.kids,d1g ns n c
 rm:s.length+80000*n+80000≤24080000
structure telL (ns:List Nd) (n:Nat) (x:Nd):Prop where
 a:∀i,i<x.kids.length→(HF ns n (kd x i)).length≤5400
 t:∀j m,(BH (HF ns n) m (x.kids.take j)).length≤64812
 d:∀j m,(BH (HF ns n) m (x.kids.drop j)).length≤64812
 l:∀m,(BH (HF ns n) m x.kids).length≤64812
 e:(x.kids.flatMap (HF ns n)).length≤64800
end Go.My
end
section
set_option maxHeartbeats 8000000
namespace Go.My
open Go.Eng Go.Proofs
variable {G:GInv}
end Go.My
end
section
set_option maxHeartbeats 8000000
namespace Go.My
open Go.Eng Go.Proofs
variable {G:GInv}
end Go.My
end
section
namespace Go.My
open Go.Eng
def b4u(ns:List Nd):Nat→Int→Int
 |0,k=>k
 |n+1,k=>if(Ab ns k).kind=11 then b4u ns n ((Ab ns k).kids.headD 0) else k
def KR(ns:List Nd)(k:Int):Int:=b4u ns (k.toNat+1) k
end Go.My
end
section
namespace Go.My
open Go.Eng Go.Proofs
variable {G:GInv}
end Go.My
end
section
namespace Go.My
open Go.Eng Go.Proofs
variable {G:GInv}
end Go.My
end
section
set_option maxHeartbeats 8000000
namespace Go.My
open Go.Eng Go.Proofs
variable {G:GInv}
def Vk(ns:List Nd):List Sg:=if CT ns then HF ns 301 (ns.length-1) else []
end Go.My
end
section
namespace Go.My
open Go.Eng
variable {L:List Nd}{bud p w:Int}{e:Sg}{f:Int→List Sg}{i n:Nat}{s t:Aa}
theorem b4v:∀ {u:List KT},nCC u→CR (CR u)=CR u
 |[],_=>rfl
 |x::l,h=>by
  have ih:=b4v h.2
  rw[CR]
  split
  ·exact ih
  ·rename_i hx
   rw[CR,ih,if_neg]
   intro hc
   apply hx
   simp only[AY,DB] at hc ⊢
   refine⟨hc.1,?_⟩
   cases l with
   |nil=>exact hc.2
   |cons y l=>
    have hy:y≠cmK:=fun e=>h.1 ⟨hc.1,by rw[e];rfl⟩
    have:=hc.2
    rw[a9g hy] at this;exact this
theorem a5k:∀ {u:List KT} {x:KT},x∈CR u→x∈u
 |[],_,h=>h
 |y::l,x,h=>by
  rw[CR] at h
  split at h
  ·exact List.mem_cons_of_mem _ (a5k h)
  ·rcases EX.1 h with rfl|h
   ·simp
   ·exact List.mem_cons_of_mem _ (a5k h)
theorem d1h{sg:List Sg}(n:Nat)(h:n≤sg.length):CR (sg.map kt)=(EM sg n).map kt++CR ((sg.drop n).map kt):=by
 induction n with
 |zero=>rfl
 |succ n ih=>
  rw[ih (by omega)]
  have hlt:n<sg.length:=by omega
  rw[Gh hlt,En]
  have ek:kt sg[n]=tkK sg (n:Int):=by
   unfold tkK sgO
   rw[List.getD,show((n:Nat):Int).toNat=n from LN n,DS hlt];rfl
  have eh:Pj ((sg.drop (n+1)).map kt)=EA (tkK sg ((n:Int)+1)):=by
   by_cases h2:n+1<sg.length
   ·rw[Gh h2,En,Pj]
    congr 1
    unfold tkK sgO
    rw[List.getD,show((n:Int)+1).toNat=n+1 by omega,DS h2];rfl
   ·rw[EG (by omega),a3N (by omega)];rfl
  rw[CR,ek,eh]
  cases hs:Ek sg (n:Int) with
  |true=>
   obtain⟨h1,h2,_⟩:=Yk hs
   rw[EM,hs,h1,h2];simp
  |false=>
   rw[EM,hs]
   have:¬(tkK sg (n:Int)==cmK&&EA (tkK sg ((n:Int)+1)))=true:=by
    intro hc
    simp only[AY,DB] at hc
    rw[c5D (by omega) hc.1 hc.2] at hs;cases hs
   rw[if_neg this]
   simp only[Bl,Br,FJ,En,List.map_nil,Bz,List.singleton_append]
   rfl
theorem a5l(sg:List Sg):(EN sg).map kt=CR (sg.map kt):=by
 have:=d1h sg.length (Bu _) (sg:=sg)
 rw[this,EG (Bu _)]
 simp [EN,CR]
theorem Zg(hu:KH L){k:Int}(h0:0≤k)(hk:k<L.length):flG L k=Bv (flG L) (Ab L k):=by
 have hlt:k.toNat<L.length:=by omega
 have e:L=(L.take k.toNat++[L[k.toNat]])++L.drop (k.toNat+1):=by
  rw[Bz,List.singleton_append,←Gh hlt,Fw]
 have hx:Ab L k=L[k.toNat]:=BR (DS hlt)
 have hl:(L.take k.toNat).length=k.toNat:=by rw[DU];omega
 have up:=MF hu h0 hk
 have sh:=GN up
 have hkid:=(CU (DE up)).2.2.2.1
 have e1:flG L k=Bv (flG (L.take k.toNat)) L[k.toNat]:=by
  have:flG L k=flG (L.take k.toNat++[L[k.toNat]]) k:=Pk ⟨_,e⟩ ⟨h0,by rw[Ba,hl];simp;omega⟩
  rw[this]
  have:k=((L.take k.toNat).length:Int):=by rw[hl];omega
  conv=>lhs;rw[show flG (L.take k.toNat++[L[k.toNat]]) k=flG (L.take k.toNat++[L[k.toNat]]) ((L.take k.toNat).length:Int) from congrArg _ this]
  exact Xf
 rw[e1,hx]
 rw[hx] at sh hkid
 refine Yj sh.2.1 fun c hc=> ?_
 have hb:=hkid c hc
 exact(Pk ⟨_,(Fw k.toNat L).symm⟩ ⟨hb.1,by rw[hl];omega⟩).symm
theorem b4w{L:List Nd}(hu:KH L):∀(n:Nat) {k:Int},k<n→0≤k→k<L.length→flG L k=FL L k
 |0,k,hn,h0,hk=>by omega
 |n+1,k,hn,h0,hk=>by
  rw[Zg hu h0 hk,UP hu h0 hk]
  have up:=MF hu h0 hk
  refine Yj (GN up).2.1 fun c hc=> ?_
  have hb:=(CU (DE up)).2.2.2.1 c hc
  exact b4w hu n (by omega) hb.1 (by omega)
theorem d1i(h:CT L=true):KH L:=(Um h).1.1
structure FlQ (t:Aa) (sg:List Sg) (L:List Nd):Prop where
 words:kwF (Vk L) sg=true
 again:(a3Q (Vk L)).length≤3000→CX (a3Q (Vk L))=some (L.map nb)
 len:(Vk L).length≤sg.length
 notes:a3I sg=a3I (Vk L)
def sgL(t:Aa):List Sg:=EN ((Cr t).getD [])
def AO(t:Aa):Ad:=(sgL t).map (·.pos)
def wtN(x y:Ad)(a:Int):Nat→Int
 |0=> -1
 |n+1=>if x.getD n 0≤a then y.getD n 0 else wtN x y a n
def wtF(s t:Aa)(a:Int):Int:=if(AO s).length=(AO t).length then wtN (AO s) (AO t) a (AO s).length else-1
theorem b4x{x y:Ad}(h:x.Pairwise (· < ·)){i:Nat}(hi:i<x.length):∀ {n:Nat},i<n→n≤x.length→wtN x y x[i] n=y.getD i 0
 |0,hn,_=>by omega
 |n+1,hn,hl=>by
  have e:x.getD n 0=x[n]'(by omega):=by rw[List.getD,DS (by omega)];rfl
  rw[wtN,e]
  by_cases hin:i=n
  ·subst hin;rw[if_pos (Em _)]
  ·have:=List.pairwise_iff_getElem.1 h i n hi (by omega) (by omega)
   rw[if_neg (by omega)]
   exact b4x h hi (by omega) (by omega)
theorem d1j{s:Aa}:(AW s).text <+: s:=by
 cases s with
 |nil=>simp [AW]
 |cons b t=>
  unfold AW;simp only
  split
  ·exact Kg _
  split
  ·exact Kg _
  split
  ·simp only
   unfold Df
   split
   ·exact List.nil_prefix
   ·exact List.take_prefix _ _
  split
  ·obtain⟨n,hn⟩:=a8s ((b::t).takeWhile Cb)
   simp only;rw[hn]
   exact(List.take_prefix _ _).trans (Kg _)
  split
  ·exact List.take_prefix _ _
  split
  ·exact List.take_prefix _ _
  ·exact List.nil_prefix
theorem d1k(h:(AW s).ok=true):s.head? =(AW s).text.head?∧(AW s).text≠[]:=by
 have h1:=(b1x h).1.1
 obtain⟨r,hr⟩:= @d1j s
 refine⟨?_,h1⟩
 conv=>lhs;rw[←hr]
 rw[List.head?_append]
 cases hx:(AW s).text with
 |nil=>exact(h1 hx).elim
 |cons a u=>rfl
def atP(t:Aa)(i:Int)(e:Sg):Prop:=(i≤e.pos∧e.pos<t.length)∧t[e.pos.toNat]? =e.text.head? ∧e.text.length≤t.length
theorem Vl{t:Aa}:∀ {n:Nat} {i br:Int} {l:List Sg},0≤i→Ey t n i br=some l→(∀e∈l,atP t i e)∧(l.map (·.pos)).Pairwise (· < ·)
 |0,i,br,l,h0,h=>by cases h
 |n+1,i,br,l,h0,h=>by
  have wk:∀ {j:Int},i≤j→((∀e∈l,atP t j e)∧(l.map (·.pos)).Pairwise (· < ·))→(∀e∈l,atP t i e)∧(l.map (·.pos)).Pairwise (· < ·):=fun hj h=>⟨fun e he=>by
   have:=h.1 e he
   exact⟨⟨by have:=this.1;omega,this.1.2⟩,this.2⟩,h.2⟩
  unfold Ey at h
  split at h
  ·simp only[AS] at h;subst h
   exact⟨fun e he=>(by cases he),List.Pairwise.nil⟩
  ·rename_i c hc
   split at h
   ·exact wk (by omega) (Vl (by omega) h)
   split at h
   ·exact wk (by omega) (Vl (by omega) h)
   split at h
   ·rename_i hok
    rw[FM] at h
    obtain⟨l',h1,rfl⟩:=h
    have hz:=a2G hok
    have ih:=Vl (by omega) h1
    have hh:=d1k hok
    have hlt:=(DT.1 hc).1
    refine⟨fun e he=> ?_,?_⟩
    ·rcases EX.1 he with rfl|he
     ·refine⟨⟨Em _,by show i<t.length;omega⟩,?_⟩
      show t[i.toNat]? =(AW (t.drop i.toNat)).text.head?∧(AW (t.drop i.toNat)).text.length≤t.length
      rw[←hh.1,List.head?_drop]
      exact⟨rfl,by have:=hz.2.2;rw[GW] at this;omega⟩
     ·have:=ih.1 e he
      exact⟨⟨by have:=this.1;omega,this.1.2⟩,this.2⟩
    ·rw[En,List.pairwise_cons]
     refine⟨fun p hp=> ?_,ih.2⟩
     obtain⟨e,he,rfl⟩:=Iu.1 hp
     have:=(ih.1 e he).1
     show i<e.pos
     omega
   ·cases h
theorem b4y{l:List Sg}:∀ {n:Nat},n≤l.length→(EM l n).Sublist (l.take n)
 |0,_=>by simp [EM]
 |n+1,h=>by
  have ih:=b4y (l:=l) (n:=n) (by omega)
  rw[EM,List.take_succ_eq_append_getElem (by omega)]
  split
  ·exact ih.trans (List.sublist_append_left _ _)
  ·have e:sgO l (n:Int)=l[n]:=by
    unfold sgO;rw[List.getD,show((n:Nat):Int).toNat=n from LN n,DS (by omega)];rfl
   rw[e]
   exact ih.append (List.Sublist.refl _)
theorem b4z{l:List Sg}:(EN l).Sublist l:=by have:=b4y (l:=l) (Bu _);rw[List.take_length] at this;exact this
structure plF (t:Aa):Prop where
 at_:∀e∈sgL t,atP t 0 e
 inc:(AO t).Pairwise (· < ·)
theorem a5m{sg:List Sg}(h:Cr t=some sg):plF t∧sgL t=EN sg:=by
 have e:sgL t=EN sg:=by rw[sgL,h];rfl
 have h2:=h
 unfold Cr at h2
 split at h2
 ·cases h2
 ·have:=Vl (Em _) h2
  refine⟨⟨fun x hx=> ?_,?_⟩,e⟩
  ·rw[e] at hx
   exact this.1 x (b4z.subset hx)
  ·rw[AO,e]
   exact this.2.sublist (b4z.map _)
structure whF (t s:Aa):Prop where
 pt:plF t
 ps:plF s
 kk:(sgL t).map kt=(sgL s).map kt
theorem d1l(h:CT L=true)(hn:L.length≤n):LX (jnA (wfR L n w bud).ls) ((flG L ((L.length:Int)-1)).map kt):=by
 obtain⟨⟨h1,h2⟩,up,_⟩:=Zd h
 have hu:=d1i h
 rw[wfR,if_pos h]
 have h3:AD ⟨[],1⟩ (Et L (wN ⟨L,w,bud⟩ n n) 0 (Ab L ((L.length:Int)-1)).kids ⟨[],1⟩) ((Ab L ((L.length:Int)-1)).kids.flatMap (FL L)):=a4N fun k hk s=>by
  have h4:=(CU (DE up)).2.2.2.1 k hk
  have h5:=a4K up h2 k hk
  exact b3E (c:=⟨L,w,bud⟩) hu hn n (k:=k) ⟨h4.1,by show k<L.length;omega⟩ (by omega) (c8H h5)
 obtain⟨ls,h4,h5⟩:=h3
 rw[h4,Zg hu (by omega) (by omega)]
 have h6:=h5 [] [] c5F
 have h7:Bv (flG L) (Ab L ((L.length:Int)-1))=(Ab L ((L.length:Int)-1)).kids.flatMap (FL L):=by
  have e:(Ab L ((L.length:Int)-1)).kind=22:=h2
  have e2:(Ab L ((L.length:Int)-1)).kids.flatMap (flG L)=(Ab L ((L.length:Int)-1)).kids.flatMap (FL L):=Yi fun k hk=>by
   have h4:=(CU (DE up)).2.2.2.1 k hk
   exact b4w hu L.length (by omega) h4.1 (by omega)
  simp only[Bv,e,Int.reduceEq,Br]
  exact e2
 rw[h7]
 simpa using h6
theorem d1m(h:CX t=some L)(hn:L.length≤n)(hl:(jnA (wfR L n w bud).ls).length≤3000):whF t (jnA (wfR L n w bud).ls):=by
 unfold CX at h
 obtain⟨sg,h1,h2⟩:=BP.1 h
 rw[FM] at h2
 obtain⟨⟨ms,L'⟩,h3,h4⟩:=h2
 simp only at h4;subst h4
 obtain⟨⟨ht,hcc⟩,he⟩:=a9t h3
 obtain⟨sg2,g1,g2⟩:=c5G (d1l (w:=w) (bud:=bud) ht hn) hl
 have p1:=a5m h1;have p2:=a5m g1
 refine⟨p1.1,p2.1,?_⟩
 rw[p1.2,p2.2,a5l,a5l,g2,←he,b4v hcc]
theorem d1n(h:whF t s):(AO t).length=(AO s).length:=by
 have:=congrArg List.length h.kk
 simpa [AO] using this
theorem b4A(h:(AO t)[i]? =some p):∃e,(sgL t)[i]? =some e∧e.pos=p:=by
 unfold AO at h
 rw[LR,FM] at h
 exact h
theorem d1o(h:whF t s){q:Int}(hp:(AO t)[i]? =some p)(hq:(AO s)[i]? =some q):((0≤p∧p<t.length)∧0≤q∧q<s.length)∧t[p.toNat]? =s[q.toNat]? :=by
 obtain⟨e,h1,rfl⟩:=b4A hp
 obtain⟨f,h2,rfl⟩:=b4A hq
 have a:=h.pt.at_ e (Bq h1);have b:=h.ps.at_ f (Bq h2)
 have k:=congrArg (·[i]?) h.kk
 simp only[LR,h1,h2,Kj,AS] at k
 refine⟨⟨a.1,b.1⟩,?_⟩
 rw[a.2.1,b.2.1,show e.text=f.text from congrArg Prod.snd k]
theorem d1p(h:whF t s)(hp:(AO t)[i]? =some p):(AO s)[i]? =some (wtF t s p):=by
 obtain⟨hi,e⟩:=DT.1 hp
 have hl:=d1n h
 rw[wtF,if_pos hl,←e,b4x h.pt.inc hi hi (Bu _),List.getD,DS (by omega)];rfl
def nB(t:Aa):Prop:=∃b∈t,b.toNat≠32∧b.toNat≠10
theorem a5n{t:Aa}:∀ {n:Nat} {i br:Int},0≤i→Ey t n i br=some []→∀j:Nat,i≤j→∀b,t[j]? =some b→b.toNat=32∨b.toNat=10
 |0,i,br,h0,h,j,hj,b,hb=>by cases h
 |n+1,i,br,h0,h,j,hj,b,hb=>by
  unfold Ey at h
  split at h
  ·rename_i hc
   have:=List.getElem?_eq_none_iff.1 hc
   rw[Gi (by omega)] at hb;cases hb
  ·rename_i c hc
   have nx:c.toNat=32∨c.toNat=10→(∀j:Nat,i+1≤j→∀b,t[j]? =some b→b.toNat=32∨b.toNat=10)→b.toNat=32∨b.toNat=10:=fun h1 h2=>by
    by_cases e:(j:Int)=i
    ·have:i.toNat=j:=by omega
     rw[this,hb] at hc;cases hc;exact h1
    ·exact h2 j (by omega) b hb
   split at h
   ·rename_i h32
    exact nx (.inl h32) (a5n (by omega) h)
   split at h
   ·rename_i h10
    exact nx (.inr h10) (a5n (by omega) h)
   split at h
   ·rw[FM] at h
    obtain⟨l',_,h2⟩:=h
    cases h2
   ·cases h
theorem b4B:∀ {u:List KT},u≠[]→CR u≠[]
 |[],h=>(h rfl).elim
 |[x],_=>by rw[Xb];simp
 |x::y::l,_=>by
  rw[CR]
  split
  ·exact b4B (by simp)
  ·simp
theorem d1q(h:(CX t).isSome=true)(hb:nB t):0<(AO t).length:=by
 obtain⟨L,hL⟩:=Option.isSome_iff_exists.1 h
 unfold CX at hL
 obtain⟨sg,h1,h2⟩:=BP.1 hL
 have h3:=(a5m h1).2
 have h4:sg≠[]:=fun e=>by
  subst e
  obtain⟨b,hm,h5,h6⟩:=hb
  obtain⟨j,hj⟩:=List.mem_iff_getElem?.1 hm
  unfold Cr at h1
  split at h1
  ·cases h1
  ·have:=a5n (Em _) h1 j (by omega) b hj
   omega
 have h5:CR (sg.map kt)≠[]:=b4B (by simpa using h4)
 rw[←a5l] at h5
 rw[AO,h3,Fv]
 exact Tg.2 fun e=>h5 (by rw[e];rfl)
theorem a5o{m:Aa}{c:Int}(he:e∈f c):∀ {l:Ad},c∈l→e∈BH f m l
 |[],hc=>by cases hc
 |d::l,hc=>by
  rw[BH,FK]
  rcases EX.1 hc with rfl|hc
  ·exact .inl he
  ·exact .inr (Th.2 ⟨c,hc,by simp [he]⟩)
theorem d1r{p:Prop}[Decidable p]{a b:List Sg}(h:p→e∈a)(h':¬p→e∈b):e∈if p then a else b:=by
 split
 ·exact h ‹_›
 ·exact h' ‹_›
theorem d1s{x:Nd}(h:(Ci x.kind).1≤x.kids.length∧x.kids.length≤(Ci x.kind).2){c:Int}(hc:c∈x.kids)(he:e∈f c):e∈Bv f x:=by
 obtain⟨i,hi,rfl⟩:=List.mem_iff_getElem.1 hc
 have hk:x.kids[i]=kd x i:=(Dw (DS hi)).symm
 have hb:((x.kind=6∨x.kind=11→x.kids.length=1)∧(x.kind=8→x.kids.length=3))∧(x.kind=16→x.kids.length≤3)∧(x.kind=17→x.kids.length=2)∧(x.kind=1∨x.kind=2∨x.kind=3∨x.kind=19→x.kids.length=0):=by
  unfold Ci at h
  (repeat' split at h)<;>dsimp only at h<;>omega
 have hs:∀m,e∈BH f m x.kids:=fun m=>a5o he hc
 have hf:e∈x.kids.flatMap f:=Th.2 ⟨_,hc,he⟩
 have hd:e∈f (kd x 0)∨e∈BH f [44] (x.kids.drop 1):=by
  by_cases h0:i=0
  ·subst h0;rw[hk] at he;exact .inl he
  ·exact .inr (a5o he (List.mem_iff_getElem.2 ⟨i-1,by rw[GW];omega,by rw[List.getElem_drop];congr 1;omega⟩))
 have ht:e∈BH f [44] (x.kids.take (x.kids.length-1))∨e∈f (kd x (x.kids.length-1)):=by
  by_cases h0:i=x.kids.length-1
  ·rw[hk,h0] at he;exact .inr he
  ·exact .inl (a5o he (List.mem_iff_getElem.2 ⟨i,by rw[DU];omega,by rw[List.getElem_take]⟩))
 have h3:∀j,i=j→e∈f (kd x j):=fun j hj=>by subst hj;rw[hk] at he;exact he
 unfold Bv
 repeat' (apply d1r<;>intro _)
 all_goals first
  |(exfalso;omega)
  |exact hf
  |exact hs _
  |(simp only[FK];simp [hs,hf];done)
  |(rcases hd with hd|hd<;>simp only[FK,hd,true_or,or_true];done)
  |(rcases ht with ht|ht<;>simp [ht];done)
  |(simp [h3 0 (by omega)];done)
  |(have e0:i=0∨i=1∨i=2:=by omega
    rcases e0 with e0|e0|e0<;>first|(simp [h3 _ e0];done)|(simp [h3 _ e0,show x.kids.length=3 by omega];done)|(exfalso;omega))
theorem d1t{ns:List Nd}{k:Int}(h:BB ns k):(Ab ns k).text.length≤2∨∃e∈Bv f (Ab ns k),e.text=(Ab ns k).text:=by
 have ht:=YI h
 generalize Ab ns k=x at ht ⊢
 by_cases h1:x.kind=1∨x.kind=2∨x.kind=3∨x.kind=6∨x.kind=12∨x.kind=13∨x.kind=19∨x.kind=20∨x.kind=21
 ·right
  rcases h1 with e|e|e|e|e|e|e|e|e<;>first|(simp [Bv,e,wdS,sg0];done)|exact⟨wdS x.text,by simp [Bv,e],rfl⟩
 ·left
  unfold Fz at ht
  rw[if_neg (by omega),if_neg (by omega),if_neg (by omega),if_neg (by omega)] at ht
  split at ht
  ·simp only[HV,CG,DB] at ht
   rcases ht with e|e|e|e|e|e|e<;>rw[e]<;>simp
  ·rw[DB] at ht;rw[ht];simp
theorem b4C{ns:List Nd}(h:CT ns=true):∀(d:Nat) {k:Int},(0≤k∧k<ns.length)→((ns.length:Int)-1-k).toNat≤d→∀e∈flG ns k,e∈flG ns ((ns.length:Int)-1)
 |0,k,hk,hd,e,he=>by rw[show k=(ns.length:Int)-1 by omega] at he;exact he
 |d+1,k,hk,hd,e,he=>by
  obtain⟨h1,h2,h3,h4⟩:=Um h
  by_cases ek:k=(ns.length:Int)-1
  ·rw[ek] at he;exact he
  ·have hc:=h1.2 k.toNat (by omega)
   rw[show((k.toNat:Nat):Int)=k by omega] at hc
   have hm:k∈Dn ns:=List.count_pos_iff.1 (by omega)
   simp only[Dn,Th] at hm
   obtain⟨x,hx,hkx⟩:=hm
   obtain⟨i,hi,rfl⟩:=List.mem_iff_getElem.1 hx
   have e2:Ab ns (i:Int)=ns[i]:=BR (by simp)
   rw[←e2] at hkx
   have hj:=MF h1.1 (k:=(i:Int)) (by omega) (by omega)
   have h5:=(CU (DE hj)).2.2.2.1 k hkx
   refine b4C h d (k:=(i:Int)) (by omega) (by omega) e ?_
   rw[Zg h1.1 (by omega) (by omega)]
   exact d1s (GN hj).2 hkx he
theorem d1u(h:CT L=true)(ht:∀e∈flG L ((L.length:Int)-1),e.text.length≤3000):txS L≤3000*L.length:=by
 have h1:=Um h
 have key:∀q:Nat,q≤L.length→((List.range q).map fun i:Nat=>(Ab L i).text.length).sum≤3000*q:=by
  intro q hq
  induction q with
  |zero=>simp
  |succ q ih=>
   have ih:=ih (by omega)
   have up:=MF h1.1.1 (k:=(q:Int)) (by omega) (by omega)
   have h2:(Ab L (q:Int)).text.length≤3000:=by
    rcases d1t (f:=flG L) up with h3|⟨e,he,h3⟩
    ·omega
    ·rw[←h3]
     rw[←Zg h1.1.1 (by omega) (by omega)] at he
     exact ht e (b4C h _ (by omega) (Bu _) e he)
   rw[List.range_succ,FJ,Qx];simp;omega
 exact key _ (Bu _)
theorem d1v(h:CX t=some L):CT L=true∧∀e∈flG L ((L.length:Int)-1),e.text.length≤3000:=by
 unfold CX at h
 obtain⟨sg,h1,h2⟩:=BP.1 h
 rw[FM] at h2
 obtain⟨⟨ms,L'⟩,h3,h4⟩:=h2
 simp only at h4;subst h4
 obtain⟨⟨ht,_⟩,he⟩:=a9t h3
 refine⟨ht,fun e hm=> ?_⟩
 have h5:kt e∈CR (sg.map kt):=by rw[he];exact List.mem_map_of_mem hm
 obtain⟨g,hg,hge⟩:=Iu.1 (a5k h5)
 have e2:g.text=e.text:=congrArg Prod.snd hge
 have h6:=h1
 unfold Cr at h6
 split at h6
 ·cases h6
 ·have h7:=((Vl (Em _) h6).1 g hg).2.2
  rw[←e2];omega
theorem b4D{ls:List Aa}:(jnA ls).length=lnS ls+ls.length:=by
 induction ls with
 |nil=>rfl
 |cons s l ih=>
  have e:jnA (s::l)=s++[10]++jnA l:=by simp [jnA]
  have e2:lnS (s::l)=s.length+lnS l:=by simp [lnS]
  rw[e,Ba,ih,e2];simp;omega
structure rdL (t:Aa) (n:Nat) (L:List Nd):Prop where
 rd:CX t=some L
 tr:trN L n
theorem d1w(hn:300≤n)(hs:(CX t).isSome=true)(h:L=(CX t).getD []∧Ew L):rdL t n L:=by
 obtain⟨M,hM⟩:=Option.isSome_iff_exists.1 hs
 have e:L=M:=by rw[h.1,hM];rfl
 subst e
 have h1:=d1v hM
 have hl:=(Um h1.1).2.2.1
 have h2:=d1u h1.1 h1.2
 exact⟨hM,h.2,by omega,by omega,by omega⟩
theorem a5p(h:trN L n):lnS (wfR L n w bud).ls≤5000000∧(wfR L n w bud).ls.length≤2^41:=by
 have h1:=d1d (w:=w) (bud:=bud) h
 have h2:=h.tx
 refine⟨by omega,?_⟩
 cases ht:CT L with
 |false=>rw[a5h ht];simp
 |true=>
  have h3:=a5i (w:=w) (bud:=bud) h ht
  have h4:=Vg (s:=⟨[],1⟩) (fun h=>On h) h3.v
  have h5:=h3.rm
  rw[wfR,if_pos ht]
  dsimp only[List.length_nil] at h4 h5
  omega
end Go.My
end
section
namespace Go.My
open Go.Eng Go.Proofs
variable {G:GInv}
variable {i:Int}{v:Nat}{y:Aa}
def byA:UInt8→List AV:=fun c=>[.int .u8 c.toNat]
theorem EU(c:UInt8):byA c=[.int .u8 c.toNat]:=rfl
def byL(l:Aa):AV:= .sl false 0 1 UInt8 byA l
def cur(b:Aa)(i h:Int):List AV:=[.sl false 0 1 UInt8 byA b,.int .i64 i,.int .i64 h]
def Ah(b:Aa)(i:Int):Prop:=(0≤i∧i≤b.length)∧b.length≤2^21
theorem a5q{n:Int}(h1: -9223372036854775808≤n)(h2:n≤9223372036854775807):IntKind.i64.wrap n=n:=VV ⟨by simp [IntKind.min,IntKind.bits,IntKind.signed];omega,by simp [IntKind.max,IntKind.bits,IntKind.signed];omega⟩
theorem b4E(a:Int):0≤Fj .and .i64 a 255∧Fj .and .i64 a 255≤255:=by
 unfold Fj
 have h:(BitVec.ofInt IntKind.i64.bits a&&& BitVec.ofInt IntKind.i64.bits 255).toNat≤255:=by
  rw[BitVec.toNat_and]
  exact Jt Nat.and_le_right (by decide)
 simp only
 rw[a5q (by omega) (by omega)]
 omega
theorem a5r(a:Int):0≤Fj .and .i64 a 1073741823∧Fj .and .i64 a 1073741823≤1073741823:=by
 unfold Fj
 have h:(BitVec.ofInt IntKind.i64.bits a&&& BitVec.ofInt IntKind.i64.bits 1073741823).toNat≤1073741823:=by
  rw[BitVec.toNat_and]
  exact Jt Nat.and_le_right (by decide)
 simp only
 rw[a5q (by omega) (by omega)]
 omega
theorem a5s{a n:Int}(h0:0≤a)(hn:0<n):0≤a.tmod n∧a.tmod n<n:=⟨Int.tmod_nonneg n h0,Int.tmod_lt_of_pos a hn⟩
def Ir:Sig:=⟨Aa×Int×Int,fun x=>[.box 0 (cur x.1 x.2.1 x.2.2)],fun x=>Ah x.1 x.2.1,Int×Int×Int,fun x y=>(0≤y.1∧y.1≤255)∧Ah x.1 y.2.1,fun x y=> .q y.1,fun x y=>[.box 0 (cur x.1 y.2.1 y.2.2)],true,[],[]⟩
theorem b4F:CtG G 41 Ir:=
 vFqt [] [] (fun x=>[]) Tryz.func41 trivial (fun x=>True∧true=true∧true=true∧(0:Int)≤(33:Int)∧(0:Int)≤(45:Int)∧true=true∧true=true∧Ae (decide (x.2.1<(nL x.1))) (true=true∧true=true∧(0≤x.2.1∧x.2.1<(nL x.1))∧∀(e:UInt8),x.1[Int.toNat x.2.1]? =some e→rA Ir x [.q (Fj BinOp.and IntKind.i64 (IntKind.wrap IntKind.i64 (Fj BinOp.and IntKind.i64 (Fj BinOp.xor IntKind.i64 (shI false IntKind.i64 (IntKind.wrap IntKind.i64 (IntKind.wrap IntKind.i64 (x.2.2*(6364136223846793005:Int))+1442695040888963407)) (33:Int)) (shI false IntKind.i64 (IntKind.wrap IntKind.i64 (IntKind.wrap IntKind.i64 (x.2.2*(6364136223846793005:Int))+1442695040888963407)) (45:Int))) (255:Int)+IntKind.wrap IntKind.i64 (↑(UInt8.toNat e):Int))) (255:Int)),.box 0 [byL x.1,.q (IntKind.wrap IntKind.i64 (x.2.1+(1:Int))),.q (IntKind.wrap IntKind.i64 (IntKind.wrap IntKind.i64 (x.2.2*(6364136223846793005:Int))+1442695040888963407))]]) (rA Ir x [.q (Fj BinOp.and IntKind.i64 (Fj BinOp.xor IntKind.i64 (shI false IntKind.i64 (IntKind.wrap IntKind.i64 (IntKind.wrap IntKind.i64 (x.2.2*(6364136223846793005:Int))+1442695040888963407)) (33:Int)) (shI false IntKind.i64 (IntKind.wrap IntKind.i64 (IntKind.wrap IntKind.i64 (x.2.2*(6364136223846793005:Int))+1442695040888963407)) (45:Int))) (255:Int)),.box 0 [byL x.1,.q x.2.1,.q (IntKind.wrap IntKind.i64 (IntKind.wrap IntKind.i64 (x.2.2*(6364136223846793005:Int))+1442695040888963407))]])) (by kernel_rfl) fun(x:Aa×Int×Int) (hx:Ah x.1 x.2.1)=>(by
 dsimp only[nL,EU,byL,cur,rA,Ir,AB,AF,AV.q]
 obtain⟨b,i,h⟩:=x;dsimp only at hx ⊢
 have hx:Ah b i:=hx
 have hb:=hx.1;have hl:=hx.2
 (repeat' first|(with_reducible first|rfl|exact⟨⟩|apply AG|apply AM)|apply AL|(apply AK<;>try dsimp only)|apply AJ|((try refine AH.2 ?_);intro _;try dsimp only))
 all_goals first
  |rfl
  |omega
  |exact(b4E _).1
  |exact(b4E _).2
  |exact hx
  |(rw[a5q (by omega) (by omega)];exact⟨by omega,hl⟩)
  |skip)
def DA:Sig:=⟨Aa×Int×Int×Int,fun x=>[.box 0 (cur x.1 x.2.1 x.2.2.1),.q x.2.2.2],fun x=>Ah x.1 x.2.1,Int×Int×Int,fun x y=>((0<x.2.2.2→0≤y.1∧y.1<x.2.2.2)∧(x.2.2.2≤0→y.1=0))∧Ah x.1 y.2.1,fun x y=> .q y.1,fun x y=>[.box 0 (cur x.1 y.2.1 y.2.2),.top],true,[],[]⟩
theorem Jm:CtG G 27 DA:=
 vFq [(41,0,Ir)] [] (fun x=>[]) Tryz.func27 ⟨b4F,trivial⟩ (fun x=>True∧Ae (decide (x.2.2.2≤(0:Int))) (rA DA x [.q 0,.box 0 (cur x.1 x.2.1 x.2.2.1),.top]) (Ae (decide (x.2.2.2≤(256:Int))) (cA Ir [.box 0 (cur x.1 x.2.1 x.2.2.1)] fun x_1 y=>x.2.2.2≠(0:Int)∧rA DA x [.q (Int.tmod y.1 x.2.2.2),.box 0 (cur x_1.1 y.2.1 y.2.2),.top]) (cA Ir [.box 0 (cur x.1 x.2.1 x.2.2.1)] fun x_1 y=>cA Ir [.box 0 (cur x_1.1 y.2.1 y.2.2)] fun x_2 y_1=>cA Ir [.box 0 (cur x_2.1 y_1.2.1 y_1.2.2)] fun x_3 y_2=>cA Ir [.box 0 (cur x_3.1 y_2.2.1 y_2.2.2)] fun x_4 y_3=>inR .i64 (y.1*(16777216:Int))∧inR .i64 (y_1.1*(65536:Int))∧inR .i64 (y.1*(16777216:Int)+y_1.1*(65536:Int))∧inR .i64 (y_2.1*(256:Int))∧inR .i64 (y.1*(16777216:Int)+y_1.1*(65536:Int)+y_2.1*(256:Int))∧inR .i64 (y.1*(16777216:Int)+y_1.1*(65536:Int)+y_2.1*(256:Int)+y_3.1)∧x.2.2.2≠(0:Int)∧rA DA x [.q (Int.tmod (y.1*(16777216:Int)+y_1.1*(65536:Int)+y_2.1*(256:Int)+y_3.1) x.2.2.2),.box 0 (cur x_4.1 y_3.2.1 y_3.2.2),.top]))) (by kernel_rfl) fun(x:Aa×Int×Int×Int) (hx:Ah x.1 x.2.1)=>(by
 dsimp only[EU,cA,cur,rA,DA,Ir,AB,AF,mvL,lnL,mvE,lnE,AV.q]
 obtain⟨b,i,h,n⟩:=x;dsimp only at hx ⊢
 have hx:Ah b i:=hx
 (repeat' first|(with_reducible first|rfl|exact⟨⟩|apply AG|apply AM)|apply AL|(apply AK<;>try dsimp only)|apply AJ|((try refine AH.2 ?_);intro _;try dsimp only))
 all_goals(repeat(rename(_∧_)∧Ah _ _=>hq;obtain⟨⟨_,_⟩,_⟩:=hq))
 all_goals first
  |rfl
  |assumption
  |omega
  |exact(a5s (by omega) (by omega)).1
  |exact(a5s (by omega) (by omega)).2
  |skip)
def PU:Sig:=⟨Aa×Int×Int×Int,fun x=>[.box 0 (cur x.1 x.2.1 x.2.2.1),.q x.2.2.2],fun x=>Ah x.1 x.2.1,Bool×Int×Int,fun x y=>Ah x.1 y.2.1,fun x y=> .bool y.1,fun x y=>[.box 0 (cur x.1 y.2.1 y.2.2),.top],true,[],[]⟩
theorem Zh:CtG G 29 PU:=
 vFq [(27,0,DA)] [] (fun x=>[]) Tryz.func29 ⟨Jm,trivial⟩ (fun x=>True∧cA DA [.box 0 (cur x.1 x.2.1 x.2.2.1),.q x.2.2.2] fun x_1 y=>rA PU x [.bool (y.1==(0:Int)),.box 0 (cur x_1.1 y.2.1 y.2.2),.top]) (by kernel_rfl) fun(x:Aa×Int×Int×Int) (hx:Ah x.1 x.2.1)=>(by
 dsimp only[EU,cA,cur,rA,DA,PU,AB,AF,mvL,lnL,mvE,lnE,AV.q]
 obtain⟨b,i,h,n⟩:=x;dsimp only at hx ⊢
 have hx:Ah b i:=hx
 (repeat' first|(with_reducible first|rfl|exact⟨⟩|apply AG|apply AM)|apply AL|(apply AK<;>try dsimp only)|apply AJ|((try refine AH.2 ?_);intro _;try dsimp only))
 all_goals(repeat(rename(_∧_)∧Ah _ _=>hq;obtain⟨⟨_,_⟩,_⟩:=hq))
 all_goals first
  |rfl
  |assumption
  |skip)
def PV:Sig:=⟨Aa×Int×Int×List Aa,fun x=>[.box 0 (cur x.1 x.2.1 x.2.2.1),.sl false 0 1 Aa Bo x.2.2.2],fun x=>Ah x.1 x.2.1∧x.2.2.2≠[]∧x.2.2.2.length<2^30,Aa×Int×Int,fun x y=>y.1∈x.2.2.2∧Ah x.1 y.2.1,fun x y=> .str y.1,fun x y=>[.box 0 (cur x.1 y.2.1 y.2.2),.top],true,[],[]⟩
theorem Zi:CtG G 45 PV:=
 vFq [(27,0,DA)] [] (fun x=>[]) Tryz.func45 ⟨Jm,trivial⟩ (fun x=>True∧cA DA [.box 0 (cur x.1 x.2.1 x.2.2.1),.q (nL x.2.2.2)] fun x_1 y=>(0≤y.1∧y.1<(nL x.2.2.2))∧∀(e:Aa),x.2.2.2[Int.toNat y.1]? =some e→rA PV x [.str e,.box 0 (cur x_1.1 y.2.1 y.2.2),.top]) (by kernel_rfl) fun(x:Aa×Int×Int×List Aa) (hx:Ah x.1 x.2.1∧x.2.2.2≠[]∧x.2.2.2.length<2^30)=>(by
 dsimp only[nL,EU,cA,cur,rA,DA,PV,AB,AF,mvL,lnL,mvE,lnE,AV.q]
 obtain⟨b,i,h,l⟩:=x;dsimp only at hx ⊢
 obtain⟨hx,hn,hl⟩:=hx
 have hp:0<l.length:=by cases l with|nil=>exact(hn rfl).elim|cons _ _=>simp
 (repeat' first|(with_reducible first|rfl|exact⟨⟩|apply AG|apply AM)|apply AL|(apply AK<;>try dsimp only)|apply AJ|((try refine AH.2 ?_);intro _;try dsimp only))
 all_goals(repeat(rename(_∧_)∧Ah _ _=>hq;obtain⟨⟨_,_⟩,_⟩:=hq))
 all_goals first
  |rfl
  |assumption
  |exact Bq ‹_›
  |omega
  |skip)
structure Md where
 cv:Value
 b:Aa
 i:Int
 h:Int
 t:Aa
def mad(m:Md):AV:= .box 0 [.bv m.cv (cur m.b m.i m.h),.str m.t]
def GD(m:Md)(i h:Int)(t:Aa):AV:= .box 0 [.bv m.cv (cur m.b i h),.str t]
def mdP(m:Md):Prop:=Ah m.b m.i
theorem Zj{p q:Md→Prop}(a:Value)(b:Aa)(c d:Int)(e:Aa)(h2:q ⟨a,b,c,d,e⟩)(h1:p ⟨a,b,c,d,e⟩):∃x,p x∧q x:=⟨_,h1,h2⟩
theorem Zk{T:Type}{p q:Md×T→Prop}(a:Value)(b:Aa)(c d:Int)(e:Aa)(v:T)(h2:q (⟨a,b,c,d,e⟩,v))(h1:p (⟨a,b,c,d,e⟩,v)):∃x,p x∧q x:=⟨_,h1,h2⟩
def vB:Nat→Nat
 |0=>200
 |1=>200
 |n+2=>4*vB (n+1)
theorem b4G:∀n,n≤4→200≤vB n∧vB n≤12800
 |0,_=>by simp [vB]
 |1,_=>by simp [vB]
 |2,_=>by simp [vB]
 |3,_=>by simp [vB]
 |4,_=>by simp [vB]
theorem d1x:∀n:Nat,(n=0∧vB (n+1)=200)∨(1≤n∧vB (n+1)=4*vB n)
 |0=> .inl ⟨rfl,rfl⟩
 |n+1=> .inr ⟨by omega,rfl⟩
def sB:Nat→Nat
 |0=>0
 |1=>39000
 |n+2=>7*sB (n+1)
theorem d1y:∀n,n≤3→sB n≤1911000
 |0,_=>by simp [sB]
 |1,_=>by simp [sB]
 |2,_=>by simp [sB]
 |3,_=>by simp [sB]
theorem b4H:∀n:Nat,(n=0∧sB n=0∧sB (n+1)=39000)∨(1≤n∧39000≤sB n∧sB (n+1)=7*sB n)
 |0=> .inl ⟨rfl,rfl,rfl⟩
 |1=> .inr ⟨by omega,by simp [sB],rfl⟩
 |n+2=> .inr ⟨by omega,by have:=b4H (n+1);simp only[sB];omega,rfl⟩
theorem Zl{l:List Aa}{n:Nat}(h:y∈l)(hl:l.all (fun s=>decide (s.length≤n))=true):y.length≤n:=by
 rw[CC] at hl
 exact of_decide_eq_true (hl y h)
def Cd:Sig:=⟨Md,fun x=>[mad x],fun x=>mdP x,Aa×Int×Int,fun x y=>y.1.length≤23∧Ah x.b y.2.1,fun x y=> .str y.1,fun x y=>[GD x y.2.1 y.2.2 x.t],true,[],[]⟩
theorem a5t:CtG G 44 Cd:=
 vFq [(45,0,PV)] [(44,⟨Aa,Bo⟩)] (fun x=>[]) Tryz.func44 ⟨Zi,trivial⟩ (fun(x:Md)=>True∧∃(x_1:Aa),#[(97:UInt8)].toList=x_1∧∃(x_2:Aa),#[(98:UInt8)].toList=x_2∧∃(x_3:Aa),#[(118:UInt8),97,108,117,101].toList=x_3∧∃(x_4:Aa),#[(116:UInt8),111,116,97,108].toList=x_4∧∃(x_5:Aa),#[(115:UInt8),111,109,101,76,111,110,103,101,114,78,97,109,101].toList=x_5∧∃(x_6:Aa),#[(120:UInt8),49].toList=x_6∧∃(x_7:Aa),#[(116:UInt8),104,101,86,101,114,121,76,111,110,103,101,115,116,78,97,109,101,79,102,65,108,108].toList=x_7∧∃(x_8:Aa×Int×Int×List Aa),(Ah x_8.1 x_8.2.1∧x_8.2.2.2≠[]∧x_8.2.2.2.length<(1073741824:Nat))∧x.cv=x.cv∧byL x.b=byL x_8.1∧x.i=x_8.2.1∧x.h=x_8.2.2.1∧AV.sl false 0 1 Aa (fun(x:Aa)=>fzL (Bo x)) [x_1,x_2,x_3,x_4,x_5,x_6,x_7]=AV.sl false 0 1 Aa Bo x_8.2.2.2∧∀(y:Aa×Int×Int),y.1∈x_8.2.2.2∧Ah x_8.1 y.2.1→x.cv=x.cv∧rA Cd x [.str y.1,.box 0 [AV.bv x.cv (cur x_8.1 y.2.1 y.2.2),.str x.t]]) (by kernel_rfl) fun(x:Md) (hx:mdP x)=>(by
 dsimp only[EU,byL,cur,mad,GD,rA,Cd,AB,AF]
 obtain⟨cv,b,i,h,t⟩:=x;dsimp only at hx ⊢
 have hx:Ah b i:=hx
 (repeat' first|(with_reducible first|rfl|exact⟨⟩|apply AG|apply AM)|apply AL|(apply AK<;>try dsimp only)|apply AJ|((try refine AH.2 ?_);intro _;try dsimp only))
 all_goals first
  |rfl
  |exact hx
  |(simp;done)
  |(rename _=[]=>hq;cases hq;done)
  |exact Zl (And.left ‹_›) (by decide)
  |exact And.right ‹_∈_∧Ah _ _›
  |skip)
def Du(n:Nat):Sig:=⟨Md×Int,fun x=>[mad x.1,.int .i64 x.2],fun x=>(mdP x.1∧n≤4)∧x.2<n∧0≤x.2,Aa×Int×Int,fun x y=>y.1.length≤vB n∧Ah x.1.b y.2.1,fun x y=> .str y.1,fun x y=>[GD x.1 y.2.1 y.2.2 x.1.t,.top],true,[],[]⟩
def liB(v:Nat)(i:Int)(l:Nat):Prop:=(i=0∧l=0)∨(i=1∧l≤v)∨(i=2∧l≤2*v+2)∨(i=3∧l≤3*v+4)
theorem d1z:liB v 0 ([]:Aa).length:= .inl ⟨rfl,rfl⟩
theorem d1A{l:Nat}(h:liB v i l):(0≤i∧i≤3)∧l≤3*v+4:=by unfold liB at h;omega
theorem d1B{b:Aa}{m c e:Int}{s:Aa}(h:(liB v i s.length∧m≤3)∧Ah b c)(hm:i<m)(hi:¬i>0)(hy:y.length≤v∧Ah b e):liB v (i+1) (s++y).length:=by obtain⟨⟨h,_⟩,_⟩:=h;obtain⟨hy,_⟩:=hy;unfold liB at h ⊢;rw[Ba];omega
theorem d1C{b:Aa}{m c e:Int}{s:Aa}(h:(liB v i s.length∧m≤3)∧Ah b c)(hm:i<m)(hp:i>0)(hy:y.length≤v∧Ah b e):liB v (i+1) (s++[44,32]++y).length:=by obtain⟨⟨h,_⟩,_⟩:=h;obtain⟨hy,_⟩:=hy;unfold liB at h ⊢;simp only[Ba,AE,AX];omega
def lmL(n:Nat)(x:Md×Int):LS:=⟨Int×Int×Int×Int×Aa,fun i=>(liB (vB n) i.1 i.2.2.2.2.length∧i.2.2.2.1≤3)∧Ah x.1.b i.2.1,fun i=>[(0,GD x.1 i.2.1 i.2.2.1 x.1.t),(1,.int .i64 x.2),(5,.str i.2.2.2.2),(6,.int .i64 i.2.2.2.1),(7,.int .i64 i.1)],[],fun i=>4-i.1.toNat,fun _=>[],[]⟩
def KS(n:Nat):Sig:=⟨Md×Int,fun x=>[mad x.1,.q x.2],fun x=>(mdP x.1∧n≤4)∧x.2≤n∧1≤x.2,Aa×Int×Int,fun x y=>y.1.length≤3*vB n+7∧Ah x.1.b y.2.1,fun x y=> .str y.1,fun x y=>[GD x.1 y.2.1 y.2.2 x.1.t,.top],true,[],[]⟩
theorem d1D(n:Nat)(hc:CtG G 75 (Du n)):CtG G 92 (KS n):=
 vFq [(27,0,DA),(75,0,(Du n)),(29,0,PU)] [] (fun x=>[(4,lmL n x)]) Tryz.func92 ⟨Jm,hc,Zh,trivial⟩ (fun x=>True∧∃(x_1:Aa×Int×Int×Int),Ah x_1.1 x_1.2.1∧x.1.cv=x.1.cv∧byL x.1.b=byL x_1.1∧x.1.i=x_1.2.1∧x.1.h=x_1.2.2.1∧4=x_1.2.2.2∧∀(y:Int×Int×Int),((0<x_1.2.2.2→0≤y.1∧y.1<x_1.2.2.2)∧(x_1.2.2.2≤(0:Int)→y.1=(0:Int)))∧Ah x_1.1 y.2.1→x.1.cv=x.1.cv∧eA (lmL n x) [.box 0 [AV.bv x.1.cv (cur x_1.1 y.2.1 y.2.2),.str x.1.t],.q x.2,.str #[].toList,.q y.1,.q 0]∧∀(i:Int×Int×Int×Int×Aa),(liB (vB n) i.1 ((Z4 i).length)∧i.2.2.2.1≤(3:Int))∧Ah x.1.b i.2.1→Ae (decide (i.1<i.2.2.2.1)) (Ae (decide (i.1>(0:Int))) ((↑((Z4 i).length+(2:Nat)):Int)≤Aq∧inR .i64 (x.2-(1:Int))∧cA (Du n) [.box 0 [AV.bv x.1.cv (cur x.1.b i.2.1 i.2.2.1),.str x.1.t],.q (x.2-(1:Int))] fun x_2 y=>(↑(((Z4 i)++ #[(44:UInt8),32].toList).length+y.1.length):Int)≤Aq∧inR .i64 (i.1+(1:Int))∧eN (lmL n x) i [.box 0 [AV.bv x_2.1.cv (cur x_2.1.b y.2.1 y.2.2),.str x_2.1.t],.q x.2,.str ((Z4 i)++ #[(44:UInt8),32].toList++y.1),.q i.2.2.2.1,.q (i.1+(1:Int))]) (inR .i64 (x.2-(1:Int))∧cA (Du n) [.box 0 [AV.bv x.1.cv (cur x.1.b i.2.1 i.2.2.1),.str x.1.t],.q (x.2-(1:Int))] fun x_2 y=>((Z4 i).length+y.1.length:Int)≤Aq∧inR .i64 (i.1+(1:Int))∧eN (lmL n x) i [.box 0 [AV.bv x_2.1.cv (cur x_2.1.b y.2.1 y.2.2),.str x_2.1.t],.q x.2,.str ((Z4 i)++y.1),.q i.2.2.2.1,.q (i.1+(1:Int))])) (Ae (decide (i.2.2.2.1>(0:Int))) (∃(x_2:Aa×Int×Int×Int),Ah x_2.1 x_2.2.1∧x.1.cv=x.1.cv∧byL x.1.b=byL x_2.1∧i.2.1=x_2.2.1∧i.2.2.1=x_2.2.2.1∧5=x_2.2.2.2∧∀(y:Bool×Int×Int),Ah x_2.1 y.2.1→x.1.cv=x.1.cv∧Ae y.1 ((↑((Z4 i).length+(1:Nat)):Int)≤Aq∧rA (KS n) x [.str ((Z4 i)++ #[(44:UInt8)].toList),.box 0 [AV.bv x.1.cv (cur x_2.1 y.2.1 y.2.2),.str x.1.t],.top]) (rA (KS n) x [.str (Z4 i),.box 0 [AV.bv x.1.cv (cur x_2.1 y.2.1 y.2.2),.str x.1.t],.top])) (rA (KS n) x [.str (Z4 i),.box 0 [AV.bv x.1.cv (cur x.1.b i.2.1 i.2.2.1),.str x.1.t],.top]))) (by kernel_rfl) fun(x:Md×Int) (hx:(mdP x.1∧n≤4)∧x.2≤n∧1≤x.2)=>(by
 dsimp only[Z4,EU,byL,cA,cur,eA,eN,lmL,mad,GD,rA,KS,Du,AB,AF,mvL,lnL,mvE,lnE,Bn,Aq,AV.q]
 obtain⟨⟨cv,b,i,h,t⟩,d⟩:=x;dsimp only at hx ⊢
 obtain⟨⟨hx,hn⟩,hd,hd2⟩:=hx
 have hx:Ah b i:=hx
 have hv:=b4G n hn
 (repeat' first|(apply Zk<;>try dsimp only)|(with_reducible first|rfl|exact⟨⟩|apply AG|apply AM)|apply AL|(apply AK<;>try dsimp only)|apply AJ|((try refine AH.2 ?_);intro _;try dsimp only))
 all_goals(repeat(rename((_→_)∧(_→_))∧Ah _ _=>hq;obtain⟨⟨_,_⟩,_⟩:=hq))
 all_goals first
  |rfl
  |(with_reducible assumption)
  |exact d1z
  |omega
  |exact hx
  |exact And.right ‹(_∧_)∧Ah _ _›
  |exact And.right ‹_≤_∧Ah _ _›
  |exact d1C ‹_› ‹_› ‹_› ‹_›
  |exact d1B ‹_› ‹_› ‹_› ‹_›
  |(have hq:=d1A (And.left (And.left ‹(liB _ _ _∧_)∧_›));(try simp only[Aw,Ba,AE,AX]);omega)
  |skip)
theorem d1E{k:Int}(h:((0:Int)<16→0≤k∧k<16)∧((16:Int)≤0→k=0)):0≤k∧k<16:=h.1 (by decide)
theorem tm5{k:Int}(h:0≤k):0≤k.tmod 5∧k.tmod 5<5:=a5s h (by decide)
def Ka(n:Nat):Sig:=⟨Md×Int,fun x=>[mad x.1,.q x.2],fun x=>(mdP x.1∧n+1≤4)∧x.2<(n+1:Nat)∧0≤x.2,Aa×Int×Int,fun x y=>y.1.length≤vB (n+1)∧Ah x.1.b y.2.1,fun x y=> .str y.1,fun x y=>[GD x.1 y.2.1 y.2.2 x.1.t,.top],true,[],[]⟩
def Vm(n:Nat)(x:Md×Int)(x_1:Aa×Int×Int×Int)(y:Int×Int×Int):Prop:=∃(x_2:Aa),#[(43:UInt8)].toList=x_2∧(∃(x_3:Aa),#[(45:UInt8)].toList=x_3∧(∃(x_4:Aa),#[(42:UInt8)].toList=x_4∧(∃(x_5:Aa),#[(38:UInt8),38].toList=x_5∧(∃(x_6:Aa),#[(124:UInt8),124].toList=x_6∧(∃(x_7:Aa),#[(61:UInt8),61].toList=x_7∧(∃(x_8:Aa),#[(60:UInt8)].toList=x_8∧(∃(x_9:Aa×Int×Int×List Aa),(Ah x_9.1 x_9.2.1∧x_9.2.2.2≠[]∧x_9.2.2.2.length<(1073741824:Nat))∧x.1.cv=x.1.cv∧byL x_1.1=byL x_9.1∧y.2.1=x_9.2.1∧y.2.2=x_9.2.2.1∧AV.sl false 0 1 Aa (fun(x:Aa)=>fzL (Bo x)) [x_2,x_3,x_4,x_5,x_6,x_7,x_8]=AV.sl false 0 1 Aa Bo x_9.2.2.2∧(∀(y:Aa×Int×Int),y.1∈x_9.2.2.2∧Ah x_9.1 y.2.1→x.1.cv=x.1.cv∧inR .i64 (x.2-(1:Int))∧(cA (Du n) [.box 0 [AV.bv x.1.cv (cur x_9.1 y.2.1 y.2.2),.str x.1.t],.q (x.2-(1:Int))] fun x_10 y_1=>(↑(y_1.1.length+(1:Nat)):Int)≤Aq∧((↑((y_1.1++ #[(32:UInt8)].toList).length+y.1.length):Int)≤Aq∧((↑((y_1.1++ #[(32:UInt8)].toList++y.1).length+(1:Nat)):Int)≤Aq∧inR .i64 (x.2-(1:Int))∧(cA (Du n) [.box 0 [AV.bv x_10.1.cv (cur x_10.1.b y_1.2.1 y_1.2.2),.str x_10.1.t],.q (x.2-(1:Int))] fun x_11 y_2=>(↑((y_1.1++ #[(32:UInt8)].toList++y.1++ #[(32:UInt8)].toList).length+y_2.1.length):Int)≤Aq∧((↑((y_1.1++ #[(32:UInt8)].toList++y.1++ #[(32:UInt8)].toList++y_2.1).length+(1:Nat)):Int)≤Aq∧((↑((y_1.1++ #[(32:UInt8)].toList++y.1++ #[(32:UInt8)].toList++y_2.1++ #[(32:UInt8)].toList).length+y.1.length):Int)≤Aq∧((↑((y_1.1++ #[(32:UInt8)].toList++y.1++ #[(32:UInt8)].toList++y_2.1++ #[(32:UInt8)].toList++y.1).length+(1:Nat)):Int)≤Aq∧(cA Cd [.box 0 [AV.bv x_11.1.cv (cur x_11.1.b y_2.2.1 y_2.2.2),.str x_11.1.t]] fun x_12 y_3=>(↑((y_1.1++ #[(32:UInt8)].toList++y.1++ #[(32:UInt8)].toList++y_2.1++ #[(32:UInt8)].toList++y.1++ #[(32:UInt8)].toList).length+y_3.1.length):Int)≤Aq∧(rA (Ka n) x [.str (y_1.1++ #[(32:UInt8)].toList++y.1++ #[(32:UInt8)].toList++y_2.1++ #[(32:UInt8)].toList++y.1++ #[(32:UInt8)].toList++y_3.1),.box 0 [AV.bv x_12.cv (cur x_12.b y_3.2.1 y_3.2.2),.str x_12.t],.top])))))))))))))))))
def PW(n:Nat)(x:Md×Int)(x_1:Aa×Int×Int×Int)(y:Int×Int×Int):Prop:=cA Cd [.box 0 [AV.bv x.1.cv (cur x_1.1 y.2.1 y.2.2),.str x.1.t]] fun x_2 y=>(↑(y.1.length+(1:Nat)):Int)≤Aq∧(cA (KS n) [.box 0 [AV.bv x_2.cv (cur x_2.b y.2.1 y.2.2),.str x_2.t],.q x.2] fun x_3 y_1=>(↑((y.1++ #[(40:UInt8)].toList).length+y_1.1.length):Int)≤Aq∧((↑((y.1++ #[(40:UInt8)].toList++y_1.1).length+(1:Nat)):Int)≤Aq∧(rA (Ka n) x [.str (y.1++ #[(40:UInt8)].toList++y_1.1++ #[(41:UInt8)].toList),.box 0 [AV.bv x_3.1.cv (cur x_3.1.b y_1.2.1 y_1.2.2),.str x_3.1.t],.top])))
def Vn(n:Nat)(x:Md×Int)(x_1:Aa×Int×Int×Int)(x_2:Aa)(x_3:Aa)(x_4:Aa)(y:Int×Int×Int):Prop:=∃(x_5:Aa×Int×Int×List Aa),(Ah x_5.1 x_5.2.1∧x_5.2.2.2≠[]∧x_5.2.2.2.length<(1073741824:Nat))∧x.1.cv=x.1.cv∧byL x_1.1=byL x_5.1∧y.2.1=x_5.2.1∧y.2.2=x_5.2.2.1∧AV.sl false 0 1 Aa (fun(x:Aa)=>fzL (Bo x)) [x_2,x_3,x_4]=AV.sl false 0 1 Aa Bo x_5.2.2.2∧(∀(y:Aa×Int×Int),y.1∈x_5.2.2.2∧Ah x_5.1 y.2.1→x.1.cv=x.1.cv∧(rA (Ka n) x [.str y.1,.box 0 [AV.bv x.1.cv (cur x_5.1 y.2.1 y.2.2),.str x.1.t],.top]))
def a5u(n:Nat)(x:Md×Int)(x_1:Aa×Int×Int×Int)(y:Int×Int×Int):Prop:=cA Cd [.box 0 [AV.bv x.1.cv (cur x_1.1 y.2.1 y.2.2),.str x.1.t]] fun x_2 y=>(↑(y.1.length+(3:Nat)):Int)≤Aq∧(cA Cd [.box 0 [AV.bv x_2.cv (cur x_2.b y.2.1 y.2.2),.str x_2.t]] fun x_3 y_1=>(↑((y.1++ #[(32:UInt8),60,32].toList).length+y_1.1.length):Int)≤Aq∧((↑((y.1++ #[(32:UInt8),60,32].toList++y_1.1).length+(3:Nat)):Int)≤Aq∧inR .i64 (x.2-(1:Int))∧(cA (Du n) [.box 0 [AV.bv x_3.cv (cur x_3.b y_1.2.1 y_1.2.2),.str x_3.t],.q (x.2-(1:Int))] fun x_4 y_2=>(↑((y.1++ #[(32:UInt8),60,32].toList++y_1.1++ #[(32:UInt8),63,32].toList).length+y_2.1.length):Int)≤Aq∧((↑((y.1++ #[(32:UInt8),60,32].toList++y_1.1++ #[(32:UInt8),63,32].toList++y_2.1).length+(3:Nat)):Int)≤Aq∧inR .i64 (x.2-(1:Int))∧(cA (Du n) [.box 0 [AV.bv x_4.1.cv (cur x_4.1.b y_2.2.1 y_2.2.2),.str x_4.1.t],.q (x.2-(1:Int))] fun x_5 y_3=>(↑((y.1++ #[(32:UInt8),60,32].toList++y_1.1++ #[(32:UInt8),63,32].toList++y_2.1++ #[(32:UInt8),58,32].toList).length+y_3.1.length):Int)≤Aq∧(rA (Ka n) x [.str (y.1++ #[(32:UInt8),60,32].toList++y_1.1++ #[(32:UInt8),63,32].toList++y_2.1++ #[(32:UInt8),58,32].toList++y_3.1),.box 0 [AV.bv x_5.1.cv (cur x_5.1.b y_3.2.1 y_3.2.2),.str x_5.1.t],.top]))))))
def a5v(n:Nat)(x:Md×Int)(x_1:Aa×Int×Int×Int)(y:Int×Int×Int):Prop:=∃(x_2:Aa),#[].toList=x_2∧(∃(x_3:Aa),#[(97:UInt8)].toList=x_3∧(∃(x_4:Aa),#[(97:UInt8),44,32,98].toList=x_4∧(∃(x_5:Aa×Int×Int×List Aa),(Ah x_5.1 x_5.2.1∧x_5.2.2.2≠[]∧x_5.2.2.2.length<(1073741824:Nat))∧x.1.cv=x.1.cv∧byL x_1.1=byL x_5.1∧y.2.1=x_5.2.1∧y.2.2=x_5.2.2.1∧AV.sl false 0 1 Aa (fun(x:Aa)=>fzL (Bo x)) [x_2,x_3,x_4]=AV.sl false 0 1 Aa Bo x_5.2.2.2∧(∀(y:Aa×Int×Int),y.1∈x_5.2.2.2∧Ah x_5.1 y.2.1→x.1.cv=x.1.cv∧((↑((1:Nat)+y.1.length):Int)≤Aq∧((↑((#[(40:UInt8)].toList++y.1).length+(5:Nat)):Int)≤Aq∧inR .i64 (x.2-(1:Int))∧(cA (Du n) [.box 0 [AV.bv x.1.cv (cur x_5.1 y.2.1 y.2.2),.str x.1.t],.q (x.2-(1:Int))] fun x_6 y_1=>(↑((#[(40:UInt8)].toList++y.1++ #[(41:UInt8),32,61,62,32].toList).length+y_1.1.length):Int)≤Aq∧(rA (Ka n) x [.str (#[(40:UInt8)].toList++y.1++ #[(41:UInt8),32,61,62,32].toList++y_1.1),.box 0 [AV.bv x_6.1.cv (cur x_6.1.b y_1.2.1 y_1.2.2),.str x_6.1.t],.top]))))))))
def a5w(n:Nat)(x:Md×Int)(x_1:Aa×Int×Int×Int)(y:Int×Int×Int):Prop:=cA Cd [.box 0 [AV.bv x.1.cv (cur x_1.1 y.2.1 y.2.2),.str x.1.t]] fun x_2 y=>(↑(y.1.length+(1:Nat)):Int)≤Aq∧(cA Cd [.box 0 [AV.bv x_2.cv (cur x_2.b y.2.1 y.2.2),.str x_2.t]] fun x_3 y_1=>(↑((y.1++ #[(46:UInt8)].toList).length+y_1.1.length):Int)≤Aq∧((↑((y.1++ #[(46:UInt8)].toList++y_1.1).length+(1:Nat)):Int)≤Aq∧(cA (KS n) [.box 0 [AV.bv x_3.cv (cur x_3.b y_1.2.1 y_1.2.2),.str x_3.t],.q x.2] fun x_4 y_2=>(↑((y.1++ #[(46:UInt8)].toList++y_1.1++ #[(40:UInt8)].toList).length+y_2.1.length):Int)≤Aq∧((↑((y.1++ #[(46:UInt8)].toList++y_1.1++ #[(40:UInt8)].toList++y_2.1).length+(1:Nat)):Int)≤Aq∧(rA (Ka n) x [.str (y.1++ #[(46:UInt8)].toList++y_1.1++ #[(40:UInt8)].toList++y_2.1++ #[(41:UInt8)].toList),.box 0 [AV.bv x_4.1.cv (cur x_4.1.b y_2.2.1 y_2.2.2),.str x_4.1.t],.top])))))
def PX(n:Nat)(x:Md×Int)(x_1:Aa×Int×Int×Int)(y:Int×Int×Int):Prop:=cA Cd [.box 0 [AV.bv x.1.cv (cur x_1.1 y.2.1 y.2.2),.str x.1.t]] fun x_2 y=>rA (Ka n) x [.str y.1,.box 0 [AV.bv x_2.cv (cur x_2.b y.2.1 y.2.2),.str x_2.t],.top]
def a5x(n:Nat)(x:Md×Int)(x_1:Aa×Int×Int×Int)(y:Int×Int×Int):Prop:=cA Cd [.box 0 [AV.bv x.1.cv (cur x_1.1 y.2.1 y.2.2),.str x.1.t]] fun x_2 y=>(↑(y.1.length+(6:Nat)):Int)≤Aq∧(cA (KS n) [.box 0 [AV.bv x_2.cv (cur x_2.b y.2.1 y.2.2),.str x_2.t],.q x.2] fun x_3 y_1=>(↑((y.1++ #[(46:UInt8),46,97,100,100,40].toList).length+y_1.1.length):Int)≤Aq∧((↑((y.1++ #[(46:UInt8),46,97,100,100,40].toList++y_1.1).length+(10:Nat)):Int)≤Aq∧(rA (Ka n) x [.str (y.1++ #[(46:UInt8),46,97,100,100,40].toList++y_1.1++ #[(41:UInt8),46,46,99,108,111,115,101,40,41].toList),.box 0 [AV.bv x_3.1.cv (cur x_3.1.b y_1.2.1 y_1.2.2),.str x_3.1.t],.top])))
def a5y(n:Nat)(x:Md×Int)(x_1:Aa×Int×Int×Int)(y:Int×Int×Int):Prop:=cA (Du n) [.box 0 [AV.bv x.1.cv (cur x_1.1 y.2.1 y.2.2),.str x.1.t],.q (x.2-(1:Int))] fun x_2 y=>(↑((1:Nat)+y.1.length):Int)≤Aq∧((↑((#[(40:UInt8)].toList++y.1).length+(1:Nat)):Int)≤Aq∧(rA (Ka n) x [.str (#[(40:UInt8)].toList++y.1++ #[(41:UInt8)].toList),.box 0 [AV.bv x_2.1.cv (cur x_2.1.b y.2.1 y.2.2),.str x_2.1.t],.top]))
def a5z(n:Nat)(x:Md×Int)(x_1:Aa×Int×Int×Int)(y:Int×Int×Int):Prop:=cA (KS n) [.box 0 [AV.bv x.1.cv (cur x_1.1 y.2.1 y.2.2),.str x.1.t],.q x.2] fun x_2 y=>(↑((1:Nat)+y.1.length):Int)≤Aq∧((↑((#[(91:UInt8)].toList++y.1).length+(1:Nat)):Int)≤Aq∧(rA (Ka n) x [.str (#[(91:UInt8)].toList++y.1++ #[(93:UInt8)].toList),.box 0 [AV.bv x_2.1.cv (cur x_2.1.b y.2.1 y.2.2),.str x_2.1.t],.top]))
set_option maxHeartbeats 8000000 in
theorem d1F(n:Nat)(hc:CtG G 75 (Du n)):CtG G 75 (Ka n):=
 vFq [(27,0,DA),(44,0,Cd),(45,0,PV),(92,0,(KS n)),(75,0,(Du n))] [(44,⟨Aa,Bo⟩)] (fun x=>[]) Tryz.func75 ⟨Jm,a5t,Zi,(d1D n hc),hc,trivial⟩ (fun x=>True∧∃(x_1:Aa×Int×Int×Int),Ah x_1.1 x_1.2.1∧x.1.cv=x.1.cv∧byL x.1.b=byL x_1.1∧x.1.i=x_1.2.1∧x.1.h=x_1.2.2.1∧16=x_1.2.2.2∧∀(y:Int×Int×Int),((0<x_1.2.2.2→0≤y.1∧y.1<x_1.2.2.2)∧(x_1.2.2.2≤(0:Int)→y.1=(0:Int)))∧Ah x_1.1 y.2.1→x.1.cv=x.1.cv∧Ae (decide (x.2≤(0:Int))) ((5:Int)≠(0:Int)∧Ae (Int.tmod y.1 (5:Int)==(0:Int)) (PX n x x_1 y) (Ae (Int.tmod y.1 (5:Int)==(1:Int)) (PX n x x_1 y) (Ae (Int.tmod y.1 (5:Int)==(2:Int)) (PX n x x_1 y) (Ae (Int.tmod y.1 (5:Int)==(3:Int)) (∃(x_2:Aa),#[(48:UInt8)].toList=x_2∧(∃(x_3:Aa),#[(49:UInt8),50].toList=x_3∧(∃(x_4:Aa),#[(49:UInt8),50,51,52,53,54,55].toList=x_4∧(Vn n x x_1 x_2 x_3 x_4 y)))) (Ae (Int.tmod y.1 (5:Int)==(4:Int)) (∃(x_2:Aa),#[(39:UInt8),115,97,105,100,39].toList=x_2∧(∃(x_3:Aa),#[(39:UInt8),39].toList=x_3∧(∃(x_4:Aa),#[(39:UInt8),97,32,108,111,110,103,101,114,32,116,101,120,116,32,104,101,114,101,39].toList=x_4∧(Vn n x x_1 x_2 x_3 x_4 y)))) (Ae (Int.tmod y.1 (5:Int)==(5:Int)) (PW n x x_1 y) (Ae (Int.tmod y.1 (5:Int)==(6:Int)) (PW n x x_1 y) (Ae (Int.tmod y.1 (5:Int)==(7:Int)) (PW n x x_1 y) (Ae (Int.tmod y.1 (5:Int)==(8:Int)) (a5z n x x_1 y) (Ae (Int.tmod y.1 (5:Int)==(9:Int)) (a5w n x x_1 y) (Ae (Int.tmod y.1 (5:Int)==(10:Int)) (Vm n x x_1 y) (Ae (Int.tmod y.1 (5:Int)==(11:Int)) (Vm n x x_1 y) (Ae (Int.tmod y.1 (5:Int)==(12:Int)) (inR .i64 (x.2-(1:Int))∧(a5y n x x_1 y)) (Ae (Int.tmod y.1 (5:Int)==(13:Int)) (a5u n x x_1 y) (Ae (Int.tmod y.1 (5:Int)==(14:Int)) (a5v n x x_1 y) (a5x n x x_1 y)))))))))))))))) (Ae (y.1==(0:Int)) (PX n x x_1 y) (Ae (y.1==(1:Int)) (PX n x x_1 y) (Ae (y.1==(2:Int)) (PX n x x_1 y) (Ae (y.1==(3:Int)) (∃(x_2:Aa),#[(48:UInt8)].toList=x_2∧(∃(x_3:Aa),#[(49:UInt8),50].toList=x_3∧(∃(x_4:Aa),#[(49:UInt8),50,51,52,53,54,55].toList=x_4∧(Vn n x x_1 x_2 x_3 x_4 y)))) (Ae (y.1==(4:Int)) (∃(x_2:Aa),#[(39:UInt8),115,97,105,100,39].toList=x_2∧(∃(x_3:Aa),#[(39:UInt8),39].toList=x_3∧(∃(x_4:Aa),#[(39:UInt8),97,32,108,111,110,103,101,114,32,116,101,120,116,32,104,101,114,101,39].toList=x_4∧(Vn n x x_1 x_2 x_3 x_4 y)))) (Ae (y.1==(5:Int)) (PW n x x_1 y) (Ae (y.1==(6:Int)) (PW n x x_1 y) (Ae (y.1==(7:Int)) (PW n x x_1 y) (Ae (y.1==(8:Int)) (a5z n x x_1 y) (Ae (y.1==(9:Int)) (a5w n x x_1 y) (Ae (y.1==(10:Int)) (Vm n x x_1 y) (Ae (y.1==(11:Int)) (Vm n x x_1 y) (Ae (y.1==(12:Int)) (inR .i64 (x.2-(1:Int))∧(a5y n x x_1 y)) (Ae (y.1==(13:Int)) (a5u n x x_1 y) (Ae (y.1==(14:Int)) (a5v n x x_1 y) (a5x n x x_1 y))))))))))))))))) (by kernel_rfl) fun(x:Md×Int) (hx:(mdP x.1∧n+1≤4)∧x.2<(n+1:Nat)∧0≤x.2)=>(by
 dsimp only[a5z,a5y,a5x,PX,a5w,a5v,a5u,Vn,PW,Vm,EU,byL,cA,cur,mad,GD,rA,KS,Cd,Du,Ka,AB,AF,mvL,lnL,mvE,lnE,Aq,AV.q]
 obtain⟨⟨cv,b,i,h,t⟩,d⟩:=x;dsimp only at hx ⊢
 obtain⟨⟨hx,hn⟩,hd,hd2⟩:=hx
 have hx:Ah b i:=hx
 have hv:=b4G n (by omega);have hv2:=d1x n
 (repeat' first|(apply Zk<;>try dsimp only)|(apply Zj<;>try dsimp only)|(with_reducible first|rfl|exact⟨⟩|apply AG|apply AM)|apply AL|(apply AK<;>try dsimp only)|apply AJ|((try refine AH.2 ?_);intro _;try dsimp only))
 all_goals(try(have hk:=d1E (And.left (show(((0:Int)<16→_)∧(_→_))∧Ah _ _ by assumption));have hk5:=tm5 hk.1))
 all_goals(repeat(rename _∈_∧Ah _ _=>hq;obtain⟨hq1,_⟩:=hq;have hq2:=Zl (n:=20) hq1 (by decide);clear hq1))
 all_goals(repeat(rename _∧Ah _ _=>hq;obtain⟨_,_⟩:=hq))
 all_goals first
  |rfl
  |(with_reducible assumption)
  |exact hx
  |(show Ah _ _;with_reducible assumption)
  |(rename _=[]=>hq;cases hq;done)
  |omega
  |(simp only[Aw,Ba,AE,AX];omega)
  |skip)
theorem d1G:CtG G 75 (Du 0):=
 ⟨⟨⟨_,Go.Proofs.Tryz.func75,by kernel_rfl,by kernel_rfl⟩,fun x y _ _=>trivial⟩,fun x hx=>by
   exfalso
   have hx:(mdP x.1∧0≤4)∧x.2<(0:Nat)∧0≤x.2:=hx
   omega⟩
theorem b4I:∀n,CtG G 75 (Du n)
 |0=>d1G
 |n+1=>d1F n (b4I n)
end Go.My
end
