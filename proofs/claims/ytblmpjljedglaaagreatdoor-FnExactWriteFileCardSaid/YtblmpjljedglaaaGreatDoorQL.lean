/- joined -/
import Derived.Test.YtblmpjljedglaaaGreatDoorQK
set_option linter.unusedSimpArgs false
set_option linter.unusedVariables false
section
namespace Go.My
open Go.Eng Go.Proofs
variable {G:GInv}
structure cxP (c:BC) (n:Nat) (s:Bs) (x:Nd) (a:Int):Prop where
 cn:cnP c n s x (min (a+4) 40)
 ar:inA a x.kids
def Pd(n:Nat):Sig:= {X:=BC×List Ru×List Ch×List Sn×List Ti×List UInt8×Nd×Int,args:=fun x=>[suA x.1 (xC x),.agg (ndA false x.2.2.2.2.2.2.1),.int .i64 x.2.2.2.2.2.2.2],pre:=fun x=>cxP x.1 n (xC x) x.2.2.2.2.2.2.1 x.2.2.2.2.2.2.2,Y:=BT,post:=fun x y=>isB (KJ x.1.ns x.1.rd (bV x.1.ns x.1.rd n) x.2.2.2.2.2.2.1 (min (x.2.2.2.2.2.2.2+4) 40) (xC x)) (yBW y),res:=fun x y=> .tup [],outs:=fun x y=>[suA x.1 (yBW y),.top,.top],keep:=true}
theorem EX{ns:List Nd}{n:Nat}{s:Bs}{k a:Int}(h:vsP ns n s k a):vlP ns n s k (min a 40):=⟨h.up,h.lt,h.vl,h.rm,by have:=h.ar;have:=Bc.1 h.up.1;omega⟩
theorem Pe{ns:List Nd}{n:Nat}{s:Bs}{k a:Int}(h:vsP ns n s k a){ks:List Int}(hk:∀d∈ks,d∈(Aa ns k).kids):inA a ks:=by
 have h1:=h.ar;have h2:=Bc.1 h.up.1
 refine⟨by omega,fun d hd=> ?_⟩
 have:=Cv h.up (hk d hd);omega
theorem XZ{ns:List Nd}{n:Nat}{s t:Bs}{k a d:Int}(h:vsP ns (n+1) s k a)(hd:(Aa ns k).kids[(0:Nat)]? =some d)(hv:vlP ns n t d (min a 40)):vsP ns n t d a:=by
 have h1:=h.ar;have h2:=Bc.1 h.up.1
 have:=Cv h.up (AY hd)
 exact⟨hv.up,hv.lt,hv.vl,hv.rm,by omega,by omega⟩
theorem Lp{c:BC}{n:Nat}{s t:Bs}{k a:Int}(h:vsQ c n s k a t):BK c n s k (min a 40) (GF c.rd (Aa c.ns k) s) t:=⟨h,rfl⟩
theorem II{c:BC}{n:Nat}{s t:Bs}{k a o:Int}(h:BK c (n+1) s k (min a 40) o t):vsQ c (n+1) s k a t:=h.1
theorem MZ{a:Int}(h:0≤a):min (min a 40+4) 40=min (a+4) 40:=by omega
theorem b6A{c:BC}{n:Nat}{s t:Bs}{k a:Int}(h:isB (Am (Aa c.ns k).text s) t)(hk:(Aa c.ns k).kind=1∨(Aa c.ns k).kind=2∨(Aa c.ns k).kind=3):vsQ c (n+1) s k a t:=by
 have:=II (XT (c:=c) (n:=n) (s:=s) (a:=min a 40) hk)
 rw[←h] at this;exact this
theorem b6B{c:BC}{n:Nat}{s t:Bs}{k a d:Int}(h:vsP c.ns (n+1) s k a)(ht:isB (Am [40] s) t)(hd:(Aa c.ns k).kids[(0:Nat)]? =some d):vsP c.ns n t d a:=by
 rw[ht];exact XZ h hd (a5B (EX h) hd)
theorem b6C{c:BC}{n:Nat}{s t u:Bs}{k a d:Int}(hu:vsQ c n t d a u)(ht:isB (Am [40] s) t)(h:vsP c.ns (n+1) s k a)(hd:(Aa c.ns k).kids[(0:Nat)]? =some d):u.text.length+79≤2^61:=by
 rw[ht] at hu;exact a5C (EX h) (Lp hu) hd
theorem b6D{c:BC}{n:Nat}{s t u v:Bs}{k a d:Int}(hv:isB (Am [41] u) v)(hu:vsQ c n t d a u)(ht:isB (Am [40] s) t)(hd:(Aa c.ns k).kids[(0:Nat)]? =some d)(hk:(Aa c.ns k).kind=11):vsQ c (n+1) s k a v:=by
 rw[ht] at hu
 have:=II (a5D (r1:=u.rules) (r2:=u.chunks) (r3:=u.spans) (r4:=u.ties) (r5:=u.text) (Lp hu) hd hk)
 rw[hv];exact this
theorem b6E{c:BC}{n:Nat}{s:Bs}{k a d:Int}(h:vsP c.ns (n+1) s k a)(hd:(Aa c.ns k).kids[(0:Nat)]? =some d):vsP c.ns n s d a:=XZ h hd (a5E (EX h) hd)
theorem b6F{c:BC}{n:Nat}{s u:Bs}{k a d:Int}(hu:vsQ c n s d a u)(h:vsP c.ns (n+1) s k a)(hd:(Aa c.ns k).kids[(0:Nat)]? =some d):u.text.length+(Aa c.ns k).text.length+79≤2^61:=a5F (EX h) (Lp hu) hd
theorem b6G{c:BC}{n:Nat}{s u v:Bs}{k a d:Int}(hv:isB (Am (46::(Aa c.ns k).text) u) v)(hu:vsQ c n s d a u)(hd:(Aa c.ns k).kids[(0:Nat)]? =some d)(hk:(Aa c.ns k).kind=6):vsQ c (n+1) s k a v:=by
 rw[hv];exact II (a5G (Lp hu) hd hk)
theorem b6H{c:BC}{n:Nat}{s:Bs}{k a:Int}(h:vsP c.ns (n+1) s k a):lsP c n s [91] (Aa c.ns k).kids [93] a:=⟨a5H (EX h),Pe h fun _ hd=>hd⟩
theorem b6I{c:BC}{n:Nat}{s u:Bs}{k a:Int}(hu:isB (Ee c.rd (bV c.ns c.rd n) [91] (Aa c.ns k).kids [93] (min a 40) s) u)(hk:(Aa c.ns k).kind=4):vsQ c (n+1) s k a u:=II (a5I hu hk)
theorem b6J{c:BC}{n:Nat}{s u:Bs}{k a d:Int}(hu:vsQ c n s d a u)(h:vsP c.ns (n+1) s k a)(hd:(Aa c.ns k).kids[(0:Nat)]? =some d):lsP c n u [40] ((Aa c.ns k).kids.drop 1) [41] a:=⟨a5J (EX h) (Lp hu) hd,Pe h fun _ hd=>List.mem_of_mem_drop hd⟩
theorem b6K{c:BC}{n:Nat}{s u v:Bs}{k a d:Int}(hv:isB (Ee c.rd (bV c.ns c.rd n) [40] ((Aa c.ns k).kids.drop 1) [41] (min a 40) u) v)(hu:vsQ c n s d a u)(hd:(Aa c.ns k).kids[(0:Nat)]? =some d)(hk:(Aa c.ns k).kind=5):vsQ c (n+1) s k a v:=II (a5K hv (Lp hu) hd hk)
theorem b6L{c:BC}{n:Nat}{s:Bs}{k a:Int}(h:vsP c.ns (n+1) s k a)(hk:(Aa c.ns k).kind=7):cxP c n s (Aa c.ns k) a:=⟨by have:=a5L (EX h) hk;rwa [MZ h.ar.1] at this,Pe h fun _ hd=>hd⟩
theorem b6M{c:BC}{n:Nat}{s u:Bs}{k a:Int}(hu:isB (KJ c.ns c.rd (bV c.ns c.rd n) (Aa c.ns k) (min (a+4) 40) s) u)(h:vsP c.ns (n+1) s k a)(hk:(Aa c.ns k).kind=7):vsQ c (n+1) s k a u:=
 II (a5M (o:=AM c.rd s) ⟨by rw[MZ h.ar.1];exact hu,rfl⟩ hk)
theorem b6N{c:BC}{n:Nat}{s:Bs}{k a:Int}(h:vsP c.ns (n+1) s k a)(hk:(Aa c.ns k).kind=8):pxP c n s (Aa c.ns k) a:=⟨by have:=a5N (EX h) hk;rwa [MZ h.ar.1] at this,Pe h fun _ hd=>hd⟩
theorem b6O{c:BC}{n:Nat}{s u:Bs}{k a:Int}(hu:isB (Ms c.ns c.rd (bV c.ns c.rd n) (Aa c.ns k) (min (a+4) 40) s) u)(h:vsP c.ns (n+1) s k a)(hk:(Aa c.ns k).kind=8):vsQ c (n+1) s k a u:=
 II (a5O (o:=AM c.rd s) ⟨by rw[MZ h.ar.1];exact hu,rfl⟩ hk)
def fxI(c:BC)(s:Bs)(x:Nd)(i:Int)(t:Bs):Prop:=(0≤i∧i≤(fnT x).length)∧t=Am (40::DC c.ns ((fnT x).take i.toNat) true) s
theorem Ya{ns:List Nd}:∀ {l:List Int} {b:Bool} {k:Int},DC ns (l++[k]) b=DC ns l b++((if l=[]∧b=true then [] else [44,32])++(Aa ns k).text)
 |[],b,k=>by cases b<;>simp [DC]
 |c::l,b,k=>by
  rw[List.cons_append,DC,DC,Ya (l:=l) (b:=false)]
  simp
theorem b6P{c:BC}{s t:Bs}{x:Nd}(h:isB (Am [40] s) t):fxI c s x 0 t:=⟨by omega,by rw[h];rfl⟩
theorem a6c{c:BC}{s t u:Bs}{x:Nd}{i k:Int}{e:Nd}(hI:fxI c s x i t)(hk:(fnT x)[i.toNat]? =some k)(he:c.ns[k.toNat]? =some e)(hu:u=Am e.text (if i>0 then Am [44,32] t else t)):fxI c s x (i+1) u:=by
 have hl:=(Cm hk).1
 refine⟨by have:=hI.1;omega,?_⟩
 rw[hu,hI.2,BD hI.1.1,CT hk,Ya,Bd he]
 by_cases e0:i>0
 ·have:(fnT x).take i.toNat≠[]:=by
   intro h;have h3:((fnT x).take i.toNat).length=0:=by rw[h];rfl
   rw[List.length_take] at h3;omega
  rw[if_pos e0,if_neg (by simp [this])];simp [Am]
 ·have:(fnT x).take i.toNat=[]:=by rw[show i.toNat=0 by have:=hI.1;omega];rfl
  rw[if_neg e0,if_pos ⟨this,rfl⟩];simp [Am]
theorem b6Q{c:BC}{s t w u:Bs}{x:Nd}{i k:Int}{e:Nd}(hI:fxI c s x i t)(hu:isB (Am e.text w) u)(hw:isB (Am [44,32] t) w)(hk:(fnT x)[i.toNat]? =some k)(he:c.ns[k.toNat]? =some e)(hi:i>0):fxI c s x (i+1) u:=a6c hI hk he (by rw[if_pos hi,←hw];exact hu)
theorem b6R{c:BC}{s t u:Bs}{x:Nd}{i k:Int}{e:Nd}(hI:fxI c s x i t)(hu:isB (Am e.text t) u)(hk:(fnT x)[i.toNat]? =some k)(he:c.ns[k.toNat]? =some e)(hi:¬i>0):fxI c s x (i+1) u:=a6c hI hk he (by rw[if_neg hi];exact hu)
theorem b6S{c:BC}{s t u:Bs}{x:Nd}{i:Int}(hu:isB (Am [41,32,61,62] t) u)(hI:fxI c s x i t)(hi:¬i<(fnT x).length):u=Am (CW c.ns x++[32,61,62]) s:=by
 have h2:=hI.2
 rw[List.take_of_length_le (by omega)] at h2
 rw[hu,h2,CW,fnT];simp [Am]
theorem SI{c:BC}{n:Nat}{s t:Bs}{x:Nd}{a i:Int}(hI:fxI c s x i t)(hx:fnP c n s x a):t.text.length≤s.text.length+420:=by
 have h1:=KK (ns:=c.ns) (w:=fun _=>30) (l:=(fnT x).take i.toNat) (first:=true) fun k hk=>by
  have:=List.mem_of_mem_take hk
  exact hx.nm k (List.mem_of_mem_take this) this
 have h2:=Jt (w:=fun _=>30) (b:=30) (l:=(fnT x).take i.toNat) fun _ _=>by omega
 have h3:= @Ga x;have h4:=hx.kl
 have h5:((fnT x).take i.toNat).length≤(fnT x).length:=by rw[List.length_take];omega
 rw[hI.2];simp only[Am,List.length_append,List.length_cons];omega
theorem IJ{c:BC}{n:Nat}{s:Bs}{k a:Int}(h:vsP c.ns (n+1) s k a)(hk:(Aa c.ns k).kind=9):fnP c n s (Aa c.ns k) (min (a+4) 40):=by
 have:=a5P (EX h) hk;rwa [MZ h.ar.1] at this
theorem a6d{r a:Int}{s t:Bs}(h:isB (AU r 1 true (a+4) s) t):t=AU r 1 true (min (a+4) 40) s:=by rw[h];exact MW (by omega)
theorem Pf{c:BC}{n:Nat}{s:Bs}{k a d:Int}{i:Nat}(h:vsP c.ns (n+1) s k a)(hd:(Aa c.ns k).kids[i]? =some d):a+4+4*d≤2^40:=(Pe h fun _ hd=>hd).2 d (AY hd)
theorem b6T{c:BC}{n:Nat}{s q t u:Bs}{k a d:Int}(hu:isB (AU (AM c.rd q) 1 true (a+4) t) u)(ht:t=Be c.rd 2 2 q)(hq:q=Am (CW c.ns (Aa c.ns k)++[32,61,62]) s)(h:vsP c.ns (n+1) s k a)(hd:(Aa c.ns k).kids[(((Aa c.ns k).kids.length:Int)-1).toNat]? =some d)(hk:(Aa c.ns k).kind=9):vsP c.ns n u d (a+4):=by
 subst hq
 exact XP (a5l (a6d hu) ht (IJ h hk) hd) h.ar.1 (Pf h hd)
theorem b6U{c:BC}{n:Nat}{s q t u v:Bs}{k a d:Int}(hv:vsQ c n u d (a+4) v)(hu:isB (AU (AM c.rd q) 1 true (a+4) t) u)(ht:t=Be c.rd 2 2 q)(hq:q=Am (CW c.ns (Aa c.ns k)++[32,61,62]) s)(h:vsP c.ns (n+1) s k a)(hd:(Aa c.ns k).kids[(((Aa c.ns k).kids.length:Int)-1).toNat]? =some d)(hk:(Aa c.ns k).kind=9):vsQ c (n+1) s k a v:=by
 subst hq
 have h1:=a5m (Lm hv) (a6d hu) ht (IJ h hk) hd
 refine II (a5Q ?_ hk)
 rw[MZ h.ar.1];exact h1
theorem b6V{c:BC}{n:Nat}{s t:Bs}{k a d:Int}(ht:t=Be c.rd 2 1 s)(h:vsP c.ns (n+1) s k a)(hd:(Aa c.ns k).kids[(0:Nat)]? =some d):vsP c.ns n t d a:=XZ h hd (a5R ht (EX h) hd)
theorem b6W{c:BC}{n:Nat}{s t u:Bs}{k a d:Int}(hu:vsQ c n t d a u)(ht:t=Be c.rd 2 1 s)(h:vsP c.ns (n+1) s k a)(hd:(Aa c.ns k).kids[(0:Nat)]? =some d):vaI c n s k (min a 40) 0 u:=a5S (Lp hu) ht (EX h) hd
def cbI(c:BC)(n:Nat)(s:Bs)(k a:Int)(i:Int)(t:Bs):Prop:=1≤i∧vaI c n s k (min a 40) (i-1) t
theorem b6X{c:BC}{n:Nat}{s t u:Bs}{k a d:Int}(hu:vsQ c n t d a u)(ht:t=Be c.rd 2 1 s)(h:vsP c.ns (n+1) s k a)(hd:(Aa c.ns k).kids[(0:Nat)]? =some d):cbI c n s k a 1 u:=⟨by omega,b6W hu ht h hd⟩
theorem SJ{c:BC}{k i d:Int}(hi:1≤i)(hd:(Aa c.ns k).kids[i.toNat]? =some d):((Aa c.ns k).kids.drop 1)[(i-1).toNat]? =some d:=by
 rw[List.getElem?_drop,show 1+(i-1).toNat=i.toNat by omega];exact hd
theorem b6Y{c:BC}{n:Nat}{s t:Bs}{k a i:Int}(h:cbI c n s k a i t)(hx:vsP c.ns (n+1) s k a):1≤i∧i≤14:=by
 have:=a5T h.2;have:=a5U (EX hx);have:=h.1;omega
theorem Yb{c:BC}{n:Nat}{s t:Bs}{k a i:Int}(h:cbI c n s k a i t)(hi:i<(Aa c.ns k).kids.length):∃d,(Aa c.ns k).kids[i.toNat]? =some d:=by
 have:=h.1
 exact⟨_,List.getElem?_eq_getElem (by omega)⟩
theorem b6Z{c:BC}{n:Nat}{s t:Bs}{k a i:Int}(h:cbI c n s k a i t)(hi:i<(Aa c.ns k).kids.length):bB t:=by
 obtain⟨d,hd⟩:=Yb h hi;exact a5W h.2 (SJ h.1 hd)
theorem Yc{r a:Int}{s t:Bs}(ha:0≤a)(h:isB (AU r 1 false (a+4) s) t):t=AU r 1 false (min (min a 40+4) 40) s:=by rw[h];exact MW (by omega)
theorem b7a{c:BC}{n:Nat}{s t u:Bs}{k a i:Int}(hu:isB (AU (AM c.rd s) 1 false (a+4) t) u)(h:cbI c n s k a i t)(hx:vsP c.ns (n+1) s k a)(hi:i<(Aa c.ns k).kids.length):u.text.length+4≤2^61:=by
 obtain⟨d,hd⟩:=Yb h hi;exact a5Y h.2 (Yc hx.ar.1 hu) (SJ h.1 hd)
theorem b7b{c:BC}{n:Nat}{s t u w:Bs}{k a i d:Int}(hw:isB (Am [46,46] u) w)(hu:isB (AU (AM c.rd s) 1 false (a+4) t) u)(h:cbI c n s k a i t)(hx:vsP c.ns (n+1) s k a)(hd:(Aa c.ns k).kids[i.toNat]? =some d):vsP c.ns n w d (a+4):=by
 have:=a5Z h.2 (Yc hx.ar.1 hu) (EX hx) (SJ h.1 hd)
 rw[hw];exact XL this hx.ar.1 (Pf hx hd)
theorem b7c{c:BC}{n:Nat}{s t u w v:Bs}{k a i d:Int}(hv:vsQ c n w d (a+4) v)(hw:isB (Am [46,46] u) w)(hu:isB (AU (AM c.rd s) 1 false (a+4) t) u)(h:cbI c n s k a i t)(hx:vsP c.ns (n+1) s k a)(hd:(Aa c.ns k).kids[i.toNat]? =some d):cbI c n s k a (i+1) v:=by
 rw[hw] at hv
 have:=a6a h.2 (SJ h.1 hd) (Yc hx.ar.1 hu) (XM hv hx.ar.1) (EX hx)
 exact⟨by have:=h.1;omega,by rw[show i+1-1=i-1+1 by omega];exact this⟩
theorem b7d{c:BC}{n:Nat}{s t:Bs}{k a i:Int}(h:cbI c n s k a i t)(hx:vsP c.ns (n+1) s k a)(hi:¬i<(Aa c.ns k).kids.length)(hk:(Aa c.ns k).kind=10):vsQ c (n+1) s k a t:=by
 have h1:=h.1
 exact II (a6b h.2 (EX hx) (by rw[List.length_drop];omega) hk)
theorem k10{c:BC}{n:Nat}{s:Bs}{k a:Int}(h:vsP c.ns n s k a)(hk:(((((((((¬(Aa c.ns k).kind=1∧¬(Aa c.ns k).kind=2)∧¬(Aa c.ns k).kind=3)∧¬(Aa c.ns k).kind=11)∧¬(Aa c.ns k).kind=6)∧¬(Aa c.ns k).kind=4)∧¬(Aa c.ns k).kind=5)∧¬(Aa c.ns k).kind=7)∧¬(Aa c.ns k).kind=8)∧¬(Aa c.ns k).kind=9)):(Aa c.ns k).kind=10:=by
 have hv:=Br.1 h.vl
 unfold Al at hv
 omega
theorem Lq{x:Nd}{i k:Int}(h0:0≤i)(hi:i<(x.kids.length:Int)-1)(hk:x.kids[i.toNat]? =some k):(fnT x)[i.toNat]? =some k:=by
 rw[fnT,List.getElem?_take,if_pos (by omega)];exact hk
theorem a6e{c:BC}{n:Nat}{s:Bs}{x:Nd}{a k:Int}{i:Nat}{e:Nd}(hx:fnP c n s x a)(hk:(fnT x)[i]? =some k)(he:c.ns[k.toNat]? =some e):e.text.length≤30:=by
 have:=hx.nm k (XE hk) (AY hk)
 rwa [Bd he] at this
theorem b7e{c:BC}{s t w u:Bs}{x:Nd}{i k:Int}{e:Nd}(hI:fxI c s x i t)(hu:isB (Am e.text w) u)(hw:isB (Am [44,32] t) w)(hk:x.kids[i.toNat]? =some k)(he:c.ns[k.toNat]? =some e)(hl:i<(x.kids.length:Int)-1)(hi:i>0):fxI c s x (i+1) u:=b6Q hI hu hw (Lq hI.1.1 hl hk) he hi
theorem b7f{c:BC}{s t u:Bs}{x:Nd}{i k:Int}{e:Nd}(hI:fxI c s x i t)(hu:isB (Am e.text t) u)(hk:x.kids[i.toNat]? =some k)(he:c.ns[k.toNat]? =some e)(hl:i<(x.kids.length:Int)-1)(hi:¬i>0):fxI c s x (i+1) u:=b6R hI hu (Lq hI.1.1 hl hk) he hi
theorem SK{c:BC}{s t u:Bs}{x:Nd}{i:Int}(hu:isB (Am [41,32,61,62] t) u)(hI:fxI c s x i t)(hi:¬i<(x.kids.length:Int)-1):u=Am (CW c.ns x++[32,61,62]) s:=b6S hu hI (by have:=hI.1;rw[Ga] at this ⊢;omega)
theorem b7g{c:BC}{n:Nat}{s t u:Bs}{k a i:Int}(hu:isB (Am [41,32,61,62] t) u)(hI:fxI c s (Aa c.ns k) i t)(hi:¬i<((Aa c.ns k).kids.length:Int)-1)(h:vsP c.ns (n+1) s k a)(hk:(Aa c.ns k).kind=9):bB u:=by
 rw[SK hu hI hi];exact CY (Sw (IJ h hk))
theorem b7h{c:BC}{n:Nat}{s q t u:Bs}{k a i:Int}(ht:u=Be c.rd 2 2 q)(hu:isB (Am [41,32,61,62] t) q)(hI:fxI c s (Aa c.ns k) i t)(hi:¬i<((Aa c.ns k).kids.length:Int)-1)(h:vsP c.ns (n+1) s k a)(hk:(Aa c.ns k).kind=9):bB u:=by
 rw[SK hu hI hi] at ht;exact a5k ht (IJ h hk)
theorem b7i{c:BC}{n:Nat}{s q t u w:Bs}{k a d i:Int}(hu:isB (AU (AM c.rd q) 1 true (a+4) t) u)(ht:t=Be c.rd 2 2 q)(hw:isB (Am [41,32,61,62] w) q)(hI:fxI c s (Aa c.ns k) i w)(hi:¬i<((Aa c.ns k).kids.length:Int)-1)(h:vsP c.ns (n+1) s k a)(hd:(Aa c.ns k).kids[(((Aa c.ns k).kids.length:Int)-1).toNat]? =some d)(hk:(Aa c.ns k).kind=9):vsP c.ns n u d (a+4):=b6T hu ht (SK hw hI hi) h hd hk
theorem b7j{c:BC}{n:Nat}{s q t u v w:Bs}{k a d i:Int}(hv:vsQ c n u d (a+4) v)(hu:isB (AU (AM c.rd q) 1 true (a+4) t) u)(ht:t=Be c.rd 2 2 q)(hw:isB (Am [41,32,61,62] w) q)(hI:fxI c s (Aa c.ns k) i w)(hi:¬i<((Aa c.ns k).kids.length:Int)-1)(h:vsP c.ns (n+1) s k a)(hd:(Aa c.ns k).kids[(((Aa c.ns k).kids.length:Int)-1).toNat]? =some d)(hk:(Aa c.ns k).kind=9):vsQ c (n+1) s k a v:=b6U hv hu ht (SK hw hI hi) h hd hk
theorem Yd{c:BC}{s t:Bs}{x:Nd}{i:Int}(h:fxI c s x i t):0≤i∧i≤x.kids.length:=by have:=h.1;have:= @Ga x;omega
theorem b7k{c:BC}{s t:Bs}{x:Nd}{i:Int}(h:fxI c s x i t)(hi:i<(x.kids.length:Int)-1):x.kids.length-(i+1).toNat<x.kids.length-i.toNat:=by have:=h.1;omega
theorem b7l{c:BC}{n:Nat}{s t w:Bs}{x:Nd}{a i:Int}(hw:isB (Am [44,32] t) w)(hI:fxI c s x i t)(hx:fnP c n s x a):w.text.length≤s.text.length+422:=by
 have:=SI hI hx
 have h2:=a5s hw
 simp only[List.length_cons,List.length_nil] at h2;omega
theorem a6f{c:BC}{n:Nat}{s t:Bs}{x:Nd}{a i k:Int}{e:Nd}(hx:fnP c n s x a)(hI:fxI c s x i t)(hi:i<(x.kids.length:Int)-1)(hk:x.kids[i.toNat]? =some k)(he:c.ns[k.toNat]? =some e):e.text.length≤30:=a6e hx (Lq hI.1.1 hi hk) he
attribute [local irreducible] fxI cbI
def vaC(n:Nat)(x:BC×List Ru×List Ch×List Sn×List Ti×List UInt8×Int×Int)(i:List Ru×List Ch×List Sn×List Ti×List UInt8×Int):LS:= {ι:=List Ru×List Ch×List Sn×List Ti×List UInt8×Unit,inv:=fun j=>fxI x.1 (xC x) (Aa x.1.ns x.2.2.2.2.2.2.1) (zI i+1) ⟨j.1,j.2.1,j.2.2.1,j.2.2.2.1,j.2.2.2.2.1⟩,regs:=fun j=>[(0,suA x.1 ⟨j.1,j.2.1,j.2.2.1,j.2.2.2.1,j.2.2.2.2.1⟩),(2,.int .i64 x.2.2.2.2.2.2.2),(6,.box 0 (ndA false (Aa x.1.ns x.2.2.2.2.2.2.1))),(7,.int .i64 (((Aa x.1.ns x.2.2.2.2.2.2.1).kids.length:Int)-1)),(8,.int .i64 (zI i))],als:=[],meas:=fun _=>0}
def vaN(n:Nat)(x:BC×List Ru×List Ch×List Sn×List Ti×List UInt8×Int×Int):LS:= {ι:=List Ru×List Ch×List Sn×List Ti×List UInt8×Int,inv:=fun i=>fxI x.1 (xC x) (Aa x.1.ns x.2.2.2.2.2.2.1) (zI i) (zBW i),regs:=fun i=>[(0,suA x.1 (zBW i)),(2,.int .i64 x.2.2.2.2.2.2.2),(6,.box 0 (ndA false (Aa x.1.ns x.2.2.2.2.2.2.1))),(7,.int .i64 (((Aa x.1.ns x.2.2.2.2.2.2.1).kids.length:Int)-1)),(8,.int .i64 (zI i))],als:=[],meas:=fun i=>(Aa x.1.ns x.2.2.2.2.2.2.1).kids.length-(zI i).toNat,sub:=fun i=>[(100038,vaC n x i)]}
def vaL(n:Nat)(x:BC×List Ru×List Ch×List Sn×List Ti×List UInt8×Int×Int):LS:= {ι:=List Ru×List Ch×List Sn×List Ti×List UInt8×Int,inv:=fun i=>cbI x.1 n (xC x) x.2.2.2.2.2.2.1 x.2.2.2.2.2.2.2 (zI i) (zBW i),regs:=fun i=>[(0,suA x.1 (zBW i)),(2,.int .i64 x.2.2.2.2.2.2.2),(6,.box 0 (ndA false (Aa x.1.ns x.2.2.2.2.2.2.1))),(9,.int .i64 (AM x.1.rd (xC x))),(10,.int .i64 (zI i))],als:=[],meas:=fun i=>(Aa x.1.ns x.2.2.2.2.2.2.1).kids.length-(zI i).toNat}
def Hl(n:Nat):Sig:= {X:=BC×List Ru×List Ch×List Sn×List Ti×List UInt8×Int×Int,args:=fun x=>[suA x.1 (xC x),.int .i64 x.2.2.2.2.2.2.1,.int .i64 x.2.2.2.2.2.2.2],pre:=fun x=>vsP x.1.ns (n+1) (xC x) x.2.2.2.2.2.2.1 x.2.2.2.2.2.2.2,Y:=BT,post:=fun x y=>vsQ x.1 (n+1) (xC x) x.2.2.2.2.2.2.1 x.2.2.2.2.2.2.2 (yBW y),res:=fun x y=> .tup [],outs:=fun x y=>[suA x.1 (yBW y),.top,.top],keep:=true}
def Ye(n:Nat)(x:BC×List Ru×List Ch×List Sn×List Ti×List UInt8×Int×Int)(i:List Ru×List Ch×List Sn×List Ti×List UInt8×Int)(x_2:BQ.X)(y:BQ.Y):Prop:=((0:Int)≤zI i∧zI i<(↑(List.length (Aa x.1.ns x.2.2.2.2.2.2.1).kids):Int))∧(∀(e:Int),(Aa x.1.ns x.2.2.2.2.2.2.1).kids[Int.toNat (zI i)]? =some e→((0:Int)≤e∧e<(↑(List.length x_2.1.ns):Int))∧(∀(e_1:Nd),x_2.1.ns[Int.toNat e]? =some e_1→cA BQ [.box 0 [nds x_2.1.ns,.int .i64 x_2.1.ind,AV.sl true 0 2 Ru ruA (yBW y).rules,AV.sl true 0 5 Ch chA (yBW y).chunks,AV.sl true 0 3 Sn snA (yBW y).spans,AV.sl true 0 2 Ti tiA (yBW y).ties,.str (yBW y).text,.bool !x_2.1.rd],.str e_1.text] fun x_3 y=>true=true∧(eA (vaC n x i) [.box 0 [nds x_3.1.ns,.int .i64 x_3.1.ind,AV.sl true 0 2 Ru ruA (yBW y).rules,AV.sl true 0 5 Ch chA (yBW y).chunks,AV.sl true 0 3 Sn snA (yBW y).spans,AV.sl true 0 2 Ti tiA (yBW y).ties,.str (yBW y).text,.bool !x_3.1.rd],.int .i64 x.2.2.2.2.2.2.2,.box 0 [.int .i64 (Aa x.1.ns x.2.2.2.2.2.2.1).kind,.str (Aa x.1.ns x.2.2.2.2.2.2.1).text,Ad (Aa x.1.ns x.2.2.2.2.2.2.1).kids,.bool (Aa x.1.ns x.2.2.2.2.2.2.1).blank],.int .i64 ((↑(List.length (Aa x.1.ns x.2.2.2.2.2.2.1).kids):Int)-(1:Int)),.int .i64 (zI i)])))
def Yf(n:Nat)(x:BC×List Ru×List Ch×List Sn×List Ti×List UInt8×Int×Int)(i:List Ru×List Ch×List Sn×List Ti×List UInt8×Int):Prop:=((0:Int)≤zI i∧zI i<(↑(List.length (Aa x.1.ns x.2.2.2.2.2.2.1).kids):Int))∧(∀(e:Int),(Aa x.1.ns x.2.2.2.2.2.2.1).kids[Int.toNat (zI i)]? =some e→((0:Int)≤e∧e<(↑(List.length x.1.ns):Int))∧(∀(e_1:Nd),x.1.ns[Int.toNat e]? =some e_1→cA BQ [.box 0 [nds x.1.ns,.int .i64 x.1.ind,AV.sl true 0 2 Ru ruA (zBW i).rules,AV.sl true 0 5 Ch chA (zBW i).chunks,AV.sl true 0 3 Sn snA (zBW i).spans,AV.sl true 0 2 Ti tiA (zBW i).ties,.str (zBW i).text,.bool !x.1.rd],.str e_1.text] fun x_2 y=>true=true∧(eA (vaC n x i) [.box 0 [nds x_2.1.ns,.int .i64 x_2.1.ind,AV.sl true 0 2 Ru ruA (yBW y).rules,AV.sl true 0 5 Ch chA (yBW y).chunks,AV.sl true 0 3 Sn snA (yBW y).spans,AV.sl true 0 2 Ti tiA (yBW y).ties,.str (yBW y).text,.bool !x_2.1.rd],.int .i64 x.2.2.2.2.2.2.2,.box 0 [.int .i64 (Aa x.1.ns x.2.2.2.2.2.2.1).kind,.str (Aa x.1.ns x.2.2.2.2.2.2.1).text,Ad (Aa x.1.ns x.2.2.2.2.2.2.1).kids,.bool (Aa x.1.ns x.2.2.2.2.2.2.1).blank],.int .i64 ((↑(List.length (Aa x.1.ns x.2.2.2.2.2.2.1).kids):Int)-(1:Int)),.int .i64 (zI i)])))
def SL(n:Nat)(x:BC×List Ru×List Ch×List Sn×List Ti×List UInt8×Int×Int)(e:Nd):Prop:=cA BQ [.box 0 [nds x.1.ns,.int .i64 x.1.ind,AV.sl true 0 2 Ru ruA (xC x).rules,AV.sl true 0 5 Ch chA (xC x).chunks,AV.sl true 0 3 Sn snA (xC x).spans,AV.sl true 0 2 Ti tiA (xC x).ties,.str (xC x).text,.bool !x.1.rd],.str e.text] fun x_1 y=>rA (Hl n) x [.tup [],.box 0 [nds x_1.1.ns,.int .i64 x_1.1.ind,AV.sl true 0 2 Ru ruA (yBW y).rules,AV.sl true 0 5 Ch chA (yBW y).chunks,AV.sl true 0 3 Sn snA (yBW y).spans,AV.sl true 0 2 Ti tiA (yBW y).ties,.str (yBW y).text,.bool !x_1.1.rd],.top,.top]
def Yg(n:Nat)(x:BC×List Ru×List Ch×List Sn×List Ti×List UInt8×Int×Int)(i:List Ru×List Ch×List Sn×List Ti×List UInt8×Int):Prop:=∀(i_1:List Ru×List Ch×List Sn×List Ti×List UInt8×Unit),fxI x.1 (xC x) (Aa x.1.ns x.2.2.2.2.2.2.1) (zI i+(1:Int)) {rules:=i_1.1,chunks:=i_1.2.1,spans:=i_1.2.2.1,ties:=i_1.2.2.2.1,text:=i_1.2.2.2.2.1}→inR IntKind.i64 (zI i+(1:Int))∧(eN (vaN n x) i [.box 0 [nds x.1.ns,.int .i64 x.1.ind,AV.sl true 0 2 Ru ruA i_1.1,AV.sl true 0 5 Ch chA i_1.2.1,AV.sl true 0 3 Sn snA i_1.2.2.1,AV.sl true 0 2 Ti tiA i_1.2.2.2.1,.str i_1.2.2.2.2.1,.bool !x.1.rd],.int .i64 x.2.2.2.2.2.2.2,.box 0 [.int .i64 (Aa x.1.ns x.2.2.2.2.2.2.1).kind,.str (Aa x.1.ns x.2.2.2.2.2.2.1).text,Ad (Aa x.1.ns x.2.2.2.2.2.2.1).kids,.bool (Aa x.1.ns x.2.2.2.2.2.2.1).blank],.int .i64 ((↑(List.length (Aa x.1.ns x.2.2.2.2.2.2.1).kids):Int)-(1:Int)),.int .i64 (zI i+(1:Int))])
set_option maxHeartbeats 8000000 in
theorem b7m(n:Nat)(hc:Ah G Go.Proofs.Tryz.prog 49 (BR n))(hch:Ah G Go.Proofs.Tryz.prog 87 (Pd n)):Ah G Tryz.prog 49 (Hl n):=
 vcFun_okP [(50,0,BQ),(49,0,(BR n)),(48,0,DU),(47,0,Dt),(86,0,(JG n)),(87,0,(Pd n)),(88,0,(MY n))] [] false (fun x=>[(5,vaL n x),(34,vaN n x)]) Tryz.func49 rfl (by decide) ⟨MX,hc,OT,OV,(b5T n hc),hch,(b6v n hc),trivial⟩ (fun(x:BC×List Ru×List Ch×List Sn×List Ti×List UInt8×Int×Int)=>True∧((0:Int)≤x.2.2.2.2.2.2.1∧x.2.2.2.2.2.2.1<(↑(List.length x.1.ns):Int))∧∀(e:Nd),x.1.ns[Int.toNat x.2.2.2.2.2.2.1]? =some e→Ab (e.kind==(1:Int)) (SL n x e) (Ab (e.kind==(2:Int)) (SL n x e) (Ab (e.kind==(3:Int)) (SL n x e) (Ab (e.kind==(11:Int)) (cA BQ [.box 0 [nds x.1.ns,.int .i64 x.1.ind,AV.sl true 0 2 Ru ruA (xC x).rules,AV.sl true 0 5 Ch chA (xC x).chunks,AV.sl true 0 3 Sn snA (xC x).spans,AV.sl true 0 2 Ti tiA (xC x).ties,.str (xC x).text,.bool !x.1.rd],.str #[(40:UInt8)].toList] fun x_1 y=>((0:Int)≤(0:Int)∧(0:Int)<(↑(List.length e.kids):Int))∧∀(e_1:Int),e.kids[(0:Nat)]? =some e_1→cA (BR n) [.box 0 [nds x_1.1.ns,.int .i64 x_1.1.ind,AV.sl true 0 2 Ru ruA (yBW y).rules,AV.sl true 0 5 Ch chA (yBW y).chunks,AV.sl true 0 3 Sn snA (yBW y).spans,AV.sl true 0 2 Ti tiA (yBW y).ties,.str (yBW y).text,.bool !x_1.1.rd],.int .i64 e_1,.int .i64 x.2.2.2.2.2.2.2] fun x_2 y=>cA BQ [.box 0 [nds x_2.1.ns,.int .i64 x_2.1.ind,AV.sl true 0 2 Ru ruA (yBW y).rules,AV.sl true 0 5 Ch chA (yBW y).chunks,AV.sl true 0 3 Sn snA (yBW y).spans,AV.sl true 0 2 Ti tiA (yBW y).ties,.str (yBW y).text,.bool !x_2.1.rd],.str #[(41:UInt8)].toList] fun x_3 y=>rA (Hl n) x [.tup [],.box 0 [nds x_3.1.ns,.int .i64 x_3.1.ind,AV.sl true 0 2 Ru ruA (yBW y).rules,AV.sl true 0 5 Ch chA (yBW y).chunks,AV.sl true 0 3 Sn snA (yBW y).spans,AV.sl true 0 2 Ti tiA (yBW y).ties,.str (yBW y).text,.bool !x_3.1.rd],.top,.top]) (Ab (e.kind==(6:Int)) (((0:Int)≤(0:Int)∧(0:Int)<(↑(List.length e.kids):Int))∧∀(e_1:Int),e.kids[(0:Nat)]? =some e_1→cA (BR n) [.box 0 [nds x.1.ns,.int .i64 x.1.ind,AV.sl true 0 2 Ru ruA (xC x).rules,AV.sl true 0 5 Ch chA (xC x).chunks,AV.sl true 0 3 Sn snA (xC x).spans,AV.sl true 0 2 Ti tiA (xC x).ties,.str (xC x).text,.bool !x.1.rd],.int .i64 e_1,.int .i64 x.2.2.2.2.2.2.2] fun x_1 y=>(↑((1:Nat)+List.length e.text):Int)≤IntKind.max IntKind.i64∧cA BQ [.box 0 [nds x_1.1.ns,.int .i64 x_1.1.ind,AV.sl true 0 2 Ru ruA (yBW y).rules,AV.sl true 0 5 Ch chA (yBW y).chunks,AV.sl true 0 3 Sn snA (yBW y).spans,AV.sl true 0 2 Ti tiA (yBW y).ties,.str (yBW y).text,.bool !x_1.1.rd],.str (#[(46:UInt8)].toList++e.text)] fun x_2 y=>rA (Hl n) x [.tup [],.box 0 [nds x_2.1.ns,.int .i64 x_2.1.ind,AV.sl true 0 2 Ru ruA (yBW y).rules,AV.sl true 0 5 Ch chA (yBW y).chunks,AV.sl true 0 3 Sn snA (yBW y).spans,AV.sl true 0 2 Ti tiA (yBW y).ties,.str (yBW y).text,.bool !x_2.1.rd],.top,.top]) (Ab (e.kind==(4:Int)) (cA (JG n) [.box 0 [nds x.1.ns,.int .i64 x.1.ind,AV.sl true 0 2 Ru ruA (xC x).rules,AV.sl true 0 5 Ch chA (xC x).chunks,AV.sl true 0 3 Sn snA (xC x).spans,AV.sl true 0 2 Ti tiA (xC x).ties,.str (xC x).text,.bool !x.1.rd],.str #[(91:UInt8)].toList,Ad e.kids,.str #[(93:UInt8)].toList,.int .i64 x.2.2.2.2.2.2.2] fun x_1 y=>rA (Hl n) x [.tup [],.box 0 [nds x_1.1.ns,.int .i64 x_1.1.ind,AV.sl true 0 2 Ru ruA (yBW y).rules,AV.sl true 0 5 Ch chA (yBW y).chunks,AV.sl true 0 3 Sn snA (yBW y).spans,AV.sl true 0 2 Ti tiA (yBW y).ties,.str (yBW y).text,.bool !x_1.1.rd],.top,.top]) (Ab (e.kind==(5:Int)) (((0:Int)≤(0:Int)∧(0:Int)<(↑(List.length e.kids):Int))∧∀(e_1:Int),e.kids[(0:Nat)]? =some e_1→cA (BR n) [.box 0 [nds x.1.ns,.int .i64 x.1.ind,AV.sl true 0 2 Ru ruA (xC x).rules,AV.sl true 0 5 Ch chA (xC x).chunks,AV.sl true 0 3 Sn snA (xC x).spans,AV.sl true 0 2 Ti tiA (xC x).ties,.str (xC x).text,.bool !x.1.rd],.int .i64 e_1,.int .i64 x.2.2.2.2.2.2.2] fun x_1 y=>((0:Int)≤(1:Int)∧(1:Int)≤(↑(List.length e.kids):Int)∧(↑(List.length e.kids):Int)≤(↑(List.length e.kids):Int))∧cA (JG n) [.box 0 [nds x_1.1.ns,.int .i64 x_1.1.ind,AV.sl true 0 2 Ru ruA (yBW y).rules,AV.sl true 0 5 Ch chA (yBW y).chunks,AV.sl true 0 3 Sn snA (yBW y).spans,AV.sl true 0 2 Ti tiA (yBW y).ties,.str (yBW y).text,.bool !x_1.1.rd],.str #[(40:UInt8)].toList,Ad (List.drop (1:Nat) e.kids),.str #[(41:UInt8)].toList,.int .i64 x.2.2.2.2.2.2.2] fun x_2 y=>rA (Hl n) x [.tup [],.box 0 [nds x_2.1.ns,.int .i64 x_2.1.ind,AV.sl true 0 2 Ru ruA (yBW y).rules,AV.sl true 0 5 Ch chA (yBW y).chunks,AV.sl true 0 3 Sn snA (yBW y).spans,AV.sl true 0 2 Ti tiA (yBW y).ties,.str (yBW y).text,.bool !x_2.1.rd],.top,.top]) (Ab (e.kind==(7:Int)) (cA (Pd n) [.box 0 [nds x.1.ns,.int .i64 x.1.ind,AV.sl true 0 2 Ru ruA (xC x).rules,AV.sl true 0 5 Ch chA (xC x).chunks,AV.sl true 0 3 Sn snA (xC x).spans,AV.sl true 0 2 Ti tiA (xC x).ties,.str (xC x).text,.bool !x.1.rd],.agg [.int .i64 e.kind,.str e.text,Ad e.kids,.bool e.blank],.int .i64 x.2.2.2.2.2.2.2] fun x_1 y=>rA (Hl n) x [.tup [],.box 0 [nds x_1.1.ns,.int .i64 x_1.1.ind,AV.sl true 0 2 Ru ruA (yBW y).rules,AV.sl true 0 5 Ch chA (yBW y).chunks,AV.sl true 0 3 Sn snA (yBW y).spans,AV.sl true 0 2 Ti tiA (yBW y).ties,.str (yBW y).text,.bool !x_1.1.rd],.top,.top]) (Ab (e.kind==(8:Int)) (cA (MY n) [.box 0 [nds x.1.ns,.int .i64 x.1.ind,AV.sl true 0 2 Ru ruA (xC x).rules,AV.sl true 0 5 Ch chA (xC x).chunks,AV.sl true 0 3 Sn snA (xC x).spans,AV.sl true 0 2 Ti tiA (xC x).ties,.str (xC x).text,.bool !x.1.rd],.agg [.int .i64 e.kind,.str e.text,Ad e.kids,.bool e.blank],.int .i64 x.2.2.2.2.2.2.2] fun x_1 y=>rA (Hl n) x [.tup [],.box 0 [nds x_1.1.ns,.int .i64 x_1.1.ind,AV.sl true 0 2 Ru ruA (yBW y).rules,AV.sl true 0 5 Ch chA (yBW y).chunks,AV.sl true 0 3 Sn snA (yBW y).spans,AV.sl true 0 2 Ti tiA (yBW y).ties,.str (yBW y).text,.bool !x_1.1.rd],.top,.top]) (Ab (e.kind==(9:Int)) (cA BQ [.box 0 [nds x.1.ns,.int .i64 x.1.ind,AV.sl true 0 2 Ru ruA (xC x).rules,AV.sl true 0 5 Ch chA (xC x).chunks,AV.sl true 0 3 Sn snA (xC x).spans,AV.sl true 0 2 Ti tiA (xC x).ties,.str (xC x).text,.bool !x.1.rd],.str #[(40:UInt8)].toList] fun x_1 y=>inR IntKind.i64 ((↑(List.length e.kids):Int)-(1:Int))∧eA (vaN n x) [.box 0 [nds x_1.1.ns,.int .i64 x_1.1.ind,AV.sl true 0 2 Ru ruA (yBW y).rules,AV.sl true 0 5 Ch chA (yBW y).chunks,AV.sl true 0 3 Sn snA (yBW y).spans,AV.sl true 0 2 Ti tiA (yBW y).ties,.str (yBW y).text,.bool !x_1.1.rd],.int .i64 x.2.2.2.2.2.2.2,.box 0 [.int .i64 e.kind,.str e.text,Ad e.kids,.bool e.blank],.int .i64 ((↑(List.length e.kids):Int)-(1:Int)),.int .i64 (0:Int)]∧∀(i:List Ru×List Ch×List Sn×List Ti×List UInt8×Int),fxI x.1 (xC x) (Aa x.1.ns x.2.2.2.2.2.2.1) (zI i) (zBW i)→Ab (decide (zI i<(↑(List.length (Aa x.1.ns x.2.2.2.2.2.2.1).kids):Int)-(1:Int))) (Ab (decide (zI i>(0:Int))) (cA BQ [.box 0 [nds x.1.ns,.int .i64 x.1.ind,AV.sl true 0 2 Ru ruA (zBW i).rules,AV.sl true 0 5 Ch chA (zBW i).chunks,AV.sl true 0 3 Sn snA (zBW i).spans,AV.sl true 0 2 Ti tiA (zBW i).ties,.str (zBW i).text,.bool !x.1.rd],.str #[(44:UInt8),(32:UInt8)].toList] fun x_2 y=>true=true∧((Ye n x i x_2 y)∧(Ye n x i x_2 y))∧(Yg n x i)) (true=true∧((Yf n x i)∧(Yf n x i))∧(Yg n x i))) (cA BQ [.box 0 [nds x.1.ns,.int .i64 x.1.ind,AV.sl true 0 2 Ru ruA (zBW i).rules,AV.sl true 0 5 Ch chA (zBW i).chunks,AV.sl true 0 3 Sn snA (zBW i).spans,AV.sl true 0 2 Ti tiA (zBW i).ties,.str (zBW i).text,.bool !x.1.rd],.str #[(41:UInt8),(32:UInt8),(61:UInt8),(62:UInt8)].toList] fun x_2 y=>cA DU [.box 0 [nds x_2.1.ns,.int .i64 x_2.1.ind,AV.sl true 0 2 Ru ruA (yBW y).rules,AV.sl true 0 5 Ch chA (yBW y).chunks,AV.sl true 0 3 Sn snA (yBW y).spans,AV.sl true 0 2 Ti tiA (yBW y).ties,.str (yBW y).text,.bool !x_2.1.rd],.int .i64 (2:Int),.int .i64 (2:Int)] fun x_3 y=>inR IntKind.i64 (x.2.2.2.2.2.2.2+(4:Int))∧cA Dt [.box 0 [nds x_3.1.ns,.int .i64 x_3.1.ind,AV.sl true 0 2 Ru ruA (yBW y).rules,AV.sl true 0 5 Ch chA (yBW y).chunks,AV.sl true 0 3 Sn snA (yBW y).spans,AV.sl true 0 2 Ti tiA (yBW y).ties,.str (yBW y).text,.bool !x_3.1.rd],.int .i64 (AM x_3.1.rd (xC x_3)),.int .i64 (1:Int),.bool true,.int .i64 (x.2.2.2.2.2.2.2+(4:Int))] fun x_4 y=>((0:Int)≤(↑(List.length (Aa x.1.ns x.2.2.2.2.2.2.1).kids):Int)-(1:Int)∧(↑(List.length (Aa x.1.ns x.2.2.2.2.2.2.1).kids):Int)-(1:Int)<(↑(List.length (Aa x.1.ns x.2.2.2.2.2.2.1).kids):Int))∧∀(e:Int),(Aa x.1.ns x.2.2.2.2.2.2.1).kids[Int.toNat ((↑(List.length (Aa x.1.ns x.2.2.2.2.2.2.1).kids):Int)-(1:Int))]? =some e→inR IntKind.i64 (x.2.2.2.2.2.2.2+(4:Int))∧cA (BR n) [.box 0 [nds x_4.1.ns,.int .i64 x_4.1.ind,AV.sl true 0 2 Ru ruA (yBW y).rules,AV.sl true 0 5 Ch chA (yBW y).chunks,AV.sl true 0 3 Sn snA (yBW y).spans,AV.sl true 0 2 Ti tiA (yBW y).ties,.str (yBW y).text,.bool !x_4.1.rd],.int .i64 e,.int .i64 (x.2.2.2.2.2.2.2+(4:Int))] fun x_5 y=>rA (Hl n) x [.tup [],.box 0 [nds x_5.1.ns,.int .i64 x_5.1.ind,AV.sl true 0 2 Ru ruA (yBW y).rules,AV.sl true 0 5 Ch chA (yBW y).chunks,AV.sl true 0 3 Sn snA (yBW y).spans,AV.sl true 0 2 Ti tiA (yBW y).ties,.str (yBW y).text,.bool !x_5.1.rd],.top,.top])) (cA DU [.box 0 [nds x.1.ns,.int .i64 x.1.ind,AV.sl true 0 2 Ru ruA (xC x).rules,AV.sl true 0 5 Ch chA (xC x).chunks,AV.sl true 0 3 Sn snA (xC x).spans,AV.sl true 0 2 Ti tiA (xC x).ties,.str (xC x).text,.bool !x.1.rd],.int .i64 (2:Int),.int .i64 (1:Int)] fun x_1 y=>((0:Int)≤(0:Int)∧(0:Int)<(↑(List.length e.kids):Int))∧∀(e_1:Int),e.kids[(0:Nat)]? =some e_1→cA (BR n) [.box 0 [nds x_1.1.ns,.int .i64 x_1.1.ind,AV.sl true 0 2 Ru ruA (yBW y).rules,AV.sl true 0 5 Ch chA (yBW y).chunks,AV.sl true 0 3 Sn snA (yBW y).spans,AV.sl true 0 2 Ti tiA (yBW y).ties,.str (yBW y).text,.bool !x_1.1.rd],.int .i64 e_1,.int .i64 x.2.2.2.2.2.2.2] fun x_2 y=>eA (vaL n x) [.box 0 [nds x_2.1.ns,.int .i64 x_2.1.ind,AV.sl true 0 2 Ru ruA (yBW y).rules,AV.sl true 0 5 Ch chA (yBW y).chunks,AV.sl true 0 3 Sn snA (yBW y).spans,AV.sl true 0 2 Ti tiA (yBW y).ties,.str (yBW y).text,.bool !x_2.1.rd],.int .i64 x.2.2.2.2.2.2.2,.box 0 [.int .i64 e.kind,.str e.text,Ad e.kids,.bool e.blank],.int .i64 (AM x_1.1.rd (xC x_1)),.int .i64 (1:Int)]∧∀(i:List Ru×List Ch×List Sn×List Ti×List UInt8×Int),cbI x.1 n (xC x) x.2.2.2.2.2.2.1 x.2.2.2.2.2.2.2 (zI i) (zBW i)→Ab (decide (zI i<(↑(List.length (Aa x.1.ns x.2.2.2.2.2.2.1).kids):Int))) (inR IntKind.i64 (x.2.2.2.2.2.2.2+(4:Int))∧cA Dt [.box 0 [nds x.1.ns,.int .i64 x.1.ind,AV.sl true 0 2 Ru ruA (zBW i).rules,AV.sl true 0 5 Ch chA (zBW i).chunks,AV.sl true 0 3 Sn snA (zBW i).spans,AV.sl true 0 2 Ti tiA (zBW i).ties,.str (zBW i).text,.bool !x.1.rd],.int .i64 (AM x.1.rd (xC x)),.int .i64 (1:Int),.bool false,.int .i64 (x.2.2.2.2.2.2.2+(4:Int))] fun x_3 y=>cA BQ [.box 0 [nds x_3.1.ns,.int .i64 x_3.1.ind,AV.sl true 0 2 Ru ruA (yBW y).rules,AV.sl true 0 5 Ch chA (yBW y).chunks,AV.sl true 0 3 Sn snA (yBW y).spans,AV.sl true 0 2 Ti tiA (yBW y).ties,.str (yBW y).text,.bool !x_3.1.rd],.str #[(46:UInt8),(46:UInt8)].toList] fun x_4 y=>((0:Int)≤zI i∧zI i<(↑(List.length (Aa x.1.ns x.2.2.2.2.2.2.1).kids):Int))∧∀(e:Int),(Aa x.1.ns x.2.2.2.2.2.2.1).kids[Int.toNat (zI i)]? =some e→inR IntKind.i64 (x.2.2.2.2.2.2.2+(4:Int))∧cA (BR n) [.box 0 [nds x_4.1.ns,.int .i64 x_4.1.ind,AV.sl true 0 2 Ru ruA (yBW y).rules,AV.sl true 0 5 Ch chA (yBW y).chunks,AV.sl true 0 3 Sn snA (yBW y).spans,AV.sl true 0 2 Ti tiA (yBW y).ties,.str (yBW y).text,.bool !x_4.1.rd],.int .i64 e,.int .i64 (x.2.2.2.2.2.2.2+(4:Int))] fun x_5 y=>inR IntKind.i64 (zI i+(1:Int))∧eN (vaL n x) i [.box 0 [nds x_5.1.ns,.int .i64 x_5.1.ind,AV.sl true 0 2 Ru ruA (yBW y).rules,AV.sl true 0 5 Ch chA (yBW y).chunks,AV.sl true 0 3 Sn snA (yBW y).spans,AV.sl true 0 2 Ti tiA (yBW y).ties,.str (yBW y).text,.bool !x_5.1.rd],.int .i64 x.2.2.2.2.2.2.2,.box 0 [.int .i64 (Aa x.1.ns x.2.2.2.2.2.2.1).kind,.str (Aa x.1.ns x.2.2.2.2.2.2.1).text,Ad (Aa x.1.ns x.2.2.2.2.2.2.1).kids,.bool (Aa x.1.ns x.2.2.2.2.2.2.1).blank],.int .i64 (AM x.1.rd (xC x)),.int .i64 (zI i+(1:Int))]) (rA (Hl n) x [.tup [],.box 0 [nds x.1.ns,.int .i64 x.1.ind,AV.sl true 0 2 Ru ruA (zBW i).rules,AV.sl true 0 5 Ch chA (zBW i).chunks,AV.sl true 0 3 Sn snA (zBW i).spans,AV.sl true 0 2 Ti tiA (zBW i).ties,.str (zBW i).text,.bool !x.1.rd],.top,.top])))))))))))) (fun x=>by kernel_rfl) fun(x:BC×List Ru×List Ch×List Sn×List Ti×List UInt8×Int×Int) (hx:vsP x.1.ns (n+1) (xC x) x.2.2.2.2.2.2.1 x.2.2.2.2.2.2.2)=>(by
 dsimp only[Yg,SL,Yf,Ye,cA,Bl,eA,eN,Ad,Bg,nds,rA,Bj,Pd,JG,MY,BQ,DU,Dt,BR,Hl,Bm,suA,Bn,vaC,vaL,vaN,Aq,Aw,mvL,lnL,mvE,lnE,mvG,mvH,lnG,lnH,AZ]
 obtain⟨b,r,c,s,t,u,k,a⟩:=x;dsimp only[xC] at hx ⊢
 have hx:vsP b.ns (n+1) ⟨r,c,s,t,u⟩ k a:=hx
 have h1:=hx.ar;have hr:=Bc.1 hx.up.1;have hv:=EX hx
 have hz:=a5y hv;have h1t:=a5z hv;have hkl:=JI hv;dsimp only at h1t
 simp only[hz,Option.some.injEq,forall_eq']
 (repeat' first|(with_reducible first|rfl|exact True.intro|apply AG|apply And.intro|((first|apply Au|apply AE|apply Av|apply AF)<;>intro _))|(apply As<;>intro _)|apply AD|refine Af () ?_ ?_|((first|apply AK|apply AJ|apply AI|apply AH|apply AC|apply AB|apply AA|apply Az|apply Ax)<;>try dsimp only)|apply Af|(refine Prod.forall.2 ?_;intro _;try dsimp only)|(intro _;try dsimp only))
 all_goals(try dsimp only[yBW,xC,zBW,zI,wB] at*)
 all_goals first
  |with_reducible rfl
  |with_reducible assumption
  |omega
  |exact b6A ‹_› (by omega)
  |exact b6B hx ‹_› ‹_›
  |exact b6D ‹_› ‹_› ‹_› ‹_› ‹_›
  |exact b6E hx ‹_›
  |exact b6G ‹_› ‹_› ‹_› ‹_›
  |exact b6H hx
  |exact b6I ‹_› ‹_›
  |exact b6J ‹_› hx ‹_›
  |exact b6K ‹_› ‹_› ‹_› ‹_›
  |exact b6L hx ‹_›
  |exact b6M ‹_› hx ‹_›
  |exact b6N hx ‹_›
  |exact b6O ‹_› hx ‹_›
  |exact CY (IH hv)
  |exact b6P ‹_›
  |exact b7e ‹_› ‹_› ‹_› ‹_› ‹_› ‹_› ‹_›
  |exact b7f ‹_› ‹_› ‹_› ‹_› ‹_› ‹_›
  |exact b7g ‹_› ‹_› ‹_› hx ‹_›
  |exact b7h ‹_› ‹_› ‹_› ‹_› hx ‹_›
  |exact b7i ‹_› ‹_› ‹_› ‹_› ‹_› hx ‹_› ‹_›
  |exact b7j ‹_› ‹_› ‹_› ‹_› ‹_› ‹_› hx ‹_› ‹_›
  |exact b6V ‹_› hx ‹_›
  |exact b6X ‹_› ‹_› hx ‹_›
  |exact b6Z ‹_› ‹_›
  |exact b7b ‹_› ‹_› ‹_› hx ‹_›
  |exact b7c ‹_› ‹_› ‹_› ‹_› hx ‹_›
  |exact b7d ‹_› hx ‹_› (k10 hx (by omega))
  |((try simp only[Ai,List.length_append,List.length_cons,List.length_nil]);omega)
  |(have hq:=XS hv ‹_› ‹_› ‹_› (by first|assumption|omega);(try simp only[Ai]);omega)
  |(have hq:=b6C ‹_› ‹_› hx ‹_›;dsimp only at hq;(try simp only[Ai,List.length_append,List.length_cons,List.length_nil]);omega)
  |(have hq:=b6F ‹_› hx ‹_›;dsimp only at hq;(try simp only[Ai,List.length_append,List.length_cons,List.length_nil]);omega)
  |(have hq:=Yd (show fxI _ _ _ _ _ by assumption);(try simp only[Ai]);omega)
  |(have hq:=Yd (show fxI _ _ _ _ _ by assumption);have hf:=IJ hx ‹_›;have hk:=Lq hq.1 ‹_› ‹_›;have hd:=a5i hf hk;(try simp only[Ai]);omega)
  |(have hq:=Yd (show fxI _ _ _ _ _ by assumption);have hf:=IJ hx ‹_›;have hl:=SI (show fxI _ _ _ _ _ by assumption) hf;have hk:=Lq hq.1 ‹_› ‹_›;have he:=a6e hf hk ‹_›;dsimp only at hl;(try simp only[Ai,List.length_append,List.length_cons,List.length_nil]);omega)
  |(have hf:=IJ hx ‹_›;have hl:=SI (show fxI _ _ _ _ _ by assumption) hf;dsimp only at hl;(try simp only[Ai,List.length_append,List.length_cons,List.length_nil]);omega)
  |(have hq:=b6Y (show cbI _ _ _ _ _ _ _ by assumption) hx;(try have hk:=Pf hx ‹_›);(try simp only[Ai]);omega)
  |(have hq:=Yb (show cbI _ _ _ _ _ _ _ by assumption) ‹_›;obtain⟨d,hd⟩:=hq;have hk:=Pf hx hd;have hm:=Cv hx.up (AY hd);(try simp only[Ai]);omega)
  |(have hq:=b7a ‹_› ‹_› hx ‹_›;dsimp only at hq;(try simp only[Ai,List.length_append,List.length_cons,List.length_nil]);omega)
  |(have hk:=Pf hx ‹_›;have hm:=Cv hx.up (AY (show(Aa b.ns k).kids[_]? =some _ by assumption));(try simp only[Ai]);omega)
  |exact b7k ‹_› ‹_›
  |(have hf:=IJ hx ‹_›;have hw:=b7l ‹_› ‹_› hf;have he:=a6f hf ‹_› ‹_› ‹_› ‹_›;dsimp only at hw;omega)
  |(have hf:=IJ hx ‹_›;have hw:=SI ‹_› hf;have he:=a6f hf ‹_› ‹_› ‹_› ‹_›;dsimp only at hw;omega)
  |exact()
  |rfl
  |skip)
end Go.My
end
section
namespace Go.My
open Go.Eng Go.Proofs
variable {G:GInv}
theorem b7n(n:Nat)(hc:Ah G Go.Proofs.Tryz.prog 49 (BR n)):Ah G Go.Proofs.Tryz.prog 87 (Pd n):=
 ⟨⟨(a5v n hc).1.1,fun _ _ _ _=>trivial⟩,fun x hx=>(a5v n hc).2 x ⟨hx.cn,hx.ar⟩⟩
theorem b7o:Ah G Go.Proofs.Tryz.prog 49 (BR 0):=
 ⟨⟨⟨_,Go.Proofs.Tryz.func49,by kernel_rfl,by kernel_rfl⟩,fun x y _ _=>trivial⟩,fun x hx=>by
   exfalso
   have hx:vsP x.1.ns 0 (xC x) x.2.2.2.2.2.2.1 x.2.2.2.2.2.2.2:=hx
   have h1:=Bc.1 hx.up.1
   have h2:=hx.lt
   omega⟩
theorem SM:∀n,Ah G Go.Proofs.Tryz.prog 49 (BR n)
 |0=>b7o
 |n+1=>b7m n (SM n) (b7n n (SM n))
end Go.My
end
section
namespace Go.My
open Go.Eng
theorem Fp{s t:List UInt8}:Bf (s++t)=(Bf s&&Bf t):=by simp [Bf]
theorem b7p{c:UInt8}(h:Cr c=true):Bx c=true:=by
 simp only[Cr,CF,Bu,Bool.or_eq_true,Bool.and_eq_true,decide_eq_true_eq] at h
 simp only[Bx,Bool.and_eq_true,decide_eq_true_eq];omega
theorem b7q{c:UInt8}(h:Bu c=true):Bx c=true:=by
 simp only[Bu,Bool.or_eq_true,Bool.and_eq_true,decide_eq_true_eq] at h
 simp only[Bx,Bool.and_eq_true,decide_eq_true_eq];omega
theorem a6g{p:UInt8→Bool}(hp:∀c,p c=true→Bx c=true){s:List UInt8}(h:s.all p=true):Bf s=true:=by
 rw[Bf,List.all_eq_true];rw[List.all_eq_true] at h
 exact fun c hc=>hp c (h c hc)
theorem a6h{s:List UInt8}(h:Da s=true):Bf s=true:=by
 simp only[Da,Bool.and_eq_true] at h
 have h:=h.1
 rw[VA] at h
 cases s with
 |nil=>rfl
 |cons b s=>
  simp only[Bool.and_eq_true] at h
  exact a6g (fun c hc=>b7p hc) h.2.1
theorem b7r{s:List UInt8}(h:BX s 2=true):Bf s=true:=by
 rw[VB] at h
 simp only[Bool.and_eq_true] at h
 exact a6g (fun c hc=>b7q hc) h.1
theorem b7s{s:List UInt8}(h:BX s 3=true):Bf s=true:=by
 have h2:=h
 rw[Qt] at h2
 cases s with
 |nil=>rfl
 |cons c t=>
  simp only[Bool.and_eq_true] at h2
  have h39:c.toNat=39:=by simpa [isQ] using h2.1
  have hc:CF c=false:=by simp [CF];omega
  have hf:Bu c=false:=by simp [Bu];omega
  simp only[BX,Cp,hc,hf,h39,Bool.false_eq_true,if_false,if_true,Bool.and_eq_true,beq_iff_eq] at h
  obtain⟨_,h4,_,h5,_⟩:=h
  unfold Et at h4 h5
  split at h4
  ·cases h4
  ·rename_i i hi
   simp only[hi] at h5
   rw[h5] at h4;exact h4
theorem b7t{s:List UInt8}(h:Il s=true):Bf s=true:=by
 simp only[Il,Bool.or_eq_true,beq_iff_eq] at h
 rcases h with rfl|rfl|rfl|rfl|rfl|rfl|rfl<;>decide
theorem b7u{k:Int}{s:List UInt8}(h:Dy k s=true)(hk:AX k=true):Bf s=true:=by
 have hv:=Br.1 hk
 unfold Dy at h
 split at h
 ·exact a6h h
 split at h
 ·exact b7r h
 split at h
 ·exact b7s h
 split at h
 ·omega
 split at h
 ·exact b7t h
 ·simp at h;rw[h];rfl
structure bW (s:Bs):Prop where
 ru:∀r∈s.rules,(2≤r.vals∧r.vals≤3)∧1≤r.cost∧r.cost≤2
 ch:∀c∈s.chunks,Bf c.text=true∧(0≤c.rule∧c.rule<s.rules.length)∧(1≤c.fr∧c.fr<(s.rules.getD c.rule.toNat ru0).vals)∧0≤c.nest∧c.nest≤40
 sp:∀x∈s.spans,(0≤x.fr∧x.fr≤x.tuu∧x.tuu<s.chunks.length)∧x.cost=1
 ti:∀x∈s.ties,(0≤x.kid∧x.kid<s.rules.length)∧(0≤x.up∧x.up<s.rules.length)∧x.kid≠x.up
 tx:Bf s.text=true
structure bG (s t:Bs):Prop where
 w:bW t
 ru:∃e,t.rules=s.rules++e
def rIn(s:Bs)(r fr:Int):Prop:=r<0∨((0≤r∧r<s.rules.length)∧fr<(s.rules.getD r.toNat ru0).vals)
theorem a6i{α:Type}{l e:List α}{i:Nat}{d:α}(h:i<l.length):(l++e).getD i d=l.getD i d:=by simp [List.getD,List.getElem?_append_left h]
theorem Gb{s t:Bs}{r fr:Int}(h:rIn s r fr)(g:bG s t):rIn t r fr:=by
 obtain⟨e,he⟩:=g.ru
 rcases h with h|⟨h1,h2⟩
 ·exact .inl h
 ·refine .inr ⟨by rw[he,List.length_append];omega,?_⟩
  rw[he,a6i (by omega)];exact h2
theorem Hm{s:Bs}(h:bW s):bG s s:=⟨h,[],by simp⟩
theorem CB{s t u:Bs}(h:bG s t)(g:bG t u):bG s u:=by
 obtain⟨e,he⟩:=h.ru;obtain⟨f,hf⟩:=g.ru
 exact⟨g.w,e++f,by rw[hf,he,List.append_assoc]⟩
theorem Gc{s:Bs}{t:List UInt8}(h:bW s)(ht:Bf t=true):bG s (Am t s):=⟨⟨h.ru,h.ch,h.sp,h.ti,by show Bf (s.text++t)=true;rw[Fp,h.tx,ht];rfl⟩,[],by simp [Am]⟩
theorem Na{rd:Bool}{v c:Int}{s:Bs}(h:bW s)(hv:2≤v∧v≤3)(hc:1≤c∧c≤2):bG s (Be rd v c s):=by
 unfold Be
 split
 ·refine⟨⟨fun r hr=> ?_,fun x hx=> ?_,h.sp,fun x hx=> ?_,h.tx⟩,[⟨v,c⟩],rfl⟩
  ·rcases List.mem_append.1 hr with hr|hr
   ·exact h.ru r hr
   ·simp at hr;subst hr;exact⟨hv,hc⟩
  ·have:=h.ch x hx
   simp only[List.length_append,List.length_cons,List.length_nil]
   rw[a6i (by omega)]
   exact⟨this.1,by omega,this.2.2⟩
  ·have:=h.ti x hx
   simp only[List.length_append,List.length_cons,List.length_nil]
   omega
 ·exact Hm h
theorem Nb{rd:Bool}{v c fr:Int}{s:Bs}(hf:fr<v):rIn (Be rd v c s) (AM rd s) fr:=by
 unfold Be AM
 split
 ·refine .inr ⟨by simp;omega,?_⟩
  simp [List.getD,hf]
 ·exact .inl (by omega)
theorem JJ{r fr nest:Int}{sp:Bool}{s:Bs}(h:bW s)(hr:rIn s r fr)(hf:1≤fr)(hn:0≤nest):bG s (AU r fr sp nest s):=by
 unfold AU
 split
 ·rename_i hc
  refine⟨⟨h.ru,fun x hx=> ?_,fun x hx=> ?_,h.ti,rfl⟩,[],by simp⟩
  ·rcases List.mem_append.1 hx with hx|hx
   ·exact h.ch x hx
   ·simp at hx;subst hx
    rcases hr with hr|hr
    ·omega
    ·exact⟨h.tx,hr.1,⟨hf,hr.2⟩,by show 0≤min nest 40;omega,by show min nest 40≤40;omega⟩
  ·have:=h.sp x hx
   simp only[List.length_append,List.length_cons,List.length_nil]
   omega
 ·split
  ·exact Gc h rfl
  ·exact Hm h
theorem b7v{k u:Int}{s:Bs}(h:bW s)(hk:k<s.rules.length)(hu:u<s.rules.length)(hne:0≤k→k≠u):bG s (CI k u s):=by
 unfold CI
 split
 ·rename_i hc
  refine⟨⟨h.ru,h.ch,h.sp,fun x hx=> ?_,h.tx⟩,[],by simp⟩
  rcases List.mem_append.1 hx with hx|hx
  ·exact h.ti x hx
  ·simp at hx;subst hx
   exact⟨⟨hc.1.1,hk⟩,⟨hc.1.2,hu⟩,hne hc.1.1⟩
 ·exact Hm h
theorem b7w{f:Int}{s:Bs}(h:bW s)(hf:0≤f):bG s (Fk f s):=by
 unfold Fk
 split
 ·rename_i hc
  refine⟨⟨h.ru,h.ch,fun x hx=> ?_,h.ti,h.tx⟩,[],by simp⟩
  rcases List.mem_append.1 hx with hx|hx
  ·exact h.sp x hx
  ·simp at hx;subst hx
   exact⟨⟨hf,hc.1,by show(s.chunks.length:Int)-1<s.chunks.length;omega⟩,rfl⟩
 ·exact Hm h
def JK(f:Int→Int→Bs→Bs)(l:List Int):Prop:=∀c∈l,∀a s,0≤a→bW s→bG s (f c a s)
theorem SN{f:Int→Int→Bs→Bs}{c:Int}{l:List Int}(h:JK f (c::l)):JK f l:=fun d hd=>h d (by simp [hd])
theorem a6j{f:Int→Int→Bs→Bs}{r g inner:Int}(hg:1≤g)(hi:0≤inner):∀ {l:List Int} {first:Bool} {s:Bs},JK f l→bW s→rIn s r g→bG s (itL f r g inner l first s)
 |[],_,s,_,h,_=>Hm h
 |c::l,first,s,hf,h,hr=>by
  have h1:bG s (if first then s else AU r g true inner (Am [44] s)):=by
   split
   ·exact Hm h
   ·have h2:=Gc h (t:=[44]) rfl
    exact CB h2 (JJ h2.w (Gb hr h2) hg hi)
  have h2:=CB h1 (hf c (by simp) inner _ hi h1.w)
  rw[itL]
  exact CB h2 (a6j hg hi (SN hf) h2.w (Gb hr h2))
theorem a6k{rd:Bool}{f:Int→Int→Bs→Bs}{op en:List UInt8}{ks:List Int}{a:Int}{s:Bs}(hf:JK f ks)(h:bW s)(ho:Bf op=true)(he:Bf en=true)(ha:0≤a):bG s (Ee rd f op ks en a s):=by
 have h1:=Gc h ho
 unfold Ee
 split
 ·exact CB h1 (Gc h1.w he)
 ·rename_i hne
  have hk:0<ks.length:=List.length_pos_iff.2 hne
  have hu:0≤up4 a:=by unfold up4;omega
  have h2:=CB h1 (Na (rd:=rd) (v:=min ks.length 2+1) (c:=1) h1.w (by omega) (by omega))
  have hr:∀g:Int,g<min ks.length 2+1→rIn (Be rd (min ks.length 2+1) 1 (Am op s)) (AM rd (Am op s)) g:=fun g hg=>Nb hg
  have h3:=JJ (nest:=up4 a) (sp:=false) h2.w (hr 1 (by omega)) (by omega) hu
  have h4:=a6j (g:=min ks.length 2) (first:=true) (by omega) hu hf h3.w (Gb (hr (min ks.length 2) (by omega)) h3)
  have h5:=JJ (nest:=a) (sp:=false) h4.w (Gb (Gb (hr 1 (by omega)) h3) h4) (by omega) ha
  exact CB h2 (CB h3 (CB h4 (CB h5 (Gc h5.w he))))
theorem Yh{s:Bs}{r fr:Int}(h:rIn s r fr):r<s.rules.length:=by rcases h with h|h<;>omega
theorem b7x{n:Nat}{s:Bs}:DB n s<s.rules.length:=by unfold DB;split<;>omega
theorem a6l{n:Nat}{s t:Bs}{r:Int}(hn:r<n)(hg:bG s t)(hr:rIn s r 1):bG s (CI (DB n t) r t):=
 CB hg (b7v hg.w b7x (Yh (Gb hr hg)) (fun h=>by unfold DB at h ⊢;split at h<;>simp_all<;>omega))
theorem b7y{ns:List Nd}{f:Int→Int→Bs→Bs}{r inner c:Int}{s:Bs}(hf:∀a s,0≤a→bW s→bG s (f c a s))(hi:0≤inner)(h:bW s)(hr:rIn s r 1):bG s (Ir ns f r inner c s):=by
 have h1:=hf inner s hi h
 have h2:bG s (if Al ns c=7 then CI (DB s.rules.length (f c inner s)) r (f c inner s) else f c inner s):=by
  split
  ·exact a6l (by have:=Yh hr;omega) h1 hr
  ·exact h1
 unfold Ir
 simp only
 split
 ·exact h2
 ·exact CB h2 (b7w h2.w (by omega))
theorem a6m{ns:List Nd}{f:Int→Int→Bs→Bs}{r inner:Int}{t:List UInt8}(hi:0≤inner)(ht:Bf t=true):∀ {l:List Int} {first:Bool} {s:Bs},JK f l→bW s→rIn s r 1→bG s (chL ns f r inner t l first s)
 |[],_,s,_,h,_=>Hm h
 |c::l,first,s,hf,h,hr=>by
  have h1:bG s (if first then s else AU r 1 true inner (Am (32::t) s)):=by
   split
   ·exact Hm h
   ·have h2:=Gc h (t:=32::t) (by rw[show(32::t:List UInt8)=[32]++t from rfl,Fp,ht];rfl)
    exact CB h2 (JJ h2.w (Gb hr h2) (by omega) hi)
  have h2:=CB h1 (b7y (ns:=ns) (hf c (by simp)) hi h1.w (Gb hr h1))
  rw[chL]
  exact CB h2 (a6m hi ht (SN hf) h2.w (Gb hr h2))
theorem b7z{ns:List Nd}{f:Int→Int→Bs→Bs}{r inner c:Int}{s:Bs}(hf:∀a s,0≤a→bW s→bG s (f c a s))(hi:0≤inner)(h:bW s)(hr:rIn s r 1):bG s (It ns f r inner c s):=by
 have h1:=hf inner s hi h
 unfold It
 split
 ·exact a6l (by have:=Yh hr;omega) h1 hr
 ·exact h1
theorem b7A{i:Int}:Bf (pkT i)=true:=by
 unfold pkT;split
 ·rfl
 ·split<;>rfl
theorem a6n{ns:List Nd}{f:Int→Int→Bs→Bs}{r inner:Int}(hi:0≤inner):∀ {l:List Int} {i:Int} {s:Bs},JK f l→bW s→rIn s r 1→bG s (pkL ns f r inner l i s)
 |[],_,s,_,h,_=>Hm h
 |c::l,i,s,hf,h,hr=>by
  have h1:bG s (if i=0 then s else Am (pkT i) (AU r 1 true inner s)):=by
   split
   ·exact Hm h
   ·have h2:=JJ (nest:=inner) (sp:=true) h hr (by omega) hi
    exact CB h2 (Gc h2.w b7A)
  have h2:=CB h1 (b7z (ns:=ns) (hf c (by simp)) hi h1.w (Gb hr h1))
  rw[pkL]
  exact CB h2 (a6n hi (SN hf) h2.w (Gb hr h2))
theorem a6o{f:Int→Int→Bs→Bs}{r inner:Int}(hi:0≤inner):∀ {l:List Int} {s:Bs},JK f l→bW s→rIn s r 1→bG s (caL f r inner l s)
 |[],s,_,h,_=>Hm h
 |c::l,s,hf,h,hr=>by
  have h1:=JJ (nest:=inner) (sp:=false) h hr (by omega) hi
  have h2:=CB h1 (Gc (t:=[46,46]) h1.w rfl)
  have h3:=CB h2 (hf c (by simp) inner _ hi h2.w)
  rw[caL]
  exact CB h3 (a6o hi (SN hf) h3.w (Gb hr h3))
theorem a6p{ns:List Nd}:∀ {l:List Int} {first:Bool},(∀c∈l,Bf (Aa ns c).text=true)→Bf (DC ns l first)=true
 |[],_,_=>rfl
 |c::l,first,h=>by
  rw[DC,Fp,Fp,h c (by simp),a6p fun d hd=>h d (by simp [hd])]
  split<;>rfl
theorem b7B{rd:Bool}{ns:List Nd}{f:Int→Int→Bs→Bs}{x:Nd}{a:Int}{s:Bs}(hf:JK f x.kids)(h:bW s)(ha:0≤a)(hx:Bf x.text=true)(hn:∀c∈x.kids,Bf (Aa ns c).text=true)
 (hp:x.kind≠1→x.kind≠2→x.kind≠3→x.kind≠4→0<x.kids.length):bG s (bV1 ns rd f x a s):=by
 have hu:0≤up4 a:=by unfold up4;omega
 unfold bV1
 split
 ·exact Gc h hx
 split
 ·have h1:=Gc (t:=[40]) h rfl
  have h2:=hf _ (DS (x:=x) (i:=0) (hp (by omega) (by omega) (by omega) (by omega))) a _ ha h1.w
  exact CB (CB h1 h2) (Gc h2.w rfl)
 split
 ·have h2:=hf _ (DS (x:=x) (i:=0) (hp (by omega) (by omega) (by omega) (by omega))) a _ ha h
  exact CB h2 (Gc h2.w (by rw[show(46::x.text:List UInt8)=[46]++x.text from rfl,Fp,hx];rfl))
 split
 ·exact a6k hf h rfl rfl ha
 split
 ·have h2:=hf _ (DS (x:=x) (i:=0) (hp (by omega) (by omega) (by omega) (by omega))) a _ ha h
  exact CB h2 (a6k (fun c hc=>hf c (List.mem_of_mem_drop hc)) h2.w rfl rfl ha)
 split
 ·have h1:=Na (rd:=rd) (v:=2) (c:=1) h (by omega) (by omega)
  exact CB h1 (a6m hu hx hf h1.w (Nb (by omega)))
 split
 ·have h1:=Na (rd:=rd) (v:=2) (c:=1) h (by omega) (by omega)
  exact CB h1 (a6n hu hf h1.w (Nb (by omega)))
 split
 ·have h0:Bf (CW ns x++[32,61,62])=true:=by
   rw[Fp,CW,show∀l:List UInt8,(40::l)=[40]++l from fun _=>rfl,Fp,Fp,a6p fun c hc=>hn c (List.mem_of_mem_take hc)]
   rfl
  have h1:=Gc h h0
  have h2:=Na (rd:=rd) (v:=2) (c:=2) h1.w (by omega) (by omega)
  have h3:=JJ (nest:=up4 a) (sp:=true) (fr:=1) h2.w (Nb (by omega)) (by omega) hu
  have h4:=hf _ (DS (x:=x) (i:=x.kids.length-1) (by have:=hp (by omega) (by omega) (by omega) (by omega);omega)) (up4 a) _ hu h3.w
  exact CB h1 (CB h2 (CB h3 h4))
 ·have h1:=Na (rd:=rd) (v:=2) (c:=1) h (by omega) (by omega)
  have h2:=hf _ (DS (x:=x) (i:=0) (hp (by omega) (by omega) (by omega) (by omega))) a _ ha h1.w
  exact CB h1 (CB h2 (a6o hu (fun c hc=>hf c (List.mem_of_mem_drop hc)) h2.w (Gb (Nb (by omega)) h2)))
theorem a6q{ns:List Nd}{k:Int}(h:Bv ns k)(hv:AX (Al ns k)=true):Bf (Aa ns k).text=true:=b7u (Dc (Ed h)).2.2.1 hv
theorem b7C{ns:List Nd}{k:Int}(h:Bv ns k)(hv:AX (Al ns k)=true)(h1:(Aa ns k).kind≠1)(h2:(Aa ns k).kind≠2)(h3:(Aa ns k).kind≠3)(h4:(Aa ns k).kind≠4):0<(Aa ns k).kids.length:=by
 have hv:=Br.1 hv
 have hlo:=(Iq h).2.1
 unfold Al at hv
 unfold CO at hlo
 split at hlo
 ·omega
 ·split at hlo
  ·simp only at hlo;omega
  ·split at hlo
   ·simp only at hlo;omega
   ·split at hlo
    ·simp only at hlo;omega
    ·split at hlo
     ·simp only at hlo;omega
     ·omega
theorem a6r{ns:List Nd}{rd:Bool}:∀ {n:Nat} {k a:Int} {s:Bs},Bv ns k→k<n→AX (Al ns k)=true→0≤a→bW s→bG s (bV ns rd n k a s)
 |0,k,a,s,h,hk,_,_,_=>by have:=Bc.1 h.1;omega
 |n+1,k,a,s,h,hk,hv,ha,hw=>by
  rw[bV]
  refine b7B (fun c hc a s ha hw=> ?_) hw ha (a6q h hv) (fun c hc=>a6q (Cv h hc).1 (Mv h hv hc)) (b7C h hv)
  have hm:=Cv h hc
  exact a6r hm.1 (by omega) (Mv h hv hc) ha hw
def Dh(s:List UInt8):Bool:=s.getLast? ==some 61
def b00(pre:List UInt8):Bs:=⟨[],[],[],[],pre⟩
def FG(pre:List UInt8):Bs:=if Dh pre then AU (AM true (b00 pre)) 1 true 4 (Be true 2 2 (b00 pre)) else b00 pre
def Fq(ns:List Nd)(n:Nat)(k:Int)(pre:List UInt8):Bs:=bV ns true n k 0 (FG pre)
def JL(ind:Int)(s:Bs)(post:List UInt8):Pc:=⟨ind,s.rules,s.chunks++[⟨s.text++post,0,0,false,0⟩],s.spans,s.ties⟩
def bdP(ns:List Nd)(n:Nat)(k:Int)(pre post:List UInt8)(ind:Int):Pc:=JL ind (Fq ns n k pre) post
theorem b7D{pre:List UInt8}(h:Bf pre=true):bW (b00 pre):=⟨by simp [b00],by simp [b00],by simp [b00],by simp [b00],h⟩
theorem Yi{pre:List UInt8}:bOk (b00 pre):=⟨by simp [b00],by simp [b00],by simp [b00],by simp [b00]⟩
theorem b7E{pre:List UInt8}(h:Bf pre=true):bW (FG pre):=by
 have h0:=b7D h
 unfold FG
 split
 ·have h1:=Na (rd:=true) (v:=2) (c:=2) h0 (by omega) (by omega)
  exact(JJ (nest:=4) (sp:=true) (fr:=1) h1.w (Nb (by omega)) (by omega) (by omega)).w
 ·exact h0
theorem b7F{pre:List UInt8}{m:Nat}(h:pre.length+1+m≤2^61):bR m (FG pre):=by
 have h0:bR (1+m) (b00 pre):=⟨Yi,by simp [tot,Ck,b00];omega⟩
 unfold FG
 split
 ·exact JE (HR h0) (by omega)
 ·exact Dj h0 (by omega)
theorem b7G{α:Type}{l:List α}{x d:α}:(l++[x]).getLast?.getD d=x:=by simp
theorem b7H{s:Bs}{ind:Int}{post:List UInt8}(hw:bW s)(ho:bOk s)(hp:Bf post=true)(hi:0≤ind∧ind≤60):Bo (JL ind s post)=true:=by
 have hru:(JL ind s post).rules=s.rules:=rfl
 have hch:(JL ind s post).chunks=s.chunks++[⟨s.text++post,0,0,false,0⟩]:=rfl
 have hl:(JL ind s post).chunks.length=s.chunks.length+1:=by rw[hch];simp
 have h1:=ho.ru;have h2:=ho.ch
 unfold Bo
 simp only[Bool.and_eq_true,decide_eq_true_eq]
 refine⟨Br.2 hi,?_,?_,⟨ho.sp,ho.ti⟩,?_,?_⟩
 ·simp only[FC,Bool.and_eq_true,decide_eq_true_eq,List.all_eq_true]
  refine⟨h1,fun r hr=> ?_⟩
  have:=hw.ru r hr
  simp only[Eu,Bool.and_eq_true]
  exact⟨Br.2 this.1,Br.2 (by omega)⟩
 ·simp only[EI,Bool.and_eq_true]
  refine⟨Br.2 (by rw[hl];omega),a2l.2 fun i c hc=> ?_,?_⟩
  ·rw[hch] at hc
   by_cases e:i<s.chunks.length
   ·rw[List.getElem?_append_left e] at hc
    have:=hw.ch c (AY hc)
    refine⟨this.1,fun _=> ?_⟩
    simp only[Eh,Bool.and_eq_true]
    refine⟨Br.2 (by rw[hru];omega),Br.2 ?_,Br.2 this.2.2.2⟩
    have h3:=this.2.2.1
    have h4:CJ (JL ind s post) c.rule=s.rules.getD c.rule.toNat ru0:=rfl
    rw[h4];omega
   ·rw[List.getElem?_append_right (by omega)] at hc
    have hj:i-s.chunks.length=0:=by
     rcases Nat.eq_zero_or_pos (i-s.chunks.length) with h|h
     ·exact h
     ·rw[List.getElem?_eq_none (by simp;omega)] at hc;cases hc
    rw[hj] at hc
    simp at hc;subst hc
    refine⟨by show Bf (s.text++post)=true;rw[Fp,hw.tx,hp];rfl,fun hlt=> ?_⟩
    rw[hl] at hlt;omega
  ·rw[hch,b7G];rfl
 ·rw[List.all_eq_true]
  intro x hx
  have:=hw.sp x hx
  simp only[DT,Bool.and_eq_true,decide_eq_true_eq]
  rw[hl]
  exact⟨⟨this.1.1,this.1.2.1⟩,by omega,Br.2 (by omega)⟩
 ·rw[List.all_eq_true]
  intro x hx
  have:=hw.ti x hx
  simp only[FY,Bool.and_eq_true,Bool.not_eq_true',decide_eq_false_iff_not]
  rw[hru]
  exact⟨Br.2 (by omega),Br.2 (by omega),this.2.2⟩
structure bdQ (ns:List Nd) (n:Nat) (k:Int) (pre post:List UInt8) (ind:Int):Prop where
 up:Bv ns k
 lt:k<n
 vl:AX (Al ns k)=true
 tw:tW ns n k≤2^60
 pr:pre.length≤40∧Bf pre=true
 po:post.length≤40∧Bf post=true
 ind:0≤ind∧ind≤60
theorem Yj{ns:List Nd}{n:Nat}{k ind:Int}{pre post:List UInt8}(h:bdQ ns n k pre post ind):bR (tW ns n k+100) (FG pre):=b7F (by have:=h.pr;have:=h.tw;omega)
theorem SO{ns:List Nd}{n:Nat}{k ind:Int}{pre post:List UInt8}(h:bdQ ns n k pre post ind):bR 100 (Fq ns n k pre):=MP (rd:=true) (Yj h) (Mw h.up h.lt h.vl) (by omega)
theorem Nc{ns:List Nd}{n:Nat}{k ind:Int}{pre post:List UInt8}(h:bdQ ns n k pre post ind):Bo (bdP ns n k pre post ind)=true:=
 b7H (a6r h.up h.lt h.vl (by omega) (b7E h.pr.2)).w (SO h).1 h.po.2 h.ind
theorem Pg{ns:List Nd}{n:Nat}{k ind:Int}{pre post:List UInt8}(h:bdQ ns n k pre post ind):pcS (bdP ns n k pre post ind):=by
 have h1:=EV (Nc h)
 have h2:=(SO h).2
 have h3:Ck (bdP ns n k pre post ind).chunks=Ck (Fq ns n k pre).chunks+((Fq ns n k pre).text.length+post.length):=by
  rw[bdP,JL,a2a];simp [Ck]
 unfold tot at h2
 have h4:=h.po
 refine⟨⟨by have:=h1.rl;omega,by have:=h1.cl;omega⟩,⟨⟨by have:=h1.snl;omega,by have:=h1.til;omega⟩,by omega⟩,fun r hr=> ?_⟩
 have:=(h1.ru r hr).1;omega
structure Ws where
 ls:List (List UInt8)
 st:Int
structure WC where
 ns:List Nd
 w:Int
 bud:Int
def Bw(i:Int)(t:List UInt8)(s:Ws):Ws:=⟨s.ls++[blk i++t],s.st⟩
def El(p:Pc)(w bud:Int):List (List UInt8):=BF p (srF p w bud).1.best
def Ew(p:Pc)(w bud:Int):Int:=(srF p w bud).2
def Ca(c:WC)(n:Nat)(pre:List UInt8)(k:Int)(post:List UInt8)(i:Int)(s:Ws):Ws:=
 ⟨s.ls++El (bdP c.ns n k pre post i) c.w c.bud,if Ew (bdP c.ns n k pre post i) c.w c.bud=2 then 2 else s.st⟩
def IK(ns:List Nd)(k:Int)(s:Ws):Ws:=if(Aa ns k).blank then⟨s.ls++[[]],s.st⟩ else s
def Em(ns:List Nd)(f:Int→Int→Ws→Ws)(i:Int):List Int→Ws→Ws
 |[],s=>s
 |k::l,s=>Em ns f i l (f k i (IK ns k s))
def CC(ns:List Nd)(f:Int→Int→Ws→Ws)(k i:Int)(s:Ws):Ws:=Em ns f (i+2) (Aa ns k).kids s
def hdT(ns:List Nd)(x:Nd):List UInt8:=x.text++[40]++DC ns (x.kids.take (x.kids.length-1)) true++[41,32,123]
def wV1(c:WC)(n:Nat)(f:Int→Int→Ws→Ws)(x:Nd)(i:Int)(s:Ws):Ws:=
 if x.kind=19 then Bw i x.text s
 else if x.kind=12 then(if x.kids.length=0 then Bw i ([118,97,114,32]++x.text++[59]) s else Ca c n ([118,97,114,32]++x.text++[32,61]) (kd x 0) [59] i s)
 else if x.kind=13 then Ca c n (x.text++[32,61]) (kd x 0) [59] i s
 else if x.kind=14 then Ca c n [] (kd x 0) [59] i s
 else if x.kind=15 then(if x.kids.length=0 then Bw i [114,101,116,117,114,110,59] s else Ca c n [114,101,116,117,114,110,32] (kd x 0) [59] i s)
 else if x.kind=16 then Bw i [125] (if x.kids.length=3 then CC c.ns f (kd x 2) i (Bw i [125,32,101,108,115,101,32,123] (CC c.ns f (kd x 1) i (Ca c n [105,102,32,40] (kd x 0) [41,32,123] i s))) else CC c.ns f (kd x 1) i (Ca c n [105,102,32,40] (kd x 0) [41,32,123] i s))
 else if x.kind=17 then Bw i [125] (CC c.ns f (kd x 1) i (Ca c n [119,104,105,108,101,32,40] (kd x 0) [41,32,123] i s))
 else if x.kind=20 then Bw i [125] (CC c.ns f (kd x (x.kids.length-1)) i (Bw i (hdT c.ns x) s))
 else if x.kind=21 then Bw i [125] (Em c.ns f (i+2) x.kids (Bw i ([99,108,97,115,115,32]++x.text++[32,123]) s))
 else s
def wN(c:WC)(n:Nat):Nat→Int→Int→Ws→Ws
 |0,_,_,s=>s
 |m+1,k,i,s=>wV1 c n (wN c n m) (Aa c.ns k) i s
def wW(ns:List Nd):Nat→Int→Nat
 |0,_=>0
 |m+1,k=>if AX (Al ns k) then 0 else if Al ns k=18∨Al ns k=21∨Al ns k=22 then 2+(wL (wW ns m) (Aa ns k).kids+(Aa ns k).kids.length) else 85+wL (wW ns m) (Aa ns k).kids
theorem a6s{p:Pc}{w bud:Int}(h:pcOk p):(El p w bud).length≤81:=(Oo h).2
theorem p25(d:Nat)(h:2≤d):25^(d/2)=25*25^((d-2)/2):=by
 rw[show d/2=(d-2)/2+1 by omega,Nat.pow_succ,Nat.mul_comm]
structure dpP (ns:List Nd) (K:Nat) (ds:List Int):Prop where
 hd:BN ns K=some ds
theorem HT{ns:List Nd}{K:Nat}{ds:List Int}(hd:BN ns K=some ds){k c:Int}(h:Bv ns k)(hK:k<K)(hc:c∈(Aa ns k).kids):(1≤ds.getD c.toNat 0∧ds.getD c.toNat 0+1≤ds.getD k.toNat 0)∧ds.getD k.toNat 0≤14:=by
 have hr:=Bc.1 h.1
 have hm:=Cv h hc
 have hat:=Js hd k.toNat (by omega)
 rw[show((k.toNat:Nat):Int)=k by omega] at hat
 exact⟨⟨(Js hd c.toNat (by omega)).1.1,hat.2 c hc⟩,hat.1.2⟩
theorem kko{ns:List Nd}{k:Int}(h:Bv ns k):CV (Aa ns k).kind ((Aa ns k).kids.map (Al ns))=true:=(Dc (Ed h)).2.2.2.2.2.1
theorem Hn{ns:List Nd}{k:Int}(h:Bv ns k){e:Int}(he:Al ns k=e):CV e ((Aa ns k).kids.map (Al ns))=true:=by have:=kko h;rw[show(Aa ns k).kind=e from he] at this;exact this
theorem HU{ns:List Nd}{k:Int}(h:Bv ns k)(hk:Al ns k=12∨Al ns k=13∨Al ns k=14∨Al ns k=15∨Al ns k=19):∀c∈(Aa ns k).kids,AX (Al ns c)=true:=by
 have ha:∀(p:Bool),(p&&((Aa ns k).kids.map (Al ns)).all AX)=true→∀c∈(Aa ns k).kids,AX (Al ns c)=true:=fun p hp=>by
  rw[Bool.and_eq_true] at hp;exact Wb hp.2
 rcases hk with e|e|e|e|e
 ·exact ha _ (Hn h e)
 ·exact ha _ (Hn h e)
 ·exact ha _ (Hn h e)
 ·exact ha _ (Hn h e)
 ·have h:=Hn h e
  simp only[CV,true_or,or_true,if_true,decide_eq_true_eq,List.length_map] at h
  intro c hc
  rw[List.eq_nil_of_length_eq_zero h] at hc;cases hc
theorem JM{ns:List Nd}{k:Int}(h:Bv ns k)(hk:Al ns k=16):(2≤(Aa ns k).kids.length∧(Aa ns k).kids.length≤3)∧AX (Al ns (kd (Aa ns k) 0))=true∧∀c∈(Aa ns k).kids.drop 1,Al ns c=18:=by
 have h1:(decide (2≤((Aa ns k).kids.map (Al ns)).length)&&decide (((Aa ns k).kids.map (Al ns)).length≤3)&&(AX (((Aa ns k).kids.map (Al ns)).headD 0)&&(((Aa ns k).kids.map (Al ns)).drop 1).all Db))=true:=Hn h hk
 simp only[Bool.and_eq_true,decide_eq_true_eq,List.length_map,List.all_eq_true] at h1
 refine⟨h1.1,?_,fun c hc=> ?_⟩
 ·have:=h1.2.1
  match hx:(Aa ns k).kids with
  |[]=>rw[hx] at h1;simp at h1
  |d::l=>rw[hx] at this;rw[show kd (Aa ns k) 0=d by simp [kd,hx]];exact this
 ·have:=h1.2.2 (Al ns c) (by rw[←List.map_drop];exact List.mem_map.2 ⟨c,hc,rfl⟩)
  simpa [Db] using this
theorem Ph{ns:List Nd}{k:Int}(h:Bv ns k)(hk:Al ns k=17):(Aa ns k).kids.length=2∧AX (Al ns (kd (Aa ns k) 0))=true∧Al ns (kd (Aa ns k) 1)=18:=by
 have h1:(decide (((Aa ns k).kids.map (Al ns)).length=2)&&(AX (((Aa ns k).kids.map (Al ns)).headD 0)&&Db (((Aa ns k).kids.map (Al ns)).getD 1 0)))=true:=Hn h hk
 simp only[Bool.and_eq_true,decide_eq_true_eq,List.length_map] at h1
 match hx:(Aa ns k).kids with
 |[]=>rw[hx] at h1;simp at h1
 |[d]=>rw[hx] at h1;simp at h1
 |d::e::l=>
  rw[hx] at h1
  refine⟨h1.1,?_,?_⟩
  ·rw[show kd (Aa ns k) 0=d by simp [kd,hx]];exact h1.2.1
  ·rw[show kd (Aa ns k) 1=e by simp [kd,hx]];simpa [Db] using h1.2.2
theorem a6t{ns:List Nd}{k:Int}(h:Bv ns k)(hk:Al ns k=18):∀c∈(Aa ns k).kids,CN (Al ns c)=true:=by
 have h1:((Aa ns k).kids.map (Al ns)).all CN=true:=Hn h hk
 rw[List.all_eq_true] at h1
 exact fun c hc=>h1 _ (List.mem_map.2 ⟨c,hc,rfl⟩)
theorem a6u{ns:List Nd}{k:Int}(h:Bv ns k)(hk:Al ns k=21):∀c∈(Aa ns k).kids,CG (Al ns c)=true:=by
 have h1:((Aa ns k).kids.map (Al ns)).all CG=true:=Hn h hk
 rw[List.all_eq_true] at h1
 exact fun c hc=>h1 _ (List.mem_map.2 ⟨c,hc,rfl⟩)
theorem a6v{ns:List Nd}{k:Int}(h:Bv ns k)(hk:Al ns k=22):∀c∈(Aa ns k).kids,EQ (Al ns c)=true:=by
 have h1:((Aa ns k).kids.map (Al ns)).all EQ=true:=Hn h hk
 rw[List.all_eq_true] at h1
 exact fun c hc=>h1 _ (List.mem_map.2 ⟨c,hc,rfl⟩)
theorem JN{ns:List Nd}{k:Int}(h:Bv ns k)(hk:Al ns k=20):1≤(Aa ns k).kids.length∧Al ns (kd (Aa ns k) ((Aa ns k).kids.length-1))=18∧∀c∈(Aa ns k).kids.take ((Aa ns k).kids.length-1),Al ns c=1:=by
 have h1:ED Db ((Aa ns k).kids.map (Al ns))=true:=Hn h hk
 unfold ED at h1
 split at h1
 ·rename_i l hl
  rw[Bool.and_eq_true,List.all_eq_true] at h1
  have hpos:1≤(Aa ns k).kids.length:=by
   rcases Nat.eq_zero_or_pos (Aa ns k).kids.length with e|e
   ·rw[List.eq_nil_of_length_eq_zero e] at hl;simp at hl
   ·exact e
  refine⟨hpos,?_,fun c hc=> ?_⟩
  ·rw[List.getLast?_eq_getElem?,List.length_map,List.getElem?_map,Option.map_eq_some_iff] at hl
   obtain⟨d,hd,e⟩:=hl
   rw[Ct hd,e];simpa [Db] using h1.1
  ·have h2:Al ns c∈((Aa ns k).kids.map (Al ns)).dropLast:=by
    rw[List.dropLast_eq_take,List.length_map,←List.map_take]
    exact List.mem_map.2 ⟨c,hc,rfl⟩
   simpa [Dz] using h1.2 _ h2
 ·cases h1
theorem Nf{ns:List Nd}{m:Nat}{k:Int}(h:AX (Al ns k)=true):wW ns m k=0:=by
 cases m with
 |zero=>rfl
 |succ m=>rw[wW,if_pos h]
theorem Pi{w:Int→Nat}:∀ {l:List Int},(∀c∈l,w c=0)→wL w l=0
 |[],_=>rfl
 |c::l,h=>by rw[De,h c (by simp),Pi fun d hd=>h d (by simp [hd])]
theorem Yk{ns:List Nd}{m:Nat}{k:Int}{B:Nat}(h:Bv ns k)(hk:Al ns k=18∨Al ns k=21∨Al ns k=22)(hB:5≤B)(hs:∀c∈(Aa ns k).kids,wW ns m c+5≤B):wW ns (m+1) k+46≤12*B:=by
 have h1:=Jt (w:=wW ns m) (b:=B-5) (l:=(Aa ns k).kids) fun c hc=>by have:=hs c hc;omega
 have h2:=(Dc (Ed h)).2.1
 have h3:(Aa ns k).kids.length*(B-5)≤12*(B-5):=Nat.mul_le_mul_right _ h2
 have hv:AX (Al ns k)=false:=by
  rcases hk with e|e|e<;>rw[e]<;>rfl
 rw[wW,if_neg (by rw[hv];simp),if_pos hk];omega
theorem SP{a:Nat}:120≤120*25^(a/2):=by
 have:1≤25^(a/2):=Nat.one_le_pow _ _ (by omega)
 omega
theorem a6w{w:Int→Nat}{x:Nd}(h:0<x.kids.length)(h0:w (kd x 0)=0):wL w x.kids=wL w (x.kids.drop 1):=by have:=Wa (w:=w) h;omega
theorem Pj{k:Int}(h:CN k=true):k=12∨k=13∨k=14∨k=15∨k=16∨k=17∨k=19:=by
 simp only[CN,Gv,Bool.or_eq_true,decide_eq_true_eq] at h
 rcases h with h|h
 ·have:=Br.1 h;omega
 ·omega
theorem Yl{ns:List Nd}{K:Nat}{ds:List Int}(hd:BN ns K=some ds){m:Nat}(ih:∀ {k:Int} {d:Nat},Bv ns k→k<m→k<K→CN (Al ns k)=true→ds.getD k.toNat 0≤d→wW ns m k+5≤120*25^(d/2)){k c:Int}{d:Nat}(h:Bv ns k)(hm:k<(m+2:Nat))(hK:k<K)(hd':ds.getD k.toNat 0≤d)(hc:c∈(Aa ns k).kids)(hk:Al ns c=18):
 wW ns (m+1) c+46≤12*(120*25^((d-2)/2)):=by
 have h1:=Cv h hc
 have h2:=HT hd h hK hc
 refine Yk h1.1 (.inl hk) (by have:= @SP (d-2);omega) fun e he=> ?_
 have h3:=Cv h1.1 he
 have h4:=HT hd h1.1 (by omega) he
 exact ih h3.1 (by omega) (by omega) (a6t h1.1 hk e he) (by omega)
theorem Pk{ns:List Nd}{K:Nat}{ds:List Int}(hd:BN ns K=some ds):∀(m:Nat),∀ {k:Int} {d:Nat},Bv ns k→k<m→k<K→CN (Al ns k)=true→ds.getD k.toNat 0≤d→wW ns m k+5≤120*25^(d/2):=by
 intro m
 induction m using Nat.strongRecOn with
 |_ m ih=>
  intro k d h hm hK hs hle
  have hr:=Bc.1 h.1
  obtain⟨m1,rfl⟩:∃m1,m=m1+1:=⟨m-1,by omega⟩
  have hp:= @SP d
  have hv:AX (Al ns k)=false:=by
   rcases Pj hs with e|e|e|e|e|e|e<;>rw[e]<;>rfl
  have hn:¬(Al ns k=18∨Al ns k=21∨Al ns k=22):=by rcases Pj hs with e|e|e|e|e|e|e<;>omega
  rw[wW,if_neg (by rw[hv];simp),if_neg hn]
  have hval:(Al ns k=12∨Al ns k=13∨Al ns k=14∨Al ns k=15∨Al ns k=19)→wL (wW ns m1) (Aa ns k).kids=0:=fun hh=>Pi fun c hc=>Nf (HU h hh c hc)
  have hblk:∀c∈(Aa ns k).kids,Al ns c=18→wW ns m1 c+46≤12*(120*25^((d-2)/2))∧2≤d:=by
   intro c hc h18
   have h1:=Cv h hc
   have h2:=HT hd h hK hc
   obtain⟨m2,rfl⟩:∃m2,m1=m2+1:=⟨m1-1,by omega⟩
   exact⟨Yl hd (fun a b c e f=>ih m2 (by omega) a b c e f) h hm hK hle hc h18,by omega⟩
  rcases Pj hs with e|e|e|e|e|e|e
  ·rw[hval (by omega)];omega
  ·rw[hval (by omega)];omega
  ·rw[hval (by omega)];omega
  ·rw[hval (by omega)];omega
  ·obtain⟨⟨hl1,hl2⟩,hv0,hbs⟩:=JM h e
   rw[a6w (by omega) (Nf hv0)]
   have h3:=Jt (w:=wW ns m1) (b:=12*(120*25^((d-2)/2))-46) (l:=(Aa ns k).kids.drop 1) fun c hc=>by have:=(hblk c (List.mem_of_mem_drop hc) (hbs c hc)).1;omega
   have h4:((Aa ns k).kids.drop 1).length*(12*(120*25^((d-2)/2))-46)≤2*(12*(120*25^((d-2)/2))-46):=Nat.mul_le_mul_right _ (by rw[List.length_drop];omega)
   have h5:= @SP (d-2)
   have h6:2≤d:=by
    have hm:=DS (x:=Aa ns k) (i:=1) (by omega)
    have:kd (Aa ns k) 1∈(Aa ns k).kids.drop 1:=by
     have hg:(Aa ns k).kids[1]? =some (Aa ns k).kids[1]:=List.getElem?_eq_getElem (by omega)
     have e2:=List.drop_eq_getElem_cons (l:=(Aa ns k).kids) (i:=1) (by omega)
     rw[Ct hg,e2];exact List.mem_cons_self
    exact(hblk _ hm (hbs _ this)).2
   have h7:=p25 d h6
   rw[h7];omega
  ·obtain⟨hl,hv0,hb⟩:=Ph h e
   have hm:=DS (x:=Aa ns k) (i:=1) (by omega)
   have h3:=hblk _ hm hb
   have h4:=p25 d h3.2
   have h5:= @SP (d-2)
   rw[a6w (by omega) (Nf hv0)]
   have e2:(Aa ns k).kids.drop 1=[kd (Aa ns k) 1]:=by
    have hg:(Aa ns k).kids[1]? =some (Aa ns k).kids[1]:=List.getElem?_eq_getElem (by omega)
    rw[Ct hg,List.drop_eq_getElem_cons (by omega),List.drop_of_length_le (by omega)]
   rw[e2,h4];simp [wL];omega
  ·rw[hval (by omega)];omega
theorem a6x{ns:List Nd}{K:Nat}{ds:List Int}(hd:BN ns K=some ds){m:Nat}{k:Int}(h:Bv ns k)(hm:k<m)(hK:k<K)(hk:CG (Al ns k)=true)(hle:ds.getD k.toNat 0≤13):wW ns m k+5≤14062500200:=by
 have hr:=Bc.1 h.1
 by_cases e:Al ns k=20
 ·obtain⟨m1,rfl⟩:∃m1,m=m1+1:=⟨m-1,by omega⟩
  obtain⟨hl,hb,hn⟩:=JN h e
  have hmm:=DS (x:=Aa ns k) (i:=(Aa ns k).kids.length-1) (by omega)
  have h1:=Cv h hmm
  obtain⟨m2,rfl⟩:∃m2,m1=m2+1:=⟨m1-1,by omega⟩
  have h2:=Yl hd (fun a b c e f=>Pk hd m2 a b c e f) (d:=13) h hm hK hle hmm hb
  have h3:=QY (w:=wW ns (m2+1)) (x:=Aa ns k) (by omega)
  rw[Pi fun c hc=>Nf (by rw[hn c hc];rfl)] at h3
  rw[wW,e,if_neg (by decide),if_neg (by decide),←h3]
  have:12*(120*25^((13-2)/2))=14062500000:=by decide
  omega
 ·have hs:CN (Al ns k)=true:=by
   simp only[CG,Bool.or_eq_true,decide_eq_true_eq] at hk
   rcases hk with hk|hk|hk
   ·rw[hk];rfl
   ·exact absurd hk e
   ·rw[hk];rfl
  have h1:=Pk hd m (d:=13) h hm hK hs hle
  have:120*25^(13/2)=29296875000:=by decide
  have hp:Al ns k=12∨Al ns k=19:=by
   simp only[CG,Bool.or_eq_true,decide_eq_true_eq] at hk;omega
  obtain⟨m1,rfl⟩:∃m1,m=m1+1:=⟨m-1,by omega⟩
  have hz:wL (wW ns m1) (Aa ns k).kids=0:=Pi fun c hc=>Nf (HU h (by omega) c hc)
  rw[wW,if_neg (by rcases hp with e|e<;>rw[e]<;>decide),if_neg (by omega),hz];omega
theorem a6y{ns:List Nd}{K:Nat}{ds:List Int}(hd:BN ns K=some ds){m:Nat}{k:Int}(h:Bv ns k)(hm:k<m)(hK:k<K)(hk:Al ns k=21):wW ns m k+46≤168750002400:=by
 have hr:=Bc.1 h.1
 obtain⟨m1,rfl⟩:∃m1,m=m1+1:=⟨m-1,by omega⟩
 refine Yk (B:=14062500200) h (.inr (.inl hk)) (by omega) fun c hc=> ?_
 have h1:=Cv h hc
 have h2:=HT hd h hK hc
 exact a6x hd h1.1 (by omega) (by omega) (a6u h hk c hc) (by omega)
def Fr(k:Int):Bool:=CN k||(CG k||decide (k=21))
theorem b7I{ns:List Nd}{K:Nat}{ds:List Int}(hd:BN ns K=some ds){m:Nat}{k:Int}(h:Bv ns k)(hm:k<m)(hK:k<K)(hk:Fr (Al ns k)=true):wW ns m k+5≤732421875000:=by
 have hr:=Bc.1 h.1
 have hat:=(Js hd k.toNat (by omega)).1
 simp only[Fr,Bool.or_eq_true,decide_eq_true_eq] at hk
 rcases hk with hk|hk|hk
 ·have h1:=Pk hd m (d:=14) h hm hK hk (by omega)
  have:120*25^(14/2)=732421875000:=by decide
  omega
 ·by_cases e:Al ns k=20
  ·obtain⟨m1,rfl⟩:∃m1,m=m1+1:=⟨m-1,by omega⟩
   obtain⟨hl,hb,hn⟩:=JN h e
   have hmm:=DS (x:=Aa ns k) (i:=(Aa ns k).kids.length-1) (by omega)
   have h1:=Cv h hmm
   obtain⟨m2,rfl⟩:∃m2,m1=m2+1:=⟨m1-1,by omega⟩
   have h2:=Yl hd (fun a b c e f=>Pk hd m2 a b c e f) (d:=14) h hm hK (by omega) hmm hb
   have h3:=QY (w:=wW ns (m2+1)) (x:=Aa ns k) (by omega)
   rw[Pi fun c hc=>Nf (by rw[hn c hc];rfl)] at h3
   rw[wW,e,if_neg (by decide),if_neg (by decide),←h3]
   have:12*(120*25^((14-2)/2))=351562500000:=by decide
   omega
  ·have hs:CN (Al ns k)=true:=by
    simp only[CG,Bool.or_eq_true,decide_eq_true_eq] at hk
    rcases hk with hk|hk|hk
    ·rw[hk];rfl
    ·exact absurd hk e
    ·rw[hk];rfl
   have h1:=Pk hd m (d:=14) h hm hK hs (by omega)
   have:120*25^(14/2)=732421875000:=by decide
   omega
 ·have:=a6y hd h hm hK hk;omega
theorem b7J{ns:List Nd}{K:Nat}{ds:List Int}(hd:BN ns K=some ds){m:Nat}{k:Int}(h:Bv ns k)(hm:k<m)(hK:k<K)(hk:Al ns k=22):wW ns m k+46≤2025000028800:=by
 have hr:=Bc.1 h.1
 obtain⟨m1,rfl⟩:∃m1,m=m1+1:=⟨m-1,by omega⟩
 refine Yk (B:=168750002400) h (.inr (.inr hk)) (by omega) fun c hc=> ?_
 have h1:=Cv h hc
 have h2:=HT hd h hK hc
 have h3:=a6v h hk c hc
 simp only[EQ,Bool.or_eq_true,decide_eq_true_eq] at h3
 rcases h3 with h3|h3
 ·have:=a6x hd (m:=m1) h1.1 (by omega) (by omega) h3 (by omega);omega
 ·have:=a6y hd (m:=m1) h1.1 (by omega) (by omega) h3;omega
end Go.My
end
section
namespace Go.My
open Go.Eng Go.Proofs
variable {G:GInv}
theorem b7K{s:List UInt8}(h:(s.length:Int)≥1):(s.drop ((s.length:Int)-1).toNat==[61])=Dh s:=by
 have hl:((s.length:Int)-1).toNat=s.length-1:=by omega
 rw[hl]
 have h2:s≠[]:=by intro e;rw[e] at h;simp at h
 have h3:=List.dropLast_concat_getLast h2
 have h4:s.drop (s.length-1)=[s.getLast h2]:=by
  conv=>lhs;rw[←h3]
  rw[List.drop_append,List.length_dropLast];simp
 rw[h4,Dh,List.getLast?_eq_some_getLast h2]
 simp
theorem b7L{s:List UInt8}(h:¬(s.length:Int)≥1):false=Dh s:=by
 have:s=[]:=List.eq_nil_of_length_eq_zero (by omega)
 subst this;rfl
def Lr:Sig:= {X:=List UInt8×List UInt8,args:=fun x=>[.str x.1,.str x.2],pre:=fun x=>x.2=[61]∧x.1.length≤2^62,Y:=Unit,post:=fun x y=>True,res:=fun x y=> .bool (Dh x.1),outs:=fun x y=>[.top,.top],keep:=false}
theorem b7M:Ah G Tryz.prog 111 Lr:=
 vcFun_okP [] [] false (fun x=>[]) Tryz.func111 rfl (by decide) trivial (fun(x:List UInt8×List UInt8)=>(∀(y:Unit),True→True∧True∧True∧True)∧Ab (decide ((↑(List.length x.1):Int)≥(↑(List.length x.2):Int))) (inR IntKind.i64 ((↑(List.length x.1):Int)-(↑(List.length x.2):Int))∧((0:Int)≤(↑(List.length x.1):Int)-(↑(List.length x.2):Int)∧(↑(List.length x.1):Int)-(↑(List.length x.2):Int)≤(↑(List.length x.1):Int)∧(↑(List.length x.1):Int)≤(↑(List.length x.1):Int))∧rA Lr x [.bool (List.drop (Int.toNat ((↑(List.length x.1):Int)-(↑(List.length x.2):Int))) x.1==x.2),.top,.top]) (rA Lr x [.bool false,.top,.top])) (fun x=>by kernel_rfl) fun(x:List UInt8×List UInt8) (hx:x.2=[61]∧x.1.length≤2^62)=>(by
 dsimp only[rA,Lr,Aq,Aw]
 obtain⟨s,t⟩:=x;dsimp only at hx ⊢
 obtain⟨rfl,h2⟩:=hx
 (repeat' first|(with_reducible first|rfl|exact True.intro|apply AG|apply And.intro|((first|apply Au|apply AE|apply Av|apply AF)<;>intro _))|(apply As<;>intro _)|apply AD|refine Af () ?_ ?_|((first|apply AK|apply AJ|apply AI|apply AH|apply AC|apply AB|apply AA|apply Az|apply Ax)<;>try dsimp only)|apply Af|(refine Prod.forall.2 ?_;intro _;try dsimp only)|(intro _;try dsimp only))
 all_goals first
  |rfl
  |exact b7L ‹_›
  |exact b7K ‹_›
  |((try simp only[Ai,List.length_cons,List.length_nil] at*);omega)
  |skip)
def IL:Sig:= {X:=List UInt8×List UInt8,args:=fun x=>[.str x.1,.str x.2],pre:=fun x=>x.2=[61]∧x.1.length≤2^62,Y:=Unit,post:=fun x y=>True,res:=fun x y=> .bool (Dh x.1),outs:=fun x y=>[.top,.top],keep:=false}
theorem a6z:Ah G Tryz.prog 78 IL:=
 vcFun_okP [(111,0,Lr)] [] false (fun x=>[]) Tryz.func78 rfl (by decide) ⟨b7M,trivial⟩ (fun(x:List UInt8×List UInt8)=>(∀(y:Unit),True→True∧True∧True∧True)∧cA Lr [.str x.1,.str x.2] fun x_1 y=>rA IL x [.bool (Dh x_1.1),.top,.top]) (fun x=>by kernel_rfl) fun(x:List UInt8×List UInt8) (hx:x.2=[61]∧x.1.length≤2^62)=>(by
 dsimp only[cA,rA,IL,Lr,Aq,Aw,mvL,lnL,mvE,lnE,mvG,mvH,lnG,lnH]
 obtain⟨s,t⟩:=x;dsimp only at hx ⊢
 obtain⟨rfl,h2⟩:=hx
 (repeat' first|(with_reducible first|rfl|exact True.intro|apply AG|apply And.intro|((first|apply Au|apply AE|apply Av|apply AF)<;>intro _))|(apply As<;>intro _)|apply AD|refine Af () ?_ ?_|((first|apply AK|apply AJ|apply AI|apply AH|apply AC|apply AB|apply AA|apply Az|apply Ax)<;>try dsimp only)|apply Af|(refine Prod.forall.2 ?_;intro _;try dsimp only)|(intro _;try dsimp only))
 all_goals first
  |rfl
  |exact h2
  |skip)
def Di(s:List UInt8):Bool:=decide (s.length≤40)&&Bf s
def JO:Sig:= {X:=List UInt8,args:=fun x=>[.str x],pre:=fun x=>x.length<2^62,Y:=Unit,post:=fun x y=>True,res:=fun x y=> .bool (Di x),outs:=fun x y=>[.top],keep:=false}
theorem b7N:Ah G Tryz.prog 37 JO:=
 vcFun_okP [(77,0,EE)] [] false (fun x=>[]) Tryz.func37 rfl (by decide) ⟨Qs,trivial⟩ (fun(x:List UInt8)=>(∀(y:Unit),True→True∧True∧True)∧Ab (decide ((↑(List.length x):Int)≤(40:Int))) (cA EE [.str x] fun x_1 y=>rA JO x [.bool (List.all x_1 Bx),.top]) (rA JO x [.bool false,.top])) (fun x=>by kernel_rfl) fun(x:List UInt8) (hx:x.length<2^62)=>(by
 dsimp only[cA,rA,EE,JO,Aq,Aw,mvL,lnL,mvE,lnE,mvG,mvH,lnG,lnH]
 have hx:x.length<2^62:=hx
 (repeat' first|(with_reducible first|rfl|exact True.intro|apply AG|apply And.intro|((first|apply Au|apply AE|apply Av|apply AF)<;>intro _))|(apply As<;>intro _)|apply AD|refine Af () ?_ ?_|((first|apply AK|apply AJ|apply AI|apply AH|apply AC|apply AB|apply AA|apply Az|apply Ax)<;>try dsimp only)|apply Af|(refine Prod.forall.2 ?_;intro _;try dsimp only)|(intro _;try dsimp only))
 all_goals first
  |rfl
  |omega
  |(simp [Di,Bf];omega)
  |(simp only[Di,Bf];rw[decide_eq_true (show x.length≤40 by omega)];rfl)
  |skip)
def Cx(ns:List Nd)(k:Int):Bool:=Bh ns k&&(AX (Al ns k)&&decide (0<BA ns k))
def JP:Sig:= {X:=List Nd×Int,args:=fun x=>[nds x.1,.int .i64 x.2],pre:=fun x=>CH x.1∧x.1.length≤2^30,Y:=Unit,post:=fun x y=>True,res:=fun x y=> .bool (Cx x.1 x.2),outs:=fun x y=>[.top,.top],keep:=false}
theorem b7O:Ah G Tryz.prog 35 JP:=
 vcFun_okP [(57,0,Eb),(76,0,EF),(58,0,Fj)] [] false (fun x=>[]) Tryz.func35 rfl (by decide) ⟨Od,QA,VQ,trivial⟩ (fun(x:List Nd×Int)=>(∀(y:Unit),True→True∧True∧True∧True)∧cA Eb [nds x.1,.int .i64 x.2] fun x_1 y=>Ab (Bh x_1.1 x_1.2) (((0:Int)≤x.2∧x.2<(↑(List.length x.1):Int))∧∀(e:Nd),x.1[Int.toNat x.2]? =some e→cA EF [.int .i64 e.kind] fun x_2 y=>Ab (AX x_2) (cA Fj [nds x.1,.int .i64 x.2] fun x_3 y=>rA JP x [.bool (decide (BA x_3.1 x_3.2>(0:Int))),.top,.top]) (rA JP x [.bool false,.top,.top])) (rA JP x [.bool false,.top,.top])) (fun x=>by kernel_rfl) fun(x:List Nd×Int) (hx:CH x.1∧x.1.length≤2^30)=>(by
 dsimp only[cA,Bg,nds,rA,Fj,Eb,EF,JP,Aq,Aw,mvL,lnL,mvE,lnE,mvG,mvH,lnG,lnH]
 obtain⟨ns,k⟩:=x;dsimp only at hx ⊢
 obtain⟨h1,h2⟩:=hx
 (repeat' first|(with_reducible first|rfl|exact True.intro|apply AG|apply And.intro|((first|apply Au|apply AE|apply Av|apply AF)<;>intro _))|(apply As<;>intro _)|apply AD|refine Af () ?_ ?_|((first|apply AK|apply AJ|apply AI|apply AH|apply AC|apply AB|apply AA|apply Az|apply Ax)<;>try dsimp only)|apply Af|(refine Prod.forall.2 ?_;intro _;try dsimp only)|(intro _;try dsimp only))
 all_goals(try(have hi:=Bc.1 (show Bh ns k=true by assumption)))
 all_goals first
  |rfl
  |exact⟨h1,h2⟩
  |omega
  |(simp [Cx, *];done)
  |(rename ns[_]? =some _=>he;simp [Cx,Ek he, *];done)
  |skip)
theorem SQ{β:Type}{q:BC×β→Prop}(c:BC)(h:∃b,q (c,b)):∃x,q x:=let⟨b,hb⟩:=h;⟨(c,b),hb⟩
theorem Ym{pre:List UInt8}(h:pre.length≤40):bB (b00 pre):=⟨Yi,by simp [tot,Ck,b00];omega⟩
theorem a6A{pre:List UInt8}{t:Bs}(ht:t=Be true 2 2 (b00 pre))(h:pre.length≤40):bB t:=by
 subst ht
 have h1:=Ym h
 exact CY (m:=0) (HR ⟨h1.ok,h1.tt⟩)
theorem a6B{ns:List Nd}{n:Nat}{k ind:Int}{pre post:List UInt8}{t u:Bs}(ht:t=AU (AM true (b00 pre)) 1 true 4 u)(hu:u=Be true 2 2 (b00 pre))(he:Dh pre=true)(h:bdQ ns n k pre post ind):vlP ns n t k 0:=by
 have e:t=FG pre:=by rw[FG,if_pos he,ht,hu]
 rw[e];exact⟨h.up,h.lt,h.vl,Dj (Yj h) (by omega),by omega⟩
theorem a6C{ns:List Nd}{n:Nat}{k ind:Int}{pre post:List UInt8}(he:Dh pre=false)(h:bdQ ns n k pre post ind):vlP ns n (b00 pre) k 0:=by
 have e:b00 pre=FG pre:=by rw[FG,if_neg (by rw[he];simp)]
 rw[e];exact⟨h.up,h.lt,h.vl,Dj (Yj h) (by omega),by omega⟩
theorem a6D{ns:List Nd}{n:Nat}{k ind o:Int}{pre:List UInt8}{t u v:Bs}(hv:BK ⟨ind,ns,true⟩ n t k 0 o v)(ht:t=AU (AM true (b00 pre)) 1 true 4 u)(hu:u=Be true 2 2 (b00 pre))(he:Dh pre=true):v=Fq ns n k pre:=by
 have e:t=FG pre:=by rw[FG,if_pos he,ht,hu]
 rw[Fq,←e];exact hv.1
theorem a6E{ns:List Nd}{n:Nat}{k ind o:Int}{pre:List UInt8}{v:Bs}(hv:BK ⟨ind,ns,true⟩ n (b00 pre) k 0 o v)(he:Dh pre=false):v=Fq ns n k pre:=by
 have e:b00 pre=FG pre:=by rw[FG,if_neg (by rw[he];simp)]
 rw[Fq,←e];exact hv.1
theorem SR{ns:List Nd}{n:Nat}{k ind:Int}{pre post:List UInt8}{r1:List Ru}{r2:List Ch}{r3:List Sn}{r4:List Ti}{r5:List UInt8}(h:⟨r1,r2,r3,r4,r5⟩=Fq ns n k pre):(r1=(bdP ns n k pre post ind).rules∧r2++[⟨r5++post,0,0,false,0⟩]=(bdP ns n k pre post ind).chunks)∧r3=(bdP ns n k pre post ind).spans∧r4=(bdP ns n k pre post ind).ties:=by
 rw[bdP,←h];exact⟨⟨rfl,rfl⟩,rfl,rfl⟩
theorem b7P{ns:List Nd}{n:Nat}{k ind:Int}{pre post:List UInt8}{r1:List Ru}{r2:List Ch}{r3:List Sn}{r4:List Ti}{r5:List UInt8}(h:⟨r1,r2,r3,r4,r5⟩=Fq ns n k pre)(hx:bdQ ns n k pre post ind):r2.length≤79∧r5.length≤2^61:=by
 have:=SO hx
 rw[←h] at this
 exact⟨this.1.ch,Hi (CY this)⟩
def SS(n:Nat):Sig:= {X:=List Nd×Int×List UInt8×List UInt8×Int,args:=fun x=>[nds x.1,.int .i64 x.2.1,.str x.2.2.1,.str x.2.2.2.1,.int .i64 x.2.2.2.2],pre:=fun x=>bdQ x.1 n x.2.1 x.2.2.1 x.2.2.2.1 x.2.2.2.2,Y:=Unit,post:=fun x y=>True,res:=fun x y=> .tup [.agg (pcA true (bdP x.1 n x.2.1 x.2.2.1 x.2.2.2.1 x.2.2.2.2)),.bool true],outs:=fun x y=>[.top,.top,.top,.top,.top],keep:=false}
def Yn(n:Nat)(x:List Nd×Int×List UInt8×List UInt8×Int):Prop:=∃(y:Unit),True∧((0:Int)=(bdP x.1 n x.2.1 x.2.2.1 x.2.2.2.1 x.2.2.2.2).ind∧((bdP x.1 n x.2.1 x.2.2.1 x.2.2.2.1 x.2.2.2.2).rules=[]∧((bdP x.1 n x.2.1 x.2.2.1 x.2.2.2.1 x.2.2.2.2).chunks=[]∧((bdP x.1 n x.2.1 x.2.2.1 x.2.2.2.1 x.2.2.2.2).spans=[]∧(bdP x.1 n x.2.1 x.2.2.1 x.2.2.2.1 x.2.2.2.2).ties=[]∧false=true∧True))))
theorem b7Q(n:Nat):Ah G Tryz.prog 38 (SS n):=
 vcFun_okP [(78,0,IL),(79,0,DG),(80,0,CX),(81,0,(Ci n)),(82,0,DE)] [(28,⟨Ch,chA⟩)] false (fun x=>[]) Tryz.func38 rfl (by decide) ⟨a6z,MN,MO,(XY n),a2A,trivial⟩ (fun(x:List Nd×Int×List UInt8×List UInt8×Int)=>(∀(y:Unit),True→((True∧(∀(x:Ru),True∧True∧True)∧(∀(x:Ch),True∧True∧True∧True∧True∧True)∧(∀(x:Sn),True∧True∧True∧True)∧(∀(x:Ti),True∧True∧True)∧True)∧True∧True)∧True∧True∧True∧True∧True∧True)∧cA IL [.str x.2.2.1,.str #[(61:UInt8)].toList] fun x_1 y=>Ab (Dh x_1.1) (cA DG [.box 0 [.int .i64 x.2.2.2.2,.nil,.nil,.nil,.nil,nds x.1,.str x.2.2.1,.bool true],.int .i64 (2:Int),.int .i64 (2:Int)] fun x_2 y=>cA CX [.box 0 [.int .i64 x_2.1.ind,AV.sl true 0 2 Ru ruA (yBW y).rules,AV.sl true 0 5 Ch chA (yBW y).chunks,AV.sl true 0 3 Sn snA (yBW y).spans,AV.sl true 0 2 Ti tiA (yBW y).ties,nds x_2.1.ns,.str (yBW y).text,.bool x_2.1.rd],.int .i64 (AM x_2.1.rd (xC x_2)),.int .i64 (1:Int),.bool true,.int .i64 (4:Int)] fun x_3 y=>cA (Ci n) [.box 0 [.int .i64 x_3.1.ind,AV.sl true 0 2 Ru ruA (yBW y).rules,AV.sl true 0 5 Ch chA (yBW y).chunks,AV.sl true 0 3 Sn snA (yBW y).spans,AV.sl true 0 2 Ti tiA (yBW y).ties,nds x_3.1.ns,.str (yBW y).text,.bool x_3.1.rd],.int .i64 x.2.1,.int .i64 (0:Int)] fun x_4 y=>(↑(List.length (yBW y.2).text+List.length x.2.2.2.1):Int)≤IntKind.max IntKind.i64∧∃(x_5:Ch),(yBW y.2).text++x.2.2.2.1=x_5.text∧(0:Int)=x_5.rule∧(0:Int)=x_5.fr∧false=x_5.space∧(0:Int)=x_5.nest∧∃(zs:List Ch),AV.sl true 0 5 Ch chA [x_5]=AV.sl true 0 5 Ch chA zs∧BH chA∧Bb (List.length (yBW y.2).chunks+List.length zs) (48:Nat)∧cA DE [.agg [.int .i64 x_4.1.ind,AV.sl true 0 2 Ru ruA (yBW y.2).rules,AV.sl true 0 5 Ch chA ((yBW y.2).chunks++zs),AV.sl true 0 3 Sn snA (yBW y.2).spans,AV.sl true 0 2 Ti tiA (yBW y.2).ties]] fun x_6 y_1=>Ab (!Bo x_6) (Yn n x) (∃(y_2:Unit),True∧x_4.1.ind=(bdP x.1 n x.2.1 x.2.2.1 x.2.2.2.1 x.2.2.2.2).ind∧AV.sl true 0 2 Ru ruA (yBW y.2).rules=AV.sl true 0 2 Ru ruA (bdP x.1 n x.2.1 x.2.2.1 x.2.2.2.1 x.2.2.2.2).rules∧AV.sl true 0 5 Ch chA ((yBW y.2).chunks++zs)=AV.sl true 0 5 Ch chA (bdP x.1 n x.2.1 x.2.2.1 x.2.2.2.1 x.2.2.2.2).chunks∧AV.sl true 0 3 Sn snA (yBW y.2).spans=AV.sl true 0 3 Sn snA (bdP x.1 n x.2.1 x.2.2.1 x.2.2.2.1 x.2.2.2.2).spans∧AV.sl true 0 2 Ti tiA (yBW y.2).ties=AV.sl true 0 2 Ti tiA (bdP x.1 n x.2.1 x.2.2.1 x.2.2.2.1 x.2.2.2.2).ties∧true=true∧True)) (cA (Ci n) [.box 0 [.int .i64 x.2.2.2.2,.nil,.nil,.nil,.nil,nds x.1,.str x.2.2.1,.bool true],.int .i64 x.2.1,.int .i64 (0:Int)] fun x_2 y=>(↑(List.length (yBW y.2).text+List.length x.2.2.2.1):Int)≤IntKind.max IntKind.i64∧∃(x_3:Ch),(yBW y.2).text++x.2.2.2.1=x_3.text∧(0:Int)=x_3.rule∧(0:Int)=x_3.fr∧false=x_3.space∧(0:Int)=x_3.nest∧∃(zs:List Ch),AV.sl true 0 5 Ch chA [x_3]=AV.sl true 0 5 Ch chA zs∧BH chA∧Bb (List.length (yBW y.2).chunks+List.length zs) (48:Nat)∧cA DE [.agg [.int .i64 x_2.1.ind,AV.sl true 0 2 Ru ruA (yBW y.2).rules,AV.sl true 0 5 Ch chA ((yBW y.2).chunks++zs),AV.sl true 0 3 Sn snA (yBW y.2).spans,AV.sl true 0 2 Ti tiA (yBW y.2).ties]] fun x_4 y_1=>Ab (!Bo x_4) (Yn n x) (∃(y_2:Unit),True∧x_2.1.ind=(bdP x.1 n x.2.1 x.2.2.1 x.2.2.2.1 x.2.2.2.2).ind∧AV.sl true 0 2 Ru ruA (yBW y.2).rules=AV.sl true 0 2 Ru ruA (bdP x.1 n x.2.1 x.2.2.1 x.2.2.2.1 x.2.2.2.2).rules∧AV.sl true 0 5 Ch chA ((yBW y.2).chunks++zs)=AV.sl true 0 5 Ch chA (bdP x.1 n x.2.1 x.2.2.1 x.2.2.2.1 x.2.2.2.2).chunks∧AV.sl true 0 3 Sn snA (yBW y.2).spans=AV.sl true 0 3 Sn snA (bdP x.1 n x.2.1 x.2.2.1 x.2.2.2.1 x.2.2.2.2).spans∧AV.sl true 0 2 Ti tiA (yBW y.2).ties=AV.sl true 0 2 Ti tiA (bdP x.1 n x.2.1 x.2.2.1 x.2.2.2.1 x.2.2.2.2).ties∧true=true∧True))) (fun x=>by kernel_rfl) fun(x:List Nd×Int×List UInt8×List UInt8×Int) (hx:bdQ x.1 n x.2.1 x.2.2.1 x.2.2.2.1 x.2.2.2.2)=>(by
 dsimp only[Yn,buA,cA,Bl,Bg,nds,pcA,Bj,DG,CX,Ci,DE,IL,Bm,sns,Bn,tis,Aq,Aw,mvL,lnL,mvE,lnE,mvG,mvH,lnG,lnH]
 obtain⟨ns,k,pre,post,ind⟩:=x;dsimp only at hx ⊢
 have hx:bdQ ns n k pre post ind:=hx
 have hp:=hx.pr.1;have hp2:=hx.po.1
 (repeat' first|refine RX ?_|refine SQ ⟨ind,ns,true⟩ ?_|refine Iu (bdP ns n k pre post ind) ?_|(with_reducible first|rfl|exact True.intro|apply AG|apply And.intro|((first|apply Au|apply AE|apply Av|apply AF)<;>intro _))|(apply As<;>intro _)|apply AD|refine Af () ?_ ?_|((first|apply AK|apply AJ|apply AI|apply AH|apply AC|apply AB|apply AA|apply Az|apply Ax)<;>try dsimp only)|apply Af|(refine Prod.forall.2 ?_;intro _;try dsimp only)|(intro _;try dsimp only))
 all_goals(try dsimp only[yBW,xC,zBW,zI,wB] at*)
 all_goals(try(first|(have hE:=a6D (show BK _ _ _ _ _ _ _ by assumption) ‹_› ‹_› ‹_›)|(have hE:=a6E (show BK _ _ _ _ _ _ _ by assumption) ‹_›)))
 all_goals first
  |with_reducible rfl
  |exact Ym hp
  |exact a6A ‹_› hp
  |exact a6B ‹_› ‹_› ‹_› hx
  |exact a6C ‹_› hx
  |exact(SR hE).1.1
  |exact(SR hE).1.2
  |exact(SR hE).2.1
  |exact(SR hE).2.2
  |exact Pg hx
  |(exfalso;rename Bo _=false=>hf;rw[Nc hx] at hf;cases hf)
  |(have hl:=b7P hE hx;(try simp only[Ai,Bb,List.length_cons,List.length_nil]);omega)
  |omega
  |rfl
  |skip)
def pc0:Pc:=⟨0,[],[],[],[]⟩
def CQ(ns:List Nd)(k:Int)(pre post:List UInt8)(ind:Int):Bool:=Cx ns k&&(inn ind 0 60&&(Di pre&&Di post))
structure pfP (ns:List Nd) (n:Nat) (k:Int) (pre post:List UInt8):Prop where
 ok:CH ns
 l30:ns.length≤2^30
 ln:ns.length≤n
 tw:Cx ns k=true→tW ns n k≤2^60
 pr:pre.length<2^62
 po:post.length<2^62
theorem a6F{ns:List Nd}{k:Int}(h:Cx ns k=true):Bv ns k∧AX (Al ns k)=true:=by
 simp only[Cx,Bool.and_eq_true,decide_eq_true_eq] at h
 exact⟨HH (by omega),h.2.1⟩
theorem a6G{ns:List Nd}{n:Nat}{k ind:Int}{pre post:List UInt8}(h:pfP ns n k pre post)(h1:Cx ns k=true)(h2:inn ind 0 60=true)(h3:Di pre=true)(h4:Di post=true):bdQ ns n k pre post ind:=by
 have hv:=a6F h1
 have hr:=Bc.1 hv.1.1
 simp only[Di,Bool.and_eq_true,decide_eq_true_eq] at h3 h4
 exact⟨hv.1,by have:=h.ln;omega,hv.2,h.tw h1,h3,h4,Br.1 h2⟩
def pfR(ns:List Nd)(n:Nat)(k:Int)(pre post:List UInt8)(ind:Int):Pc:=if CQ ns k pre post ind then bdP ns n k pre post ind else pc0
theorem Yo{ns:List Nd}{n:Nat}{k ind:Int}{pre post:List UInt8}(h1:Cx ns k=true)(h2:inn ind 0 60=true)(h3:Di pre=true)(h4:Di post=true):pfR ns n k pre post ind=bdP ns n k pre post ind∧CQ ns k pre post ind=true:=by
 have:CQ ns k pre post ind=true:=by simp [CQ, *]
 exact⟨by rw[pfR,if_pos this],this⟩
theorem Pl{ns:List Nd}{n:Nat}{k ind:Int}{pre post:List UInt8}(h:((Cx ns k=false∨inn ind 0 60=false)∨Di pre=false)∨Di post=false):pfR ns n k pre post ind=pc0∧CQ ns k pre post ind=false:=by
 have:CQ ns k pre post ind=false:=by
  rcases h with((h|h)|h)|h<;>simp [CQ,h]
 exact⟨by rw[pfR,if_neg (by rw[this];simp)],this⟩
def Pm(n:Nat):Sig:= {X:=List Nd×Int×List UInt8×List UInt8×Int,args:=fun x=>[nds x.1,.int .i64 x.2.1,.str x.2.2.1,.str x.2.2.2.1,.int .i64 x.2.2.2.2],pre:=fun x=>pfP x.1 n x.2.1 x.2.2.1 x.2.2.2.1,Y:=Unit,post:=fun x y=>True,res:=fun x y=> .tup [.agg (pcA true (pfR x.1 n x.2.1 x.2.2.1 x.2.2.2.1 x.2.2.2.2)),.bool (CQ x.1 x.2.1 x.2.2.1 x.2.2.2.1 x.2.2.2.2)],outs:=fun x y=>[.top,.top,.top,.top,.top],keep:=false}
def Pn(n:Nat)(x:List Nd×Int×List UInt8×List UInt8×Int):Prop:=∃(y:Unit),True∧((0:Int)=(pfR x.1 n x.2.1 x.2.2.1 x.2.2.2.1 x.2.2.2.2).ind∧((pfR x.1 n x.2.1 x.2.2.1 x.2.2.2.1 x.2.2.2.2).rules=[]∧((pfR x.1 n x.2.1 x.2.2.1 x.2.2.2.1 x.2.2.2.2).chunks=[]∧((pfR x.1 n x.2.1 x.2.2.1 x.2.2.2.1 x.2.2.2.2).spans=[]∧((pfR x.1 n x.2.1 x.2.2.1 x.2.2.2.1 x.2.2.2.2).ties=[]∧false=CQ x.1 x.2.1 x.2.2.1 x.2.2.2.1 x.2.2.2.2∧True)))))
theorem b7R(n:Nat):Ah G Tryz.prog 8 (Pm n):=
 vcFun_okP [(35,0,JP),(36,0,BG),(37,0,JO),(38,0,(SS n))] [] false (fun x=>[]) Tryz.func8 rfl (by decide) ⟨b7O,Gw,b7N,(b7Q n),trivial⟩ (fun(x:List Nd×Int×List UInt8×List UInt8×Int)=>(∀(y:Unit),True→((True∧(∀(x:Ru),True∧True∧True)∧(∀(x:Ch),True∧True∧True∧True∧True∧True)∧(∀(x:Sn),True∧True∧True∧True)∧(∀(x:Ti),True∧True∧True)∧True)∧True∧True)∧True∧True∧True∧True∧True∧True)∧cA JP [nds x.1,.int .i64 x.2.1] fun x_1 y=>Ab (!Cx x_1.1 x_1.2) (Pn n x) (cA BG [.int .i64 x.2.2.2.2,.int .i64 (0:Int),.int .i64 (60:Int)] fun x_2 y=>Ab (!inn x_2.1 x_2.2.1 x_2.2.2) (Pn n x) (cA JO [.str x.2.2.1] fun x_3 y=>Ab (!Di x_3) (Pn n x) (cA JO [.str x.2.2.2.1] fun x_4 y=>Ab (!Di x_4) (Pn n x) (cA (SS n) [nds x.1,.int .i64 x.2.1,.str x.2.2.1,.str x.2.2.2.1,.int .i64 x.2.2.2.2] fun x_5 y=>∃(y:Unit),True∧(bdP x_5.1 n x_5.2.1 x_5.2.2.1 x_5.2.2.2.1 x_5.2.2.2.2).ind=(pfR x.1 n x.2.1 x.2.2.1 x.2.2.2.1 x.2.2.2.2).ind∧AV.sl true 0 2 Ru ruA (bdP x_5.1 n x_5.2.1 x_5.2.2.1 x_5.2.2.2.1 x_5.2.2.2.2).rules=AV.sl true 0 2 Ru ruA (pfR x.1 n x.2.1 x.2.2.1 x.2.2.2.1 x.2.2.2.2).rules∧AV.sl true 0 5 Ch chA (bdP x_5.1 n x_5.2.1 x_5.2.2.1 x_5.2.2.2.1 x_5.2.2.2.2).chunks=AV.sl true 0 5 Ch chA (pfR x.1 n x.2.1 x.2.2.1 x.2.2.2.1 x.2.2.2.2).chunks∧AV.sl true 0 3 Sn snA (bdP x_5.1 n x_5.2.1 x_5.2.2.1 x_5.2.2.2.1 x_5.2.2.2.2).spans=AV.sl true 0 3 Sn snA (pfR x.1 n x.2.1 x.2.2.1 x.2.2.2.1 x.2.2.2.2).spans∧AV.sl true 0 2 Ti tiA (bdP x_5.1 n x_5.2.1 x_5.2.2.1 x_5.2.2.2.1 x_5.2.2.2.2).ties=AV.sl true 0 2 Ti tiA (pfR x.1 n x.2.1 x.2.2.1 x.2.2.2.1 x.2.2.2.2).ties∧true=CQ x.1 x.2.1 x.2.2.1 x.2.2.2.1 x.2.2.2.2∧True))))) (fun x=>by kernel_rfl) fun(x:List Nd×Int×List UInt8×List UInt8×Int) (hx:pfP x.1 n x.2.1 x.2.2.1 x.2.2.2.1)=>(by
 dsimp only[Pn,cA,Bl,Bg,nds,pcA,Bj,BG,SS,JO,JP,Bm,Bn,Aq,Aw,mvL,lnL,mvE,lnE,mvG,mvH,lnG,lnH]
 obtain⟨ns,k,pre,post,ind⟩:=x;dsimp only at hx ⊢
 have hx:pfP ns n k pre post:=hx
 (repeat' first|(with_reducible first|rfl|exact True.intro|apply AG|apply And.intro|((first|apply Au|apply AE|apply Av|apply AF)<;>intro _))|(apply As<;>intro _)|apply AD|refine Af () ?_ ?_|((first|apply AK|apply AJ|apply AI|apply AH|apply AC|apply AB|apply AA|apply Az|apply Ax)<;>try dsimp only)|apply Af|(refine Prod.forall.2 ?_;intro _;try dsimp only)|(intro _;try dsimp only))
 all_goals(try(first|(have hF:= @Pl ns n k ind pre post (.inl (.inl (.inl ‹_›))))|(have hF:= @Pl ns n k ind pre post (.inl (.inl (.inr ‹_›))))|(have hF:= @Pl ns n k ind pre post (.inl (.inr ‹_›)))|(have hF:= @Pl ns n k ind pre post (.inr ‹_›))|(have hF:= @Yo ns n k ind pre post ‹_› ‹_› ‹_› ‹_›)))
 all_goals first
  |with_reducible rfl
  |exact hx.ok
  |exact hx.l30
  |exact hx.pr
  |exact hx.po
  |exact a6G hx ‹_› ‹_› ‹_› ‹_›
  |(rw[hF.1];done)
  |(rw[hF.1];rfl)
  |exact hF.2.symm
  |(rw[hF.2];done)
  |skip)
def Ho(ns:List Nd)(n:Nat)(k:Int):List UInt8:=(bV ns false n k 0 (b00 [])).text
structure plP (ns:List Nd) (n:Nat) (k:Int):Prop where
 up:Bv ns k
 lt:k<n
 vl:AX (Al ns k)=true
 tw:tW ns n k≤2^60
theorem a6H{ns:List Nd}{n:Nat}{k:Int}(h:plP ns n k):vlP ns n (b00 []) k 0:=⟨h.up,h.lt,h.vl,⟨Yi,by have:=h.tw;simp [tot,Ck,b00];omega⟩,by omega⟩
def Ls(n:Nat):Sig:= {X:=List Nd×Int,args:=fun x=>[nds x.1,.int .i64 x.2],pre:=fun x=>plP x.1 n x.2,Y:=Unit,post:=fun x y=>True,res:=fun x y=> .str (Ho x.1 n x.2),outs:=fun x y=>[.top,.top],keep:=false}
theorem b7S(n:Nat):Ah G Tryz.prog 39 (Ls n):=
 vcFun_okP [(81,0,(Ci n))] [] false (fun x=>[]) Tryz.func39 rfl (by decide) ⟨(XY n),trivial⟩ (fun(x:List Nd×Int)=>(∀(y:Unit),True→True∧True∧True∧True)∧cA (Ci n) [.box 0 [.int .i64 (0:Int),.nil,.nil,.nil,.nil,nds x.1,.str #[].toList,.bool false],.int .i64 x.2,.int .i64 (0:Int)] fun x_1 y=>rA (Ls n) x [.str (yBW y.2).text,.top,.top]) (fun x=>by kernel_rfl) fun(x:List Nd×Int) (hx:plP x.1 n x.2)=>(by
 dsimp only[buA,cA,Bl,Bg,nds,rA,Bj,Ci,Ls,Bm,Bn,Aq,Aw,mvL,lnL,mvE,lnE,mvG,mvH,lnG,lnH]
 obtain⟨ns,k⟩:=x;dsimp only at hx ⊢
 have hx:plP ns n k:=hx
 (repeat' first|refine SQ ⟨0,ns,false⟩ ?_|(with_reducible first|rfl|exact True.intro|apply AG|apply And.intro|((first|apply Au|apply AE|apply Av|apply AF)<;>intro _))|(apply As<;>intro _)|apply AD|refine Af () ?_ ?_|((first|apply AK|apply AJ|apply AI|apply AH|apply AC|apply AB|apply AA|apply Az|apply Ax)<;>try dsimp only)|apply Af|(refine Prod.forall.2 ?_;intro _;try dsimp only)|(intro _;try dsimp only))
 all_goals(try dsimp only[yBW,xC,zBW,zI,wB] at*)
 all_goals first
  |with_reducible rfl
  |exact a6H hx
  |(rename BK _ _ _ _ _ _ _=>hq;exact congrArg Bs.text hq.1)
  |rfl
  |skip)
end Go.My
end
section
namespace Go.My
open Go.Eng
structure trC (c:WC) (n:Nat):Prop where
 ok:CH c.ns
 l30:c.ns.length≤2^30
 ln:c.ns.length≤n
 tx:txS c.ns≤1048576
structure ndV (c:WC) (n m:Nat) (k i:Int):Prop where
 tr:trC c n
 up:Bv c.ns k
 lt:k<m
 tk:Fr (Al c.ns k)=true
 dp:∃K ds,BN c.ns K=some ds∧k<K∧i+ds.getD k.toNat 0+(if Al c.ns k=21 then 1 else 0)≤59
 i0:0≤i
def alV(c:WC)(n m:Nat)(ks:List Int)(i:Int):Prop:=∀e∈ks,ndV c n m e i
theorem a6I{c:WC}{n m:Nat}{k i:Int}(h:ndV c n m k i):0≤i∧i≤59:=by
 obtain⟨K,ds,hd,hk,hi⟩:=h.dp
 have hr:=Bc.1 h.up.1
 have:=(Js hd k.toNat (by omega)).1
 have:=h.i0
 split at hi<;>omega
theorem a6J{ns:List Nd}:∀ {m m':Nat} {k:Int},Bv ns k→k<m→k<m'→wW ns m k=wW ns m' k
 |0,_,k,h,hm,_=>by have:=Bc.1 h.1;omega
 |_+1,0,k,h,_,hm=>by have:=Bc.1 h.1;omega
 |m+1,m'+1,k,h,hm,hm'=>by
  have e:∀l:List Int,(∀c∈l,c∈(Aa ns k).kids)→wL (wW ns m) l=wL (wW ns m') l:=by
   intro l
   induction l with
   |nil=>intro _;rfl
   |cons c l ih=>
    intro hl
    have h1:=Cv h (hl c (by simp))
    rw[De,De,a6J (m:=m) (m':=m') h1.1 (by omega) (by omega),ih fun d hd=>hl d (by simp [hd])]
  rw[wW,wW,e _ fun c hc=>hc]
theorem b7T{ns:List Nd}{K:Nat}{ds:List Int}(hd:BN ns K=some ds){k:Int}(h:Bv ns k)(hK:k<K)(hv:AX (Al ns k)=true):Cx ns k=true:=by
 have hr:=Bc.1 h.1
 have h1:∃es,BN ns (k.toNat+1)=some es:=by
  cases e:BN ns (k.toNat+1) with
  |none=>rw[Vv e (m:=K) (by omega)] at hd;cases hd
  |some es=>exact⟨es,rfl⟩
 obtain⟨es,he⟩:=h1
 have h2:=a9V h.1 he
 have h3:= @Vw ns k
 simp only[Cx,Bool.and_eq_true,decide_eq_true_eq]
 exact⟨h.1,hv,by omega⟩
structure vwP (c:WC) (n:Nat) (pre:List UInt8) (k:Int) (post:List UInt8) (i:Int):Prop where
 tr:trC c n
 bd:bdQ c.ns n k pre post i
 va:Cx c.ns k=true
theorem a6K{c:WC}{n m:Nat}{k i d:Int}{pre post:List UInt8}(h:ndV c n m k i)(hc:d∈(Aa c.ns k).kids)(hv:AX (Al c.ns d)=true)(hp:pre.length≤40∧Bf pre=true)(hq:post.length≤40∧Bf post=true):vwP c n pre d post i:=by
 obtain⟨K,ds,hd,hk,hi⟩:=h.dp
 have h1:=Cv h.up hc
 have h2:=HT hd h.up hk hc
 have h3:=a6I h
 have hr:=Bc.1 h1.1.1
 have hl:=h.tr.ln
 refine⟨h.tr,⟨h1.1,by omega,hv,?_,hp,hq,by omega⟩,b7T hd h1.1 (by omega) hv⟩
 have:=b3m hd (n:=n) h1.1 (by omega) (by omega) hv (by omega) h.tr.tx
 omega
theorem b7U{c:WC}{n m:Nat}{k i b:Int}(h:ndV c n (m+1) k i)(hk:¬Al c.ns k=21)(hb:b∈(Aa c.ns k).kids)(h18:Al c.ns b=18):alV c n m (Aa c.ns b).kids (i+2):=by
 obtain⟨K,ds,hd,hk,hi⟩:=h.dp
 have h1:=Cv h.up hb
 have h2:=HT hd h.up hk hb
 intro e he
 have h3:=Cv h1.1 he
 have h4:=HT hd h1.1 (by omega) he
 have h5:=a6t h1.1 h18 e he
 have h6:=h.lt;have h7:=h.i0
 refine⟨h.tr,h3.1,by omega,by simp [Fr,h5],⟨K,ds,hd,by omega,?_⟩,by omega⟩
 have h8:¬Al c.ns e=21:=by rcases Pj h5 with e|e|e|e|e|e|e<;>omega
 rw[if_neg h8]
 split at hi<;>omega
theorem Yp{c:WC}{n m:Nat}{k i:Int}(h:ndV c n (m+1) k i)(hk:Al c.ns k=21):alV c n m (Aa c.ns k).kids (i+2):=by
 obtain⟨K,ds,hd,hkK,hi⟩:=h.dp
 rw[if_pos hk] at hi
 intro e he
 have h3:=Cv h.up he
 have h4:=HT hd h.up hkK he
 have h5:=a6u h.up hk e he
 have h6:=h.lt;have h7:=h.i0
 refine⟨h.tr,h3.1,by omega,by simp [Fr,h5],⟨K,ds,hd,by omega,?_⟩,by omega⟩
 have h8:¬Al c.ns e=21:=by simp only[CG,Bool.or_eq_true,decide_eq_true_eq] at h5;omega
 rw[if_neg h8];omega
theorem ST{c:WC}{n:Nat}{pre post:List UInt8}{k i:Int}{s:Ws}(h:vwP c n pre k post i):(Ca c n pre k post i s).ls.length≤s.ls.length+81:=by
 have:=a6s (w:=c.w) (bud:=c.bud) (EV (Nc h.bd))
 simp only[Ca,List.length_append];omega
theorem Gd{i:Int}{t:List UInt8}{s:Ws}:(Bw i t s).ls.length=s.ls.length+1:=by simp [Bw]
theorem a6L{ns:List Nd}{k:Int}{s:Ws}:(IK ns k s).ls.length≤s.ls.length+1:=by unfold IK;split<;>simp
theorem Po{c:WC}{n m:Nat}(ih:∀ {k i:Int} {s:Ws},ndV c n m k i→(wN c n m k i s).ls.length≤s.ls.length+wW c.ns m k){i:Int}:∀ {l:List Int} {s:Ws},alV c n m l i→(Em c.ns (wN c n m) i l s).ls.length≤s.ls.length+(wL (wW c.ns m) l+l.length)
 |[],s,_=>by rw[Em];omega
 |k::l,s,h=>by
  have h1:=ih (s:=IK c.ns k s) (h k (by simp))
  have h2:=Po ih (i:=i) (l:=l) (s:=wN c n m k i (IK c.ns k s)) fun e he=>h e (by simp [he])
  have h3:= @a6L c.ns k s
  rw[Em,De,List.length_cons];omega
def bkW(ns:List Nd)(m:Nat)(b:Int):Nat:=wL (wW ns m) (Aa ns b).kids+(Aa ns b).kids.length
theorem b7V{ns:List Nd}{m:Nat}{k b:Int}(h:Bv ns k)(hm:k<(m+1:Nat))(hb:b∈(Aa ns k).kids)(h18:Al ns b=18):2+bkW ns m b=wW ns m b:=by
 have h1:=Cv h hb
 have hr:=Bc.1 h1.1.1
 obtain⟨m1,rfl⟩:∃m1,m=m1+1:=⟨m-1,by omega⟩
 have e:∀l:List Int,(∀c∈l,c∈(Aa ns b).kids)→wL (wW ns (m1+1)) l=wL (wW ns m1) l:=by
  intro l
  induction l with
  |nil=>intro _;rfl
  |cons c l ih=>
   intro hl
   have h2:=Cv h1.1 (hl c (by simp))
   rw[De,De,a6J (m:=m1+1) (m':=m1) h2.1 (by omega) (by omega),ih fun d hd=>hl d (by simp [hd])]
 rw[bkW,e _ fun c hc=>hc]
 conv=>rhs;rw[wW,h18]
 rw[if_neg (by decide),if_pos (.inl rfl)]
theorem b7W{ns:List Nd}{m:Nat}{k:Int}(h:¬(Al ns k=18∨Al ns k=21∨Al ns k=22))(hv:AX (Al ns k)=false):wW ns (m+1) k=85+wL (wW ns m) (Aa ns k).kids:=by
 rw[wW,if_neg (by rw[hv];simp),if_neg h]
theorem Yq{k:Int}(h:Fr k=true):AX k=false∧(k=12∨k=13∨k=14∨k=15∨k=16∨k=17∨k=19∨k=20∨k=21):=by
 have:k=12∨k=13∨k=14∨k=15∨k=16∨k=17∨k=19∨k=20∨k=21:=by
  simp only[Fr,Bool.or_eq_true,decide_eq_true_eq,CG] at h
  rcases h with h|h
  ·have:=Pj h;omega
  ·omega
 refine⟨?_,this⟩
 rcases this with e|e|e|e|e|e|e|e|e<;>rw[e]<;>rfl
end Go.My
end
